/- A part of the proof: a machine on trees that is sound for the model, its tables, and contracts of functions. Conditions: none. -/
import Derived.Test.YtpookgemmjdgfaaGreatAeMe
import Derived.DataReads
import Derived.DataElems
import Derived.ChangeShapes
import Derived.WideShapes
import Derived.Carry
namespace Go.Ae
open Go.RowKit

/-! ### Arguments, as trees -/
def G0 (W : World) : Gh := { st := fun g => match W.heap[g]? with | some (.cells cs _ _) => some (cs.size, none) | _ => none, at_ := fun _ => none, N := 0 }
theorem G0_st {W : World} {g : Nat} {x : Nat × Option Nat} (h : (G0 W).st g = some x) : g < W.heap.size ∧ x.2 = none := by
  simp only [G0] at h
  split at h
  · rename_i cs _ _ hg
    refine ⟨?_, by injection h with h; rw [← h]⟩
    exact (Array.getElem?_eq_some_iff.1 hg).1
  · cases h
theorem rel_G0 (W : World) : Rel (· < W.heap.size) W (G0 W) W T0 := by
  refine ⟨Kept.refl _ _, fun k hk => hk, fun g x hs => (G0_st hs).1, fun g n id hs => (by have := (G0_st hs).2; cases this), fun b g hb => (by cases hb), fun b o hb => (by cases hb), fun b o hb => (by cases hb), Nat.le_refl _, fun b c g ⟨o, hb⟩ => (by cases hb)⟩
theorem stb_G0 {W : World} {ad : Addr} {i : Nat} {u : Value} (h : W.cell? (ad.add i) = some u) : Stb (G0 W) ad.block (ad.off + i) := by
  rw [cell_add W ad i u h] at h
  unfold World.cell? at h
  unfold Stb G0
  simp only at h ⊢
  split at h <;> simp_all
  exact (Array.getElem?_eq_some_iff.1 (by assumption)).1
def contB (P : Program) : List Field → Nat → Option Nat
  | [], o => some o
  | f :: fs, o => if f.offset = o then contB P fs (o + P.cellsOf f.type) else none
/-- Types of plain values: numbers, texts, slices and structs of them. -/
def tyB (P : Program) : Nat → TypeId → Bool
  | 0, _ => false
  | k + 1, t =>
    match P.underlying t with
    | some .bool => true
    | some (.int _) => true
    | some (.float _) => true
    | some .string => true
    | some (.slice e) => tyB P k e
    | some (.struct fs) => (contB P fs.toList 0 == some (P.cellsOf t)) && fs.toList.all fun f => tyB P k f.type
    | _ => false
/-- The cells of a value of a type. -/
def TyOk (P : Program) : Nat → TypeId → List V → Prop
  | 0, _, _ => False
  | k + 1, t, vs =>
    match P.underlying t with
    | some .bool => ∃ b, vs = [.lit (.bool b)]
    | some (.int kd) => ∃ x, vs = [.lit (.int kd x)] ∧ (Lit.int kd x).wf = true
    | some (.float kd) => ∃ x, vs = [.lit (.float kd x)]
    | some .string => ∃ s, vs = [.lit (.string s)] ∧ s.size ≤ maxLen
    | some (.slice e) => ∃ cells n, vs = [.sl cells n .no] ∧ n ≤ maxLen ∧ cells.length = n * P.cellsOf e ∧ ∀ i, i < n → TyOk P k e ((cells.drop (i * P.cellsOf e)).take (P.cellsOf e))
    | some (.struct fs) => vs.length = P.cellsOf t ∧ ∀ f ∈ fs.toList, TyOk P k f.type ((vs.drop f.offset).take (P.cellsOf f.type))
    | _ => False
def RelL (W : World) (vs : List V) (cs : List Value) : Prop := vs.length = cs.length ∧ ∀ (i : Nat) (x : V) (u : Value), vs[i]? = some x → cs[i]? = some u → VRel (G0 W) W x u ∧ V.Pure x
theorem RelL.one {W : World} {x : V} {u : Value} (h : VRel (G0 W) W x u) (hp : V.Pure x) : RelL W [x] [u] := ⟨rfl, fun i y v h1 h2 => by
  cases i with
  | zero => simp at h1 h2; subst h1; subst h2; exact ⟨h, hp⟩
  | succ i => simp at h1⟩
theorem RelL.app {W : World} {vs vs' : List V} {cs cs' : List Value} (h : RelL W vs cs) (h' : RelL W vs' cs') : RelL W (vs ++ vs') (cs ++ cs') := by
  refine ⟨by rw [List.length_append, List.length_append, h.1, h'.1], fun i x u h1 h2 => ?_⟩
  by_cases hi : i < vs.length
  · rw [List.getElem?_append_left hi] at h1
    rw [List.getElem?_append_left (h.1 ▸ hi)] at h2
    exact h.2 i x u h1 h2
  · rw [List.getElem?_append_right (by omega)] at h1
    rw [List.getElem?_append_right (by have := h.1; omega), ← h.1] at h2
    exact h'.2 _ x u h1 h2
theorem contB_le (P : Program) : ∀ (fs : List Field) (o n : Nat), contB P fs o = some n → o ≤ n ∧ ∀ f ∈ fs, o ≤ f.offset
  | [], o, n, h => by simp only [contB, Option.some.injEq] at h; subst h; exact ⟨Nat.le_refl _, fun f hf => by cases hf⟩
  | f :: fs, o, n, h => by
    simp only [contB] at h
    split at h
    · rename_i ho
      obtain ⟨h1, h2⟩ := contB_le P fs _ _ h
      refine ⟨by omega, fun g hg => ?_⟩
      rcases List.mem_cons.1 hg with rfl | hg
      · omega
      · have := h2 g hg; omega
    · cases h
theorem fields_rel {P : Program} {W : World} {k : Nat} {cs : List Value} : ∀ (fs : List Field) (o n : Nat), contB P fs o = some n → cs.length = n →
    (∀ f ∈ fs, ∃ vs, RelL W vs ((cs.drop f.offset).take (P.cellsOf f.type)) ∧ TyOk P k f.type vs) →
    ∃ vs, RelL W vs (cs.drop o) ∧ ∀ f ∈ fs, TyOk P k f.type ((vs.drop (f.offset - o)).take (P.cellsOf f.type))
  | [], o, n, h, hl, _ => by
    simp only [contB, Option.some.injEq] at h
    subst h
    exact ⟨[], by rw [List.drop_of_length_le (by omega)]; exact ⟨rfl, fun i x u h => by simp at h⟩, fun f hf => by cases hf⟩
  | f :: fs, o, n, h, hl, hf => by
    simp only [contB] at h
    split at h
    · rename_i ho
      obtain ⟨vs2, h1, h2⟩ := fields_rel fs _ n h hl (fun g hg => hf g (List.mem_cons_of_mem _ hg))
      obtain ⟨vs1, h3, h4⟩ := hf f List.mem_cons_self
      rw [ho] at h3
      obtain ⟨hle, hoff⟩ := contB_le P fs _ _ h
      have hlen : vs1.length = P.cellsOf f.type := by rw [h3.1, List.length_take, List.length_drop]; omega
      refine ⟨vs1 ++ vs2, ?_, fun g hg => ?_⟩
      · have := h3.app h1
        rwa [show (cs.drop o).take (P.cellsOf f.type) ++ cs.drop (o + P.cellsOf f.type) = cs.drop o by rw [← List.drop_drop, List.take_append_drop]] at this
      · rcases List.mem_cons.1 hg with rfl | hg
        · rw [ho, Nat.sub_self, List.drop_zero, List.take_append_of_le_length (by omega), List.take_of_length_le (by omega)]
          exact h4
        · have := hoff g hg
          have h5 := h2 g hg
          rw [show g.offset - o = vs1.length + (g.offset - (o + P.cellsOf f.type)) by omega, ← List.drop_drop, List.drop_left]
          exact h5
    · cases h
theorem elems_rel {P : Program} {W : World} {k : Nat} {e : TypeId} {a : Addr} : ∀ (n : Nat), (∀ i, i < n → ∃ cs vs, W.cells? 0 (a.add (i * P.cellsOf e)) (P.cellsOf e) = some cs ∧ RelL W vs cs ∧ TyOk P k e vs) →
    ∃ cells : List V, cells.length = n * P.cellsOf e ∧ (∀ i x, cells[i]? = some x → ∃ u, W.cell? (a.add i) = some u ∧ VRel (G0 W) W x u ∧ V.Pure x) ∧ ∀ i, i < n → TyOk P k e ((cells.drop (i * P.cellsOf e)).take (P.cellsOf e))
  | 0, _ => ⟨[], by simp, fun i x h => by simp at h, fun i hi => by omega⟩
  | n + 1, h => by
    obtain ⟨cells, h1, h2, h3⟩ := elems_rel n (fun i hi => h i (by omega))
    obtain ⟨cs, vs, h4, h5, h6⟩ := h n (by omega)
    obtain ⟨_, h7, h8⟩ := World.cells?_some h4
    have hvl : vs.length = P.cellsOf e := h5.1.trans h7
    refine ⟨cells ++ vs, by rw [List.length_append, h1, hvl, Nat.add_mul, Nat.one_mul], fun i x hx => ?_, fun i hi => ?_⟩
    · by_cases hi : i < cells.length
      · rw [List.getElem?_append_left hi] at hx
        exact h2 i x hx
      · rw [List.getElem?_append_right (by omega)] at hx
        have hlt : i - cells.length < P.cellsOf e := by
          have := (List.getElem?_eq_some_iff.1 hx).1
          omega
        have hc := h8 _ hlt
        have hlt2 : i - cells.length < cs.length := by omega
        rw [List.getElem?_eq_getElem hlt2, Addr.add_add, ← h1, show cells.length + (i - cells.length) = i by omega] at hc
        exact ⟨_, hc, h5.2 _ x _ hx (List.getElem?_eq_getElem hlt2)⟩
    · by_cases hin : i < n
      · have hle : i * P.cellsOf e + P.cellsOf e ≤ cells.length := by
          rw [h1, ← Nat.succ_mul]
          exact Nat.mul_le_mul_right _ hin
        rw [List.drop_append_of_le_length (by omega), List.take_append_of_le_length (by rw [List.length_drop]; omega)]
        exact h3 i hin
      · obtain rfl : i = n := by omega
        rw [← h1, List.drop_left, List.take_of_length_le (by omega)]
        exact h6
theorem trod_v {H : Type} {enc : TypeId × Value → H} {P : Program} {W : World} {sp : Nat → Bool} {held : Bool} : ∀ (k : Nat) (t : TypeId), tyB P k t = true → ∀ (fuel : Nat) (cs : List Value) (d : DataW H) (ps : List MemPlace), DataW.trod enc P W 0 sp held fuel t cs = some (d, ps) →
    ∃ vs, RelL W vs cs ∧ TyOk P k t vs := by
  intro k
  induction k with
  | zero => intro t h; simp [tyB] at h
  | succ k ih =>
    intro t h fuel cs d ps hd
    cases fuel with
    | zero => simp [DataW.trod] at hd
    | succ fuel =>
      unfold tyB at h
      unfold DataW.trod at hd
      split at h
      · rename_i ht
        rw [ht] at hd
        split at hd <;> simp_all
        rename_i b
        exact ⟨[.lit (.bool b)], RelL.one (.lit _ rfl) (.lit _), by simp only [TyOk, ht]; exact ⟨b, rfl⟩⟩
      · rename_i kd ht
        rw [ht] at hd
        split at hd <;> simp_all
        rename_i n1 hk
        subst hk
        exact ⟨[.lit (.int _ n1)], RelL.one (.lit _ rfl) (.lit _), by simp only [TyOk, ht]; exact ⟨n1, rfl, hd.1.2⟩⟩
      · rename_i kd ht
        rw [ht] at hd
        split at hd <;> simp_all
        rename_i n1 hk
        subst hk
        exact ⟨[.lit (.float _ n1)], RelL.one (.lit _ rfl) (.lit _), by simp only [TyOk, ht]; exact ⟨n1, rfl⟩⟩
      · rename_i ht
        rw [ht] at hd
        split at hd <;> simp_all
        rename_i s
        exact ⟨[.lit (.string s)], RelL.one (.lit _ rfl) (.lit _), by simp only [TyOk, ht]; exact ⟨s, rfl, hd.1⟩⟩
      · rename_i e ht
        rw [ht] at hd
        split at hd <;> (try simp_all; done)
        · refine ⟨[.sl [] 0 .no], RelL.one (.sl [] 0 .no none 0 (fun _ => .nilIface) (Nat.le_refl _) (Nat.zero_le _) (fun _ => ⟨rfl, rfl, rfl⟩) (fun _ h => by cases h) (fun i x h => by simp at h) trivial) (.sl _ _ _ (.inl rfl) (fun x hx => by cases hx)), ?_⟩
          simp only [TyOk, ht]
          exact ⟨[], 0, rfl, Nat.zero_le _, by simp, fun i hi => by omega⟩
        · rename_i e' a len cap heq1
          have he : e = e' := by simpa using heq1
          subst he
          simp only at hd
          split at hd
          · rename_i hb
            cases hel : (List.range len).mapM fun i => (W.cells? 0 (a.add (i * P.cellsOf e)) (P.cellsOf e)).bind (DataW.trod enc P W 0 sp held fuel e) with
            | none => rw [hel] at hd; simp at hd
            | some elems =>
              obtain ⟨cells, c1, c2, c3⟩ := elems_rel (P := P) (W := W) (k := k) (e := e) (a := a) len (fun i hi => by
                have hg := mapM_some_get hel i i (by simp [hi])
                have hlen := mapM_some_length hel
                simp only [List.length_range] at hlen
                rw [List.getElem?_eq_getElem (by omega : i < elems.length)] at hg
                obtain ⟨cs1, g1, g2⟩ := Option.bind_eq_some_iff.1 hg
                obtain ⟨vs1, g3, g4⟩ := ih e h fuel cs1 _ _ g2
                exact ⟨cs1, vs1, g1, g3, g4⟩)
              refine ⟨[.sl cells len .no], RelL.one (.sl cells len .no (some a) cap (fun i => (W.cell? (a.add i)).getD .nilIface) hb.2.1 hb.2.2 (fun h => by cases h) (fun ad had i hi => ?_) (fun i x hx => ?_) trivial) (.sl _ _ _ (.inl rfl) fun x hx => ?_), ?_⟩
              · injection had with had
                subst had
                obtain ⟨u, hu, _⟩ := c2 i _ (List.getElem?_eq_getElem hi)
                exact ⟨stb_G0 hu, by rw [hu]; rfl⟩
              · obtain ⟨u, hu, hv⟩ := c2 i x hx
                rw [hu]
                exact hv.1
              · obtain ⟨i, hi, hxi⟩ := List.getElem_of_mem hx
                obtain ⟨u, hu, hv⟩ := c2 i x (by rw [List.getElem?_eq_getElem hi, hxi])
                exact hv.2
              · simp only [TyOk, ht]
                exact ⟨cells, len, rfl, Nat.le_trans hb.2.1 hb.2.2, c1, c3⟩
          · cases hd
      · rename_i fs ht
        rw [ht] at hd
        simp only [Bool.and_eq_true, beq_iff_eq, List.all_eq_true] at h
        have hd' : (if cs.length = P.cellsOf t then (fs.toList.mapM fun f => DataW.trod enc P W 0 sp held fuel f.type ((cs.drop f.offset).take (P.cellsOf f.type))).map fun xs => (DataW.agg (xs.map (·.1)), xs.flatMap (·.2)) else none) = some (d, ps) := by
          split at hd <;> simp_all
        split at hd'
        · rename_i hl
          cases hel : fs.toList.mapM fun f => DataW.trod enc P W 0 sp held fuel f.type ((cs.drop f.offset).take (P.cellsOf f.type)) with
          | none => rw [hel] at hd'; simp at hd'
          | some xs =>
            obtain ⟨vs, v1, v2⟩ := fields_rel (P := P) (W := W) (k := k) (cs := cs) fs.toList 0 _ h.1 hl (fun f hf => by
              obtain ⟨i, hi, hfi⟩ := List.getElem_of_mem hf
              have hg := mapM_some_get hel i f (by rw [List.getElem?_eq_getElem hi, hfi])
              have hlen := mapM_some_length hel
              rw [List.getElem?_eq_getElem (by omega : i < xs.length)] at hg
              exact ih f.type (h.2 f hf) fuel _ _ _ hg)
            rw [List.drop_zero] at v1
            refine ⟨vs, v1, ?_⟩
            simp only [TyOk, ht]
            exact ⟨v1.1.trans hl, fun f hf => by simpa using v2 f hf⟩
        · cases hd'
      · cases h
end Go.Ae
