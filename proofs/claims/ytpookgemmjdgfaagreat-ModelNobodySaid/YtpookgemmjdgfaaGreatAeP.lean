/- A part of the proof: a machine on trees that is sound for the model, its tables, and contracts of functions. Conditions: none. -/
import Derived.Test.YtpookgemmjdgfaaGreatAeR
namespace Go.Ae
open Go.RowKit

/-! ### Functions that only reckon: no label goes in, none comes out -/
inductive V.Pure : V → Prop where
  | any : V.Pure .any
  | lit (v : Value) : V.Pure (.lit v)
  | sl (cells : List V) (n : Nat) (tok : Tok) : (tok = .no ∨ tok = .exact ∨ tok = .nil) → (∀ x ∈ cells, V.Pure x) → V.Pure (.sl cells n tok)
  | ep (cells : List V) (off : Nat) : (∀ x ∈ cells, V.Pure x) → V.Pure (.ep cells off)
  | fn (f : Fn) (xs ys : List V) : (∀ x ∈ xs, V.Pure x) → (∀ x ∈ ys, V.Pure x) → V.Pure (.fn f xs ys)
  | ifc (t : TypeId) (v : V) : V.Pure v → V.Pure (.ifc t v)
  | agg (cs : List V) : (∀ x ∈ cs, V.Pure x) → V.Pure (.agg cs)
  | tup (cs : List V) : (∀ x ∈ cs, V.Pure x) → V.Pure (.tup cs)
/-- Of the stable cells alone. -/
def StLe (G : Gh) (w : World) (G' : Gh) (w' : World) : Prop :=
  ∀ g n own, G.st g = some (n, own) → ∃ n' own', G'.st g = some (n', own') ∧ n ≤ n' ∧ ∀ i, i < n → w'.cell? ⟨g, i, none⟩ = w.cell? ⟨g, i, none⟩
theorem Stb.le {G G' : Gh} {w w' : World} (h : StLe G w G' w') {ad : Addr} {i : Nat} {u : Value} (hs : Stb G ad.block (ad.off + i)) (hc : w.cell? (ad.add i) = some u) :
    Stb G' ad.block (ad.off + i) ∧ w'.cell? (ad.add i) = some u := by
  have e := cell_add w ad i u hc
  obtain ⟨n, own, h1, h2⟩ := hs
  obtain ⟨n', own', h3, h4, h5⟩ := h _ n own h1
  refine ⟨⟨n', own', h3, by omega⟩, ?_⟩
  rw [e] at hc ⊢
  exact (h5 _ h2).trans hc
theorem VRel.pure {G G' : Gh} {w w' : World} (h : StLe G w G' w') {v : V} {u : Value} (hv : VRel G w v u) : v.Pure → VRel G' w' v u := by
  induction hv with
  | any u => intro _; exact .any u
  | lit u hu => intro _; exact .lit u hu
  | sl cells n tok a c u h1 h2 h3 h4 _ h6 ih =>
    intro hp
    cases hp with
    | sl _ _ _ ht hc =>
      refine .sl cells n tok a c u h1 h2 h3 (fun ad ha i hi => (h4 ad ha i hi).1.le h (h4 ad ha i hi).2) (fun i x hx => ih i x hx (hc x (List.mem_of_getElem? hx))) ?_
      rcases ht with rfl | rfl | rfl
      · trivial
      · exact h6
      · exact h6
  | ep cells off ad u h4 _ ih =>
    intro hp
    cases hp with
    | ep _ _ hc => exact .ep cells off ad u (fun i hi => (h4 i hi).1.le h (h4 i hi).2) (fun i x hx => ih i x hx (hc x (List.mem_of_getElem? hx)))
  | ptr b off g h1 h2 => intro hp; cases hp
  | ms b off n g c ex h1 h2 h3 h4 h5 => intro hp; cases hp
  | mp b g h1 h2 => intro hp; cases hp
  | fn f xs ys us vs h1 h2 _ _ ih1 ih2 =>
    intro hp
    cases hp with
    | fn _ _ _ hx hy => exact .fn f xs ys us vs h1 h2 (fun i x u hxi hu => ih1 i x u hxi hu (hx x (List.mem_of_getElem? hxi))) (fun i x u hxi hu => ih2 i x u hxi hu (hy x (List.mem_of_getElem? hxi)))
  | ifc t x u _ ih => intro hp; cases hp with | ifc _ _ hx => exact .ifc t x u (ih hx)
  | agg xs us h1 _ ih => intro hp; cases hp with | agg _ hx => exact .agg xs us h1 (fun i x u hxi hu => ih i x u hxi hu (hx x (List.mem_of_getElem? hxi)))
  | tup xs us h1 _ ih => intro hp; cases hp with | tup _ hx => exact .tup xs us h1 (fun i x u hxi hu => ih i x u hxi hu (hx x (List.mem_of_getElem? hxi)))
/-- A function that only reckons. -/
def Comes (P : Program) (f : FuncId) (args : List V) (v : V) : Prop := ∀ (T : Tb) (Q : V → Tb → Prop), Q v T → ACalls P f args T Q
def T0 : Tb := ⟨fun _ => none, 0⟩
theorem comes_of {P : Program} {f : FuncId} {args : List V} {v : V} (ha : ∀ x ∈ args, V.Pure x) (hv : v.Pure) (h : ACalls P f args T0 fun v' _ => v' = v) : Comes P f args v := by
  intro T Q hq B w0 G w us hr hl
  let G1 : Gh := { st := fun g => (G.st g).map fun x => (x.1, none), at_ := fun _ => none, N := 0 }
  have hst1 : ∀ g n own, G1.st g = some (n, own) → own = none ∧ ∃ o, G.st g = some (n, o) := by
    intro g n own hs
    cases hg : G.st g with
    | none => simp [G1, hg] at hs
    | some x => obtain ⟨m, o⟩ := x; simp [G1, hg] at hs; exact ⟨hs.2.symm, o, by rw [hs.1]⟩
  have hr1 : Rel (· < w.heap.size) w G1 w T0 := by
    refine ⟨Kept.refl _ _, fun k hk => hk, fun g x hs => ?_, fun g n id hs => ?_, fun b g hb => (by cases hb), fun b o hb => (by cases hb), fun b o hb => (by cases hb), Nat.le_refl _, fun b c g ⟨o, hb⟩ => (by cases hb)⟩
    · obtain ⟨n, own⟩ := x
      obtain ⟨_, o, h1⟩ := hst1 g n own hs
      exact hr.st_lt g _ h1
    · obtain ⟨h1, _⟩ := hst1 g n _ hs
      cases h1
  have hle1 : StLe G w G1 w := fun g n own hs => ⟨n, none, by simp [G1, hs], Nat.le_refl _, fun _ _ => rfl⟩
  have hl1 : LRel G1 w args us := ⟨hl.1, fun i x u hx hu => (hl.2 i x u hx hu).pure hle1 (ha x (List.mem_of_getElem? hx))⟩
  refine (h (· < w.heap.size) w G1 w us hr1 hl1).mono ?_
  rintro e w' ⟨u, v', G', T', rfl, hle, hvr, hr', rfl⟩
  let G2 : Gh := { G with st := fun g => if g < w.heap.size then G.st g else (G'.st g).map fun x => (x.1, none) }
  have hb := hr'.below
  have old : ∀ g, g < w.heap.size → G2.st g = G.st g := fun g hg => by simp [G2, hg]
  have own2 : ∀ g m id, G2.st g = some (m, some id) → g < w.heap.size ∧ G.st g = some (m, some id) := by
    intro g m id hs
    by_cases hg : g < w.heap.size
    · rw [old g hg] at hs; exact ⟨hg, hs⟩
    · simp only [G2, if_neg hg] at hs
      cases hx : G'.st g with
      | none => rw [hx] at hs; cases hs
      | some x => rw [hx] at hs; simp at hs
  have hle2 : Le G w G2 w' := by
    refine ⟨Nat.le_refl _, fun _ _ => rfl, fun g n own hs => ?_, fun g m id _ hs => (own2 g m id hs).2, fun g cs e fr hc => ?_, hb.size, fun g hg _ => old g hg⟩
    · have hg := hr.st_lt g _ hs
      exact ⟨n, own, (old g hg).trans hs, Nat.le_refl _, fun i _ => World.cell?_of_block (w := w) (a := ⟨g, i, none⟩) (hb.block g hg)⟩
    · have hg := (Array.getElem?_eq_some_iff.1 hc).1
      exact ⟨cs, fr, (hb.block g hg).trans hc, rfl⟩
  have hr2 : Rel B w0 G2 w' T := by
    have hB := hr.hB
    refine ⟨hr.below.trans ⟨hb.os, hb.tape, hb.output, hb.size, fun k hk => hb.block k (hB k hk)⟩, fun k hk => Nat.lt_of_lt_of_le (hB k hk) hb.size, fun g x hs => ?_, fun g n id hs => ?_, fun b g hg => ?_, fun b o ho => ?_, hr.objlt, hr.lim, hr.inj⟩
    · by_cases hg : g < w.heap.size
      · exact Nat.lt_of_lt_of_le hg hb.size
      · simp only [G2, if_neg hg] at hs
        cases hx : G'.st g with
        | none => rw [hx] at hs; cases hs
        | some y => exact hr'.st_lt g y hx
    · obtain ⟨hg, hs⟩ := own2 g n id hs
      obtain ⟨h1, h2, h3, cur, e, h4, h5⟩ := hr.st_own g n id hs
      exact ⟨h1, h2, h3, cur, e, (hb.block g hg).trans h4, h5⟩
    · have := hr.at_lt b g hg; exact ⟨this.1, Nat.lt_of_lt_of_le this.2 hb.size⟩
    · exact (hr.obj b o ho).mono hle2 (hr.objlt b o ho) fun g hg => ⟨old g (hr.at_lt b g hg).2, hb.block g (hr.at_lt b g hg).2⟩
  have hst2 : StLe G' w' G2 w' := by
    intro g n own hs
    by_cases hg : g < w.heap.size
    · have hk := hle.keep g hg (fun n id hn => by have := (hst1 g n _ hn).1; cases this)
      rw [hk] at hs
      obtain ⟨_, o, h1⟩ := hst1 g n own hs
      exact ⟨n, o, (old g hg).trans h1, Nat.le_refl _, fun _ _ => rfl⟩
    · exact ⟨n, none, by simp [G2, hg, hs], Nat.le_refl _, fun _ _ => rfl⟩
  exact ⟨u, v', G2, T, rfl, hle2, hvr.pure hst2 hv, hr2, hq⟩
end Go.Ae
