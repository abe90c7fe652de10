/- A part of the proof: a machine on trees that is sound for the model, its tables, and contracts of functions. Conditions: none. -/
import Derived.Test.YtpookgemmjdgfaaGreatAeV
namespace Go.Ae
open Go.RowKit

/-! ### Built values -/
def vfill (place : Nat → Option (Nat × Nat)) (cells : List V) : List (Nat × V) → Option (List V)
  | [] => some cells
  | (i, v) :: rest =>
    match place i with
    | none => none
    | some (off, size) => if v.cells.length = size ∧ off + size ≤ cells.length then vfill place (spl cells off v.cells) rest else none

theorem fold_set (off : Nat) : ∀ (vs : List Value) (k : Nat) (cs : Array Value), off + k + vs.length ≤ cs.size →
    ((vs.zipIdx k).foldl (fun cs (x : Value × Nat) => cs.setIfInBounds (off + x.2) x.1) cs).toList = cs.toList.take (off + k) ++ vs ++ cs.toList.drop (off + k + vs.length)
  | [], k, cs, _ => by simp
  | v :: vs, k, cs, h => by
    simp only [List.zipIdx_cons, List.foldl_cons]
    have ih := fold_set off vs (k + 1) (cs.setIfInBounds (off + k) v) (by simp at h ⊢; omega)
    rw [ih]
    have := list_seg_step cs.toList (off + k) v vs (by simp at h ⊢; omega)
    simp only [Array.toList_setIfInBounds, List.length_cons] at this ⊢
    rw [← this]
    simp [Nat.add_assoc, Nat.add_comm 1]

theorem fill_rel {G : Gh} {w : World} (place : Nat → Option (Nat × Nat)) : ∀ (ps : List (Nat × V)) (qs : List (Nat × Value)) (cells cells' : List V) (us : Array Value), LRel G w cells us.toList →
    qs.map (·.1) = ps.map (·.1) → (∀ (i : Nat) (p : Nat × V) (q : Nat × Value), ps[i]? = some p → qs[i]? = some q → LRel G w p.2.cells q.2.cells.toList) → vfill place cells ps = some cells' → ∃ us', Instr.fill place us qs = some us' ∧ LRel G w cells' us'.toList
  | [], qs, cells, cells', us, hl, hm, hr, h => by
    have : qs = [] := by simpa using hm
    subst this
    simp only [vfill, Option.some.injEq] at h
    subst h
    exact ⟨us, rfl, hl⟩
  | (i, v) :: ps, qs, cells, cells', us, hl, hm, hr, h => by
    cases qs with
    | nil => simp at hm
    | cons q qs =>
      obtain ⟨j, u⟩ := q
      simp at hm
      obtain ⟨rfl, hm⟩ := hm
      have hv : LRel G w v.cells u.cells.toList := hr 0 (j, v) (j, u) rfl rfl
      simp only [vfill] at h
      simp only [Instr.fill]
      cases hp : place j with
      | none => rw [hp] at h; cases h
      | some os =>
        obtain ⟨off, size⟩ := os
        rw [hp] at h
        simp only at h ⊢
        split at h
        · rename_i hc
          obtain ⟨hc1, hc2⟩ := hc
          have hlu := hl.1
          have hlv := hv.1
          simp only [Array.length_toList] at hlu hlv
          have e1 : (u.cells.size ≠ size || decide (off + u.cells.size > us.size)) = false := by
            simp; omega
          rw [if_neg (by simp; omega)]
          have hf := fold_set off u.cells.toList 0 us (by simp; omega)
          have hspl := hl.spl hv off (by omega)
          refine fill_rel place ps qs _ cells' _ ?_ (by simpa using hm) (fun i p q h1 h2 => hr (i + 1) p q h1 h2) h
          have e2 : (u.cells.zipIdx.foldl (fun cs (x : Value × Nat) => match x with | (c, j) => cs.setIfInBounds (off + j) c) us).toList = us.toList.take off ++ u.cells.toList ++ us.toList.drop (off + u.cells.toList.length) := by
            rw [← Array.foldl_toList]
            simpa using hf
          rw [e2]
          exact hspl
        · cases h

section
variable {P : Program} {o : Oper} {ts : List V} {T : Tb} {K : V → Tb → Prop} {x y : Operand}

theorem run_places : ∀ (fs : List Field) (pl : List (Nat × Nat)) (w : World), fs.map (fun f => (f.offset, ((P.info? f.type).map (·.size)))) = pl.map (fun x => (x.1, some x.2)) →
    (fs.mapM fun f => do pure (f.offset, ← sizeOf f.type) : Sem (List (Nat × Nat))).run P w = .ok pl w
  | [], pl, w, h => by
    have : pl = [] := by simpa using h.symm
    subst this
    rfl
  | f :: fs, pl, w, h => by
    cases pl with
    | nil => simp at h
    | cons p pl =>
      obtain ⟨a, b⟩ := p
      simp only [List.map_cons, List.cons.injEq, Prod.mk.injEq] at h
      obtain ⟨⟨h1, h2⟩, h3⟩ := h
      obtain ⟨i, hi, hs⟩ := Option.map_eq_some_iff.1 h2
      have ih := run_places fs pl w h3
      have hso : (sizeOf f.type).run P w = .ok b w := by simp [sizeOf, typeInfo, hi, hs]
      rw [List.mapM_cons]
      simp only [Sem.run_bind, hso, Result.andThen_ok, Sem.run_pure, ih, h1]

theorem LRel.parts {G : Gh} {w : World} {a : Act} (hl : LRel G w ts a.tmps.toList) (ps : List (Nat × Operand)) (hc : ∀ p ∈ ps, (evV ts p.2).one = true ∨ ∃ cs, evV ts p.2 = .agg cs) :
    ∀ (i : Nat) (p : Nat × V) (q : Nat × Value), (ps.map fun p => (p.1, evV ts p.2))[i]? = some p → (ps.map fun p => (p.1, a.eval p.2))[i]? = some q → LRel G w p.2.cells q.2.cells.toList := by
  intro i p q hp hq
  rw [List.getElem?_map] at hp hq
  cases hx : ps[i]? with
  | none => rw [hx] at hp; cases hp
  | some x =>
    rw [hx] at hp hq
    simp at hp hq
    subst hp; subst hq
    exact (hl.ev x.2).cells (hc x (List.mem_of_getElem? hx))

theorem aop_build {t : TypeId} {ps : List (Nat × Operand)} {pl : List (Nat × Nat)} {z : Value} {cells : List V} (ho : o.op = .build t ps.toArray) (hz : zeB P t z) (hp : plB P t pl = true) (hc : ∀ p ∈ ps, (evV ts p.2).one = true ∨ ∃ cs, evV ts p.2 = .agg cs)
    (hf : vfill (pl[·]?) (constV z).cells (ps.map fun p => (p.1, evV ts p.2)) = some cells) (hk : K (.agg cells) T) : AOp P o ts T K :=
  aop_same _ (fun G w a hl => by
    obtain ⟨i, h1, h2⟩ := hz
    unfold plB at hp
    split at hp
    · rename_i fs hs
      have hpl := run_places (P := P) fs.toList pl w (by simpa using hp)
      obtain ⟨us, k1, k2⟩ := fill_rel (G := G) (w := w) (pl[·]?) (ps.map fun p => (p.1, evV ts p.2)) (ps.map fun p => (p.1, a.eval p.2)) (constV z).cells cells z.cells (constCells z) (by simp) (hl.parts ps hc) hf
      have hm : (fs.mapM fun f => do pure (f.offset, ← sizeOf f.type) : Sem (Array (Nat × Nat))).run P w = .ok pl.toArray w := by
        have e : fs = fs.toList.toArray := rfl
        rw [e, List.mapM_toArray]
        simp only [Sem.run_map, hpl, Result.andThen_ok]
      refine ⟨.agg us.toList.toArray, ?_, .agg _ _ k2.1 k2.2⟩
      have e2 : (fun (i : Nat) => pl.toArray[i]?) = fun i => pl[i]? := by funext i; simp
      have hzv : (zeroValue t).run P w = .ok z w := by simp [zeroValue, typeInfo, h1, h2]
      simp only [execOp, ho, Instr.build, Sem.run_bind, hzv, Result.andThen_ok, Sem.run_pure, run_underlying hs, hm, List.map_toArray, e2, k1]
    · cases hp) hk

theorem aop_buildSlice {t e : TypeId} {sz bytes n : Nat} {ps : List (Nat × Operand)} {z : Value} {cells : List V} (ho : o.op = .buildSlice t n ps.toArray) (ht : SlTy P t e sz bytes) (hz : zeB P e z) (hn : 0 < n) (hb : n * sz ≤ 16777216) (hzc : z.cells.size = sz) (hc : ∀ p ∈ ps, (evV ts p.2).one = true ∨ ∃ cs, evV ts p.2 = .agg cs)
    (hf : vfill (fun i => some (i * sz, sz)) ((List.range (n * sz)).map fun j => ((constV z).cells.getD (j % sz) .any)) (ps.map fun p => (p.1, evV ts p.2)) = some cells) (hk : K (.sl cells n .exact) T) : AOp P o ts T K :=
  aop_value fun B w0 G w a hr hl => by
    obtain ⟨i, h1, h2⟩ := hz
    have hpos := ht.pos
    have hz0 : n * sz ≠ 0 := by have := Nat.mul_pos hn hpos; omega
    have hrel : LRel G w ((List.range (n * sz)).map fun j => ((constV z).cells.getD (j % sz) .any)) ((Array.range (n * sz)).map (z.cells[· % z.cells.size]!)).toList := by
      refine ⟨by simp, fun j v u hv hu => ?_⟩
      by_cases hj : j < n * sz
      · rw [List.getElem?_map, List.getElem?_range hj] at hv
        simp only [Array.toList_map, Array.toList_range, List.getElem?_map, List.getElem?_range hj] at hu
        simp only [Option.map_some, Option.some.injEq] at hv hu
        have hcz := constCells (G := G) (w := w) z
        have hlen := hcz.1
        simp only [Array.length_toList] at hlen
        have hmod : j % sz < sz := Nat.mod_lt _ hpos
        have e1 : (constV z).cells[j % sz]? = some v := by
          rw [← hv, List.getD_eq_getElem?_getD, List.getElem?_eq_getElem (by omega)]; rfl
        have e2 : z.cells.toList[j % sz]? = some u := by
          rw [← hu, hzc, Array.getElem?_toList, getElem!_def, Array.getElem?_eq_getElem (by omega)]
        exact hcz.2 _ v u e1 e2
      · rw [List.getElem?_eq_none (by simpa using hj)] at hv; cases hv
    obtain ⟨us, k1, k2⟩ := fill_rel (G := G) (w := w) (fun i => some (i * sz, sz)) (ps.map fun p => (p.1, evV ts p.2)) (ps.map fun p => (p.1, a.eval p.2)) _ cells _ hrel (by simp) (hl.parts ps hc) hf
    obtain ⟨q1, q2, q3⟩ := new_slice hr cells us.toList k2 [] e n n (Nat.le_refl _) (by simp only [maxLen]; have := Nat.le_mul_of_pos_right n hpos; omega) .exact (.inr ⟨rfl, rfl⟩)
    have ea : (us.toList ++ []).toArray = us := by simp
    rw [ea] at q1 q2 q3
    refine ⟨.slice (some ⟨w.heap.size, 0, none⟩) n n, _, _, _, T, ?_, q1, q3, q2, hk⟩
    have hbig : ¬ (2 ^ 24 < n * sz) := by omega
    have hzv : (zeroValue e).run P w = .ok z w := by simp [zeroValue, typeInfo, h1, h2]
    simp only [execOp, ho, Instr.buildSlice, Sem.run_bind, run_underlying ht.und, Result.andThen_ok, ht.sz, gt_iff_lt, hbig, if_false, hz0, hzv, Sem.run_pure, List.map_toArray, k1, newRow, run_newObj_alloc]
end
end Go.Ae
