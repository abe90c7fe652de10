/- A part of the proof: a machine on trees that is sound for the model, its tables, and contracts of functions. Conditions: none. -/
import Derived.Test.YtpookgemmjdgfaaGreatAeTd
namespace Go.Ae
open Go.RowKit
noncomputable section

/-! ### An instruction looks at its own slots alone -/
def IOp.srcs : IOp → List Src
  | .mv x => [x]
  | .pick c x y => [c, x, y]
  | .ext x _ => [x]
  | .bin _ _ _ x y => [x, y]
  | .un _ x => [x]
  | .conv _ x => [x]
  | .ld _ _ x => [x]
  | .st _ x y => [x, y]
  | .al _ => []
  | .bx x => [x]
  | .fld _ x => [x]
  | .ixs _ x y => [x, y]
  | .ixa _ _ x y => [x, y]
  | .ix x y => [x, y]
  | .nl x => [x]
  | .sli _ x lo hi => x :: (lo.toList ++ hi.toList)
  | .bld _ _ ps => ps.map (·.2)
  | .bsl1 _ x => [x]
  | .bsl0 => []
  | .bsl _ _ _ ps => ps.map (·.2)
  | .len _ _ x => [x]
  | .app _ _ x y => [x, y]
  | .call g xs => g :: xs
  | .bad => []
  | .xo _ xs => xs
theorem opt_congr {e e' : Env} {x : Option Src} (h : ∀ y ∈ x.toList, y.ev e = y.ev e') : x.map (Src.ev e) = x.map (Src.ev e') := by
  cases x with
  | none => rfl
  | some y => simp only [Option.map_some]; rw [h y (by simp)]
theorem ps_congr {e e' : Env} {ps : List (Nat × Src)} (h : ∀ y ∈ ps.map (·.2), y.ev e = y.ev e') : (ps.map fun p => (p.1, p.2.ev e)) = ps.map fun p => (p.1, p.2.ev e') :=
  List.map_congr_left fun p hp => by rw [h p.2 (List.mem_map.2 ⟨p, hp, rfl⟩)]
theorem fRd_congr {e e' : Env} {rd : Nat → Option AObj} {i : IOp} (h : ∀ x ∈ i.srcs, x.ev e = x.ev e') : fRd e rd i = fRd e' rd i := by
  cases i <;> simp only [IOp.srcs, List.mem_cons, List.not_mem_nil, or_false, forall_eq_or_imp, forall_eq, List.mem_append] at h <;> simp only [fRd]
  all_goals first
    | rfl
    | (simp only [h]; done)
    | (rw [ps_congr h])
    | (rw [h.1, opt_congr (fun y hy => h.2 y (.inl hy)), opt_congr (fun y hy => h.2 y (.inr hy))])
theorem fOp_congr {pr : List Nat} {cf : FuncId → List V → Hp → Option (V × Hp)} {e e' : Env} {s : Hp} {i : IOp} (h : ∀ x ∈ i.srcs, x.ev e = x.ev e') : fOp pr cf e s i = fOp pr cf e' s i := by
  have h0 := h
  cases i <;> simp only [fOp] <;> try rw [fRd_congr h0]
  · rw [h _ (by simp [IOp.srcs]), h _ (by simp [IOp.srcs])]
  · rw [h _ (by simp [IOp.srcs])]
  · rw [h _ (by simp [IOp.srcs]), h _ (by simp [IOp.srcs])]
  · rename_i g xs
    rw [h g (by simp [IOp.srcs]), List.map_congr_left (fun x hx => h x (by simp [IOp.srcs, hx]))]
  · rw [List.map_congr_left (fun x hx => h x (by simpa [IOp.srcs] using hx))]
end
end Go.Ae
