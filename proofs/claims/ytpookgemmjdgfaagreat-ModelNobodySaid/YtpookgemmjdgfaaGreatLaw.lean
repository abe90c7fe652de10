/- Proved: whatever facts and whatever query are handed in, bushellaw41.ModelNobody returns true and leaves its arguments as they were. Conditions: none beyond those of the given statement. -/
import Derived.Test.YtpookgemmjdgfaaGreatZ2Row
namespace Go.Ae
open Go.Proofs Go.ChangeShapes Go.WideShapes Go.ChangeAt Go.RowKit Go.Proofs.YtpookgemmjdgfaaGreat
set_option linter.unusedVariables false
theorem ownK : ownKnob Tryz.prog.godebug = none := by kernel_rfl
theorem laidOutK : laidOutB Tryz.prog = true := by kernel_rfl
theorem fn5 : Tryz.prog.funcs[5]? = some Tryz.f5 := by kernel_rfl
theorem par5 : Tryz.f5.params = #[38, 44] := by kernel_rfl
theorem ub4 : Tryz.prog.underlying 4 = some .bool := by kernel_rfl
set_option maxRecDepth 100000 in
theorem lifted5 (os : Os) (started : os.Started) (H : Type) (enc : TypeId × Value → H) :
    ReturnsInHanded {} Tryz.checked os 5 .any (Rows.modelNobodySpec.pre6 enc Tryz.prog Tryz.f5 Rows.modelNobodyRow.domain false) (Rows.modelNobodySpec.post enc Tryz.prog Tryz.f5 false true false false) := by
  refine returnsInHanded_of_change_sized (C := Tryz.checked) ownK started (by kernel_rfl) fn5
    (ChangeSpec.witness6 (enc := enc) (C := Tryz.checked) false ⟨#[], #[.slice none 0 0, .agg #[.int .u32 0, .slice none 0 0, .slice none 0 0, .slice none 0 0, .int .i64 0]], []⟩ 8 (by kernel_rfl) (by kernel_rfl) (by kernel_rfl) (by kernel_rfl)) ?_
  intro W base args ds gs before hval0 hW hcnd hsz0 _
  have hval : ∀ (j : Nat) t v, Tryz.f5.params[j]? = some t → args[j]? = some v → Value.okWide Tryz.prog W .any base t v := hval0
  have hW' := hW
  obtain ⟨p, q, hA0, hV, rfl, hfz, hnd⟩ := hW
  have hA : DataW.TrodAll enc Tryz.prog W 0 (fun _ => true) true Tryz.f5.params.toList args.toList ds p := hA0
  rw [par5] at hA hval
  obtain ⟨v0, vs0, d0, ds0, p0, q0, hargs, rfl, rfl, h0, r0⟩ := trodAll_cons hA
  obtain ⟨v1, vs1, d1, ds1, p1, q1, rfl, rfl, rfl, h1, r1⟩ := trodAll_cons r0
  obtain ⟨rfl, rfl, rfl⟩ := trodAll_nil r1
  obtain rfl : args = #[v0, v1] := by cases args; simp_all
  obtain ⟨rfl, rfl⟩ := trodVars_none hV
  have lt0 : ∀ x ∈ p0, x.block < W.heap.size := by obtain ⟨m, hm⟩ := h0; exact DataW.trod_lt m _ _ _ hm
  have lt1 : ∀ x ∈ p1, x.block < W.heap.size := by obtain ⟨m, hm⟩ := h1; exact DataW.trod_lt m _ _ _ hm
  obtain ⟨cells, n, a1, a2⟩ := arg0 facts (okWide_slice facts.u38 (hval 0 38 v0 rfl rfl)) h0
  obtain ⟨qv, b1, b2⟩ := arg1 facts (by obtain ⟨cs, e, _⟩ := okWide_struct facts.u44 (hval 1 44 v1 rfl rfl); exact ⟨cs, e⟩) h1
  have hl : LRel (G0 W) W [.sl cells n .no, qv] [v0, v1] := ⟨rfl, fun i x u hx hu => by
    match i, hx, hu with
    | 0, hx, hu => simp at hx hu; subst hx; subst hu; exact a1
    | 1, hx, hu => simp at hx hu; subst hx; subst hu; exact b1
    | i + 2, hx, hu => simp at hx⟩
  clear hA0 hval0 hsz0
  refine (row_calls (c5 cells n qv a2 b2) hl).mono fun e W' ⟨he, bel⟩ => ?_
  subst he
  exact ⟨_, rfl, _, _, _, [], _, [], hW', trodAll_mk1 (shut_bool ub4 _), (trodAll_cons_mk (Below.trod laidOutK (by kernel_rfl) (of_decide_eq_true (by kernel_rfl)) h0 bel lt0) (trodAll_cons_mk (Below.trod laidOutK (by kernel_rfl) (of_decide_eq_true (by kernel_rfl)) h1 bel lt1) trodAll_mk0)), rfl, bel.frame _, fun h => by cases h⟩
theorem over5 : Rows.modelNobodyRow.holds Tryz.pinned (OpenSpec.ofChange Rows.modelNobodySpec) :=
  OpenClaim.holds_of_wide 5 Tryz.f5 rfl rfl rfl rfl rfl rfl rfl ⟨rfl, rfl, rfl, rfl, rfl⟩ rfl rfl rfl rfl rfl (by kernel_rfl) fn5 (by kernel_rfl)
    (of_decide_eq_true (by kernel_rfl)) (by unfold Func.isWrapper; first | (rw [if_pos (by decide +kernel)]; kernel_rfl) | (rw [if_neg (by decide +kernel)]; exact ⟨rfl, rfl⟩))
    (fun os started H enc _ => lifted5 os started H enc)
end Go.Ae
namespace Go.Proofs.YtpookgemmjdgfaaGreat
/-- The row, for the claim. -/
theorem modelNobody_holds : Rows.ModelNobodySaid := Go.Ae.over5
end Go.Proofs.YtpookgemmjdgfaaGreat
