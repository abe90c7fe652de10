/- A part of the proof: a machine on trees that is sound for the model, its tables, and contracts of functions. Conditions: none. -/
import Derived.Test.YtpookgemmjdgfaaGreatRows
import Derived.Test.YtpookgemmjdgfaaGreatC15
import Derived.Test.YtpookgemmjdgfaaGreatAeRp
import Derived.WalkKit
import Derived.ProofKit
import Derived.OpenShut
import Derived.ShutString
import Derived.ChangeOld
import Derived.Below
import Derived.SizedLaws
namespace Go.Ae
open Go.Proofs
def fCodes : Field := { name := "Codes", type := 34, offset := 0, embedded := false, tag := "", pkgPath := "", byteOffset := 0 }
def fInts : Field := { name := "Ints", type := 60, offset := 1, embedded := false, tag := "", pkgPath := "", byteOffset := 24 }
def fNums : Field := { name := "Nums", type := 61, offset := 2, embedded := false, tag := "", pkgPath := "", byteOffset := 48 }
def fDim : Field := { name := "Dim", type := 3, offset := 0, embedded := false, tag := "", pkgPath := "", byteOffset := 0 }
def fFC : Field := { name := "Codes", type := 34, offset := 1, embedded := false, tag := "", pkgPath := "", byteOffset := 8 }
def q0 : Field := { name := "Group", type := 39, offset := 0, embedded := false, tag := "", pkgPath := "", byteOffset := 0 }
def q1 : Field := { name := "Filters", type := 40, offset := 1, embedded := false, tag := "", pkgPath := "", byteOffset := 8 }
def q2 : Field := { name := "Cols", type := 41, offset := 2, embedded := false, tag := "", pkgPath := "", byteOffset := 32 }
def q3 : Field := { name := "Order", type := 42, offset := 3, embedded := false, tag := "", pkgPath := "", byteOffset := 56 }
def q4 : Field := { name := "Limit", type := 3, offset := 4, embedded := false, tag := "", pkgPath := "", byteOffset := 80 }
def fsFact : Array Field := #[fCodes, fInts, fNums]
def fsFilter : Array Field := #[fDim, fFC]
def fsQuery : Array Field := #[q0, q1, q2, q3, q4]
structure Facts (P : Program) : Prop where
  u38 : P.underlying 38 = some (.slice 63)
  u40 : P.underlying 40 = some (.slice 151)
  u41 : P.underlying 41 = some (.slice 80)
  u42 : P.underlying 42 = some (.slice 159)
  u34 : P.underlying 34 = some (.slice 3)
  u60 : P.underlying 60 = some (.slice 2)
  u61 : P.underlying 61 = some (.slice 81)
  u63 : P.underlying 63 = some (.struct fsFact)
  u151 : P.underlying 151 = some (.struct fsFilter)
  u44 : P.underlying 44 = some (.struct fsQuery)
  u39 : P.underlying 39 = some (.int .u32)
  u3 : P.underlying 3 = some (.int .i64)
  c63 : P.cellsOf 63 = 3
  c151 : P.cellsOf 151 = 2
  c44 : P.cellsOf 44 = 5
  ty38 : tyB P (2 + 1 + 1 + 1 + 1) 38 = true
  ty44 : tyB P (2 + 1 + 1 + 1 + 1) 44 = true
  ones : ([34, 60, 61, 40, 41, 42, 39, 3].all fun t => P.cellsOf t == 1) = true
theorem facts : Facts Tryz.prog := ⟨by kernel_rfl, by kernel_rfl, by kernel_rfl, by kernel_rfl, by kernel_rfl, by kernel_rfl, by kernel_rfl, by kernel_rfl, by kernel_rfl, by kernel_rfl, by kernel_rfl, by kernel_rfl, by kernel_rfl, by kernel_rfl, by kernel_rfl, by kernel_rfl, by kernel_rfl, by kernel_rfl⟩
theorem Facts.cc1 {P : Program} (F : Facts P) : ∀ t ∈ [34, 60, 61, 40, 41, 42, 39, 3], P.cellsOf t = 1 := by
  intro t ht
  simpa using List.all_eq_true.1 F.ones t ht
theorem pure_sl {cells : List V} {n : Nat} {t : Tok} (h : V.Pure (.sl cells n t)) : ∀ x ∈ cells, V.Pure x := by
  cases h with
  | sl _ _ _ _ hp => exact hp
theorem le_max {n : Nat} (h : n ≤ maxLen) : n ≤ 9223372036854775807 := h
theorem arg0 {P : Program} (F : Facts P) {H : Type} {enc : TypeId × Value → H} {W : World} {v : Value} {d : DataW H} {ps : List MemPlace} (hv : ∃ a len cap, v = .slice a len cap) (h : DataW.Trod enc P W 0 (fun _ => true) true 38 v d ps) :
    ∃ cells n, VRel (G0 W) W (.sl cells n .no) v ∧ Pre14 cells n := by
  obtain ⟨a, len, cap, rfl⟩ := hv
  obtain ⟨x, h1, h2, h3⟩ := arg_one F.ty38 rfl h
  obtain ⟨cells, n, e, hn, hl, hc⟩ := tyOk_slice (k := 2 + 1 + 1 + 1) F.u38 h3
  obtain rfl : x = _ := (List.cons.inj e).1
  refine ⟨cells, n, h1, ?_, le_max hn, pure_sl h2⟩
  intro j hj
  have hj' : j = 0 ∨ j = 1 ∨ j = 2 := by omega
  rcases hj' with rfl | rfl | rfl
  · exact slAt_of (k := 2 + 1) (f := fCodes) F.c63 F.u63 (by simp [fsFact]) rfl rfl (F.cc1 34 (by simp)) F.u34 hc
  · exact slAt_of (k := 2 + 1) (f := fInts) F.c63 F.u63 (by simp [fsFact]) rfl rfl (F.cc1 60 (by simp)) F.u60 hc
  · exact slAt_of (k := 2 + 1) (f := fNums) F.c63 F.u63 (by simp [fsFact]) rfl rfl (F.cc1 61 (by simp)) F.u61 hc
theorem arg1 {P : Program} (F : Facts P) {H : Type} {enc : TypeId × Value → H} {W : World} {v : Value} {d : DataW H} {ps : List MemPlace} (hv : ∃ cs, v = .agg cs) (h : DataW.Trod enc P W 0 (fun _ => true) true 44 v d ps) :
    ∃ q, VRel (G0 W) W q v ∧ Pre15 q := by
  obtain ⟨cs, rfl⟩ := hv
  obtain ⟨vs, h1, h2, h3⟩ := arg_agg F.ty44 h
  obtain ⟨hl, hf⟩ := tyOk_struct (k := 2 + 1 + 1 + 1) F.u44 h3
  rw [F.c44] at hl
  match vs, hl, h1, h2, hf with
  | [a0, a1, a2, a3, a4], _, h1, h2, hf =>
    have g : ∀ f ∈ fsQuery.toList, TyOk P (2 + 1 + 1 + 1) f.type (([a0, a1, a2, a3, a4].drop f.offset).take 1) := fun f hm => by
      have := hf f hm
      rwa [F.cc1 f.type (by simp [fsQuery] at hm; rcases hm with rfl | rfl | rfl | rfl | rfl <;> simp [q0, q1, q2, q3, q4])] at this
    obtain ⟨x0, e0, _⟩ := tyOk_int (k := 2 + 1 + 1) F.u39 (g q0 (by simp [fsQuery]))
    obtain ⟨c1, n1, e1, b1, _, s1⟩ := tyOk_slice (k := 2 + 1 + 1) F.u40 (g q1 (by simp [fsQuery]))
    obtain ⟨c2, n2, e2, _, _, _⟩ := tyOk_slice (k := 2 + 1 + 1) F.u41 (g q2 (by simp [fsQuery]))
    obtain ⟨c3, n3, e3, _, _, _⟩ := tyOk_slice (k := 2 + 1 + 1) F.u42 (g q3 (by simp [fsQuery]))
    obtain ⟨x4, e4, _⟩ := tyOk_int (k := 2 + 1 + 1) F.u3 (g q4 (by simp [fsQuery]))
    obtain rfl : a0 = _ := (List.cons.inj e0).1
    obtain rfl : a1 = _ := (List.cons.inj e1).1
    obtain rfl : a2 = _ := (List.cons.inj e2).1
    obtain rfl : a3 = _ := (List.cons.inj e3).1
    obtain rfl : a4 = _ := (List.cons.inj e4).1
    refine ⟨_, h1, x0, c1, c2, c3, n1, n2, n3, x4, rfl, ⟨?_, le_max b1, pure_sl (h2 (.sl c1 n1 .no) (by simp))⟩, pure_sl (h2 (.sl c2 n2 .no) (by simp)), pure_sl (h2 (.sl c3 n3 .no) (by simp))⟩
    exact slAt_of (k := 2) (f := fFC) F.c151 F.u151 (by simp [fsFilter]) rfl rfl (F.cc1 34 (by simp)) F.u34 s1
end Go.Ae
