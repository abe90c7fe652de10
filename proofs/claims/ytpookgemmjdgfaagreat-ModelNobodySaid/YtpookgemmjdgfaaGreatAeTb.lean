/- A part of the proof: a machine on trees that is sound for the model, its tables, and contracts of functions. Conditions: none. -/
import Derived.Test.YtpookgemmjdgfaaGreatAeTa
namespace Go.Ae
open Go.RowKit

section
variable {I : TI} {rd : Nat → Option AObj} {ts : List V}
theorem fBin_eq (op : BinOp) (t : TypeId) (x y : Operand) : eBin I ts op t x y = fBin (I.bo.contains t) (I.pt.contains t) op (evV ts x) (evV ts y) := rfl
theorem fUn_eq (op : UnOp) (x : Operand) : eUn ts op x = fUn op (evV ts x) := rfl
theorem fConv_eq {src dst : TypeId} {k0 k : IntKind} (h1 : look I.ik src = some k0) (h2 : look I.ik dst = some k) (x : Operand) {v : V} (hv : fConv k (evV ts x) = some v) : eConv I ts src dst x = some v := by
  unfold fConv at hv
  unfold eConv
  split at hv
  · rename_i hx; rw [hx, h1, h2]; exact hv
  · cases hv
theorem fRead_sc {t : TypeId} (h : I.sc.contains t = true) (cells : List V) (off : Nat) : eRead I t cells off = fRead true 0 cells off := by
  unfold eRead fRead; rw [if_pos h, if_pos rfl]
theorem fRead_ag {t n : Nat} (h : ¬ I.sc.contains t = true) (h2 : look I.ag t = some n) (cells : List V) (off : Nat) : eRead I t cells off = fRead false n cells off := by
  unfold eRead fRead; rw [if_neg h, h2]; rfl
theorem fLoad_eq {t : TypeId} {sc : Bool} {n : Nat} (h : ∀ cells off, eRead I t cells off = fRead sc n cells off) (x : Operand) {v : V} (hv : fLoad rd sc n (evV ts x) = some v) : eLoad I rd ts t x = some v := by
  unfold fLoad at hv
  unfold eLoad
  split at hv
  · rename_i hx; simp only [hx, h]; exact hv
  · rename_i hx
    simp only [hx]
    split at hv
    · rename_i hc; simp only [hc, h]; exact hv
    · cases hv
  · cases hv
theorem fField_eq {s f fo : Nat} (h : look2 I.fd s f = some fo) (x : Operand) : eField I ts s x f = fField fo (evV ts x) := by
  unfold eField fField
  rw [h]
  cases evV ts x <;> rfl
theorem fIxs_eq {t : TypeId} {e : TypeId × Nat × Nat} (h : look I.sl t = some e) (x y : Operand) {v : V} (hv : fIxs e.2.1 (evV ts x) (evV ts y) = some v) : eIndexAddr I ts t x y = some v := by
  unfold fIxs at hv
  unfold eIndexAddr
  split at hv
  · rename_i h3 h4; rw [h3, h4, h]; exact hv
  · rename_i h3 h4; rw [h3, h4, h]; exact hv
  · cases hv
theorem fIxa_eq {t : TypeId} {e : Nat × TypeId × Nat} (h2 : look I.ar t = some e) (x y : Operand) {v : V} (hv : fIxa e.1 e.2.2 (evV ts x) (evV ts y) = some v) : eIndexAddr I ts t x y = some v := by
  unfold fIxa at hv
  unfold eIndexAddr
  split at hv
  · rename_i h3 h4; rw [h3, h4, h2]; exact hv
  · rename_i h3 h4; rw [h3, h4, h2]; exact hv
  · cases hv
theorem fIx_eq {t : TypeId} (h : I.st.contains t = true) (x y : Operand) {v : V} (hv : fIx (evV ts x) (evV ts y) = some v) : eIndex I ts t x y = some v := by
  unfold fIx at hv
  unfold eIndex
  split at hv
  · rename_i hx hy
    simp only [hx, hy]
    split at hv
    · rename_i hj; rw [if_pos ⟨h, hj⟩]; exact hv
    · cases hv
  · cases hv
theorem fNil_eq (x : Operand) : eNil ts x = fNil (evV ts x) := rfl
theorem fBnd_eq (x : Option Operand) (d : Nat) : bndV ts x d = fBnd (x.map (evV ts)) d := by cases x <;> rfl
theorem fSlice_eq {t : TypeId} {e : TypeId × Nat × Nat} (h : look I.sl t = some e) (x : Operand) (lo hi : Option Operand) : eSlice I ts t x lo hi none = fSlice e.2.1 (evV ts x) (lo.map (evV ts)) (hi.map (evV ts)) := by
  unfold eSlice fSlice
  simp only [h, fBnd_eq]
  cases evV ts x <;> rfl
theorem fLen_eq (t : TypeId) (x : Operand) : eLen I ts t x = fLen (look I.sl t).isSome (I.st.contains t) (evV ts x) := rfl
theorem fBuild_eq {t : TypeId} {pl : List (Nat × Nat)} {z : Value} (h1 : look I.pl t = some pl) (h2 : look I.ze t = some z) (ps : List (Nat × Operand)) {v : V} (hv : fBuild pl (constV z).cells (ps.map fun p => (p.1, evV ts p.2)) = some v) : eBuild I ts t ps = some v := by
  unfold fBuild at hv
  unfold eBuild
  rw [h1, h2]
  simp only [List.all_map] at hv
  exact hv
theorem fBsl_eq {t n : Nat} {e : TypeId × Nat × Nat} {z : Value} (h1 : look I.sl t = some e) (h2 : look I.ze e.1 = some z) (ps : List (Nat × Operand)) (hne : ∀ x, ps ≠ [(0, x)]) (hne2 : ps ≠ []) {v : V} (hv : fBsl e.2.1 n (constV z).cells (ps.map fun p => (p.1, evV ts p.2)) = some v) : eBuildSlice I ts t n ps = some v := by
  unfold fBsl at hv
  simp only [List.all_map] at hv
  cases ps with
  | nil => exact (hne2 rfl).elim
  | cons p r =>
    obtain ⟨i, x⟩ := p
    cases r with
    | nil =>
      cases i with
      | zero => exact (hne x rfl).elim
      | succ i => unfold eBuildSlice; rw [h1]; simp only [h2]; exact hv
    | cons p2 r => unfold eBuildSlice; rw [h1]; simp only [h2]; exact hv
/-- What an instruction reads is what its operation reads. -/
theorem fRd_eq {e : Env} (he : e.Ok) {o : Oper} {i : IOp} (hc : comp I o.op = some i) {v : V} (hv : fRd e rd i = some v) : eRd I rd e.toL o = some v := by
  unfold comp at hc
  split at hc
  all_goals first | (cases hc; done) | (rename_i ho; unfold eRd; rw [ho])
  · injection hc with hc; subst hc; simp only [fRd, ← Src.ev_of he] at hv; exact hv
  · injection hc with hc; subst hc; simp only [fRd, ← Src.ev_of he] at hv; exact hv
  · injection hc with hc; subst hc; simp only [fRd, ← Src.ev_of he] at hv; exact hv
  · injection hc with hc; subst hc; simp only [fRd, ← Src.ev_of he] at hv; exact hv
  · injection hc with hc; subst hc; simp only [fRd, ← Src.ev_of he] at hv; exact hv
  · injection hc with hc; subst hc; simp only [fRd, ← Src.ev_of he] at hv; exact hv
  · split at hc
    · rename_i h1 h2; injection hc with hc; subst hc; simp only [fRd, ← Src.ev_of he] at hv; exact fConv_eq h1 h2 _ hv
    · cases hc
  · split at hc
    · rename_i h1; injection hc with hc; subst hc; simp only [fRd, ← Src.ev_of he] at hv; exact fLoad_eq (fRead_sc h1) _ hv
    · rename_i h1
      split at hc
      · rename_i h2; injection hc with hc; subst hc; simp only [fRd, ← Src.ev_of he] at hv; exact fLoad_eq (fRead_ag h1 h2) _ hv
      · cases hc
  · split at hc
    · injection hc with hc; subst hc; simp only [fRd] at hv; cases hv
    · cases hc
  · split at hc
    · injection hc with hc; subst hc; simp only [fRd] at hv; cases hv
    · cases hc
  · injection hc with hc; subst hc; simp only [fRd] at hv; cases hv
  · split at hc
    · rename_i h1; injection hc with hc; subst hc; simp only [fRd, ← Src.ev_of he] at hv; simp only; rw [fField_eq h1]; exact hv
    · cases hc
  · split at hc
    · rename_i h1 h2; injection hc with hc; subst hc; simp only [fRd, ← Src.ev_of he] at hv; exact fIxs_eq h1 _ _ hv
    · rename_i h1 h2; injection hc with hc; subst hc; simp only [fRd, ← Src.ev_of he] at hv; exact fIxa_eq h2 _ _ hv
    · cases hc
  · split at hc
    · rename_i h1; injection hc with hc; subst hc; simp only [fRd, ← Src.ev_of he] at hv; exact fIx_eq h1 _ _ hv
    · cases hc
  · injection hc with hc; subst hc; simp only [fRd, ← Src.ev_of he] at hv; exact hv
  · rename_i lo hi
    split at hc
    · rename_i h1
      injection hc with hc
      subst hc
      simp only [fRd, ← Src.ev_of he, Option.map_map] at hv
      simp only
      rw [fSlice_eq h1]
      have e1 : (Src.ev e ∘ Src.of) = evV e.toL := funext fun x => (Src.ev_of he x).symm
      rw [e1] at hv
      exact hv
    · cases hc
  · split at hc
    · rename_i h1 h2
      injection hc with hc
      subst hc
      simp only [fRd, List.map_map] at hv
      refine fBuild_eq h1 h2 _ ?_
      rw [← hv]
      congr 1
      refine List.map_congr_left fun p _ => ?_
      simp [Src.ev_of he]
    · cases hc
  · split at hc
    · cases hc
    · rename_i e1 h1
      split at hc
      · rename_i hps
        split at hc
        · rename_i hn
          injection hc with hc
          subst hc
          simp only [fRd, ← Src.ev_of he] at hv
          simp only [hps]
          unfold eBuildSlice
          simp only [h1, if_pos hn]
          exact hv
        · cases hc
      · rename_i hps
        split at hc
        · rename_i hn
          injection hc with hc
          subst hc
          simp only [fRd] at hv
          simp only [hps]
          unfold eBuildSlice
          simp only [h1, if_pos hn]
          exact hv
        · cases hc
      · rename_i hp1 hp2
        split at hc
        · rename_i h2
          injection hc with hc
          subst hc
          simp only [fRd, List.map_map] at hv
          refine fBsl_eq h1 h2 _ (fun x h => hp1 x h) (fun h => hp2 h) ?_
          rw [← hv]
          congr 1
          refine List.map_congr_left fun p _ => ?_
          simp [Src.ev_of he]
        · cases hc
  · split at hc
    · rename_i h1 h2
      injection hc with hc
      subst hc
      simp only [fRd, ← Src.ev_of he] at hv
      simp only [h1, h2]
      exact hv
    · cases hc
  · split at hc
    · split at hc
      · split at hc
        · injection hc with hc; subst hc; simp only [fRd] at hv; cases hv
        · cases hc
      · cases hc
    · cases hc
  · injection hc with hc; subst hc; simp only [fRd] at hv; cases hv
end
end Go.Ae
