/- A part of the proof: a machine on trees that is sound for the model, its tables, and contracts of functions. Conditions: none. -/
import Derived.Test.YtpookgemmjdgfaaGreatAeZ
import Derived.Laws.Strings
namespace Go.Ae
open Go.RowKit

theorem bl_eq (a : ByteArray) : a.toList = bl a := ByteArray.toList_eq a
theorem bl_len (a : ByteArray) : (bl a).length = a.size := show a.data.toList.length = a.data.size from Array.length_toList
theorem bl_app (a b : ByteArray) : (⟨(bl a ++ bl b).toArray⟩ : ByteArray) = a ++ b := by
  have h : (⟨(bl a ++ bl b).toArray⟩ : ByteArray).data = (a ++ b).data := by rw [ByteArray.data_append]; simp [bl]
  cases h2 : a ++ b with
  | mk d => rw [h2] at h; simp only at h; rw [h]
theorem bl_get {s : ByteArray} {i : Nat} {c : UInt8} (h : (bl s)[i]? = some c) : s[i]? = some c := by
  unfold bl at h
  have hi : i < s.data.size := by have := (List.getElem?_eq_some_iff.1 h).1; simpa using this
  rw [Array.getElem?_toList] at h
  have hi' : i < s.size := hi
  rw [getElem?_pos s i hi']
  rw [Array.getElem?_eq_getElem hi] at h
  exact h
theorem iokB_ok {op : BinOp} {k k' : IntKind} {b : Int} (h : iokB op k k' b = true) : iok op k k' b := by
  cases op <;> simp [iokB] at h <;> simp [iok] <;> exact h
section
variable {P : Program} {I : TI} {rd : Nat → Option AObj} {o : Oper} {ts : List V} {T : Tb} {K : V → Tb → Prop} {v : V}
theorem eBin_sound {op : BinOp} {t : TypeId} {x y : Operand} (h : eBin I ts op t x y = some v) (hk : K v T) : vBin P I o ts T K op t x y := by
  unfold eBin at h
  unfold vBin
  split at h
  · rename_i hx hy
    rw [hx, hy]
    split at h
    · rename_i hc; injection h with h; subst h; exact ⟨iokB_ok hc, hk⟩
    · cases h
  · rename_i hx hy
    rw [hx, hy]
    split at h
    · rename_i hc
      refine ⟨hc, ?_⟩
      split at h
      · injection h with h; subst h; exact hk
      · injection h with h; subst h; exact hk
      · cases h
    · cases h
  · rename_i a b hx hy
    rw [hx, hy]
    split at h
    · injection h with h; subst h; simp only [bl_eq]; exact hk
    · injection h with h; subst h; simp only [bl_eq]; exact hk
    · injection h with h; subst h; simp only [bl_eq]; exact hk
    · split at h
      · rename_i hc
        rw [bl_app] at h
        injection h with h
        subst h
        rw [bl_len, bl_len] at hc
        exact ⟨hc, hk⟩
      · cases h
    · cases h
  · rename_i hx hy
    rw [hx, hy]
    split at h
    · rename_i hc
      refine ⟨hc, ?_⟩
      split at h
      · injection h with h; subst h; exact hk
      · injection h with h; subst h; exact hk
      · cases h
    · cases h
  · rename_i hx hy
    rw [hx, hy]
    split at h
    · rename_i hc
      refine ⟨hc, ?_⟩
      split at h
      · injection h with h; subst h; exact hk
      · injection h with h; subst h; exact hk
      · cases h
    · cases h
  · cases h
theorem eUn_sound {op : UnOp} {x : Operand} (h : eUn ts op x = some v) (hk : K v T) : vUn P o ts T K op x := by
  unfold eUn at h
  unfold vUn
  split at h
  · rename_i hx; rw [hx]; injection h with h; subst h; exact hk
  · rename_i hx; rw [hx]; injection h with h; subst h; exact hk
  · rename_i hx; rw [hx]; injection h with h; subst h; exact hk
  · cases h
theorem eConv_sound {src dst : TypeId} {x : Operand} (h : eConv I ts src dst x = some v) (hk : K v T) : vConv P I o ts T K src dst x := by
  unfold eConv at h
  unfold vConv
  split at h
  · rename_i h1 h2 h3; rw [h1, h2, h3]; injection h with h; subst h; exact hk
  · cases h
theorem eRead_sound {t : TypeId} {cells : List V} {off : Nat} (h : eRead I t cells off = some v) (hk : K v T) : vRead I T K t cells off := by
  unfold eRead at h
  unfold vRead
  split at h
  · rename_i hc; rw [if_pos hc]; exact ⟨v, h, hk⟩
  · rename_i hc
    rw [if_neg hc]
    split at h
    · rename_i hn
      rw [hn]
      split at h
      · rename_i h2; injection h with h; subst h; exact ⟨h2, hk⟩
      · cases h
    · cases h
theorem eLoad_sound (hrd : ∀ b o, rd b = some o → T b = some o) {t : TypeId} {x : Operand} (h : eLoad I rd ts t x = some v) (hk : K v T) : vLoad P I o ts T K t x := by
  unfold eLoad at h
  unfold vLoad
  split at h
  · rename_i hx; rw [hx]; exact eRead_sound h hk
  · rename_i hx
    rw [hx]
    split at h
    · rename_i cs hc; exact ⟨cs, hrd _ _ hc, eRead_sound h hk⟩
    · cases h
  · cases h
theorem eField_sound {s : TypeId} {x : Operand} {f : Nat} (h : eField I ts s x f = some v) (hk : K v T) : vField P I o ts T K s x f := by
  unfold eField at h
  unfold vField
  split at h
  · rename_i h1 h2; rw [h1, h2]; injection h with h; subst h; exact hk
  · rename_i h1 h2; rw [h1, h2]; injection h with h; subst h; exact hk
  · cases h
theorem eIndexAddr_sound {t : TypeId} {x y : Operand} (h : eIndexAddr I ts t x y = some v) (hk : K v T) : vIndexAddr P I o ts T K t x y := by
  unfold eIndexAddr at h
  unfold vIndexAddr
  split at h
  all_goals first
    | (cases h; done)
    | (rename_i h1 h2
       rw [h1, h2]
       split at h
       · rename_i e he
         rw [he]
         split at h
         · rename_i hc; injection h with h; subst h; exact ⟨hc, hk⟩
         · cases h
       · cases h)
theorem eIndex_sound {t : TypeId} {x y : Operand} (h : eIndex I ts t x y = some v) (hk : K v T) : vIndex P I o ts T K t x y := by
  unfold eIndex at h
  unfold vIndex
  split at h
  · rename_i h1 h2
    rw [h1, h2]
    split at h
    · rename_i hc
      split at h
      · rename_i c hcc; injection h with h; subst h; exact ⟨hc.1, hc.2, c, bl_get hcc, hk⟩
      · cases h
    · cases h
  · cases h
theorem eNil_sound {x : Operand} (h : eNil ts x = some v) (hk : K v T) : vNil P o ts T K x := by
  unfold eNil at h
  unfold vNil
  split at h
  · rename_i h1; rw [h1]; injection h with h; subst h; exact hk
  · rename_i h1; rw [h1]; injection h with h; subst h; exact hk
  · rename_i h1; rw [h1]; injection h with h; subst h; exact hk
  · cases h
theorem eSlice_sound {t : TypeId} {x : Operand} {lo hi mx : Option Operand} (h : eSlice I ts t x lo hi mx = some v) (hk : K v T) : vSlice P I o ts T K t x lo hi mx := by
  unfold eSlice at h
  unfold vSlice
  split at h
  · rename_i h1
    rw [h1]
    split at h
    · rename_i e he
      rw [he]
      split at h
      · rename_i l r hl hr
        split at h
        · rename_i hc; injection h with h; subst h; exact ⟨hc.1, l, r, hl, hr, hc.2, hk⟩
        · cases h
      · cases h
    · cases h
  · rename_i h1
    rw [h1]
    split at h
    · rename_i e he
      rw [he]
      split at h
      · rename_i l r hl hr
        split at h
        · rename_i hc; injection h with h; subst h; exact ⟨l, r, hl, hr, hc, hk⟩
        · cases h
      · cases h
    · cases h
  · cases h
theorem eBuild_sound {t : TypeId} {ps : List (Nat × Operand)} (h : eBuild I ts t ps = some v) (hk : K v T) : vBuild P I o ts T K t ps := by
  unfold eBuild at h
  unfold vBuild
  split at h
  · rename_i h1 h2
    rw [h1, h2]
    split at h
    · rename_i hc
      split at h
      · rename_i cells hv; injection h with h; subst h; exact ⟨hc, cells, hv, hk⟩
      · cases h
    · cases h
  · cases h
theorem eBuildSlice_sound (hI : I.All P) {t : TypeId} {n : Nat} {ps : List (Nat × Operand)} (ho : o.op = .buildSlice t n ps.toArray) (h : eBuildSlice I ts t n ps = some v) (hk : K v T) : vBuildSlice P I o ts T K t n ps := by
  unfold eBuildSlice at h
  unfold vBuildSlice
  split at h
  · cases h
  · rename_i e he
    rw [he]
    have hs := hI.toOk.sl' he
    split at h
    · split at h
      · rename_i hn
        split at h
        · rename_i hc; injection h with h; subst h; simp only [hn, if_true]; exact ⟨trivial, hc, hk⟩
        · cases h
      · cases h
    · split at h
      · rename_i hn
        injection h with h
        subst h
        subst hn
        exact aop_buildSlice0 ho hs hk
      · cases h
    · rename_i hne1 hne2
      split at h
      · rename_i z hz1
        split at h
        · rename_i hc
          split at h
          · rename_i cells hv
            injection h with h
            subst h
            have hz := List.all_eq_true.1 hI.zs _ (look_mem he)
            simp only [hz1, Option.any_some] at hz
            have goal : AOp P o ts T K := aop_buildSlice ho hs (hI.toOk.ze _ (look_mem hz1)) hc.1 hc.2.1 (by simpa using hz) (fun p hp => V.okc_or (List.all_eq_true.1 hc.2.2 p hp)) hv hk
            simp only
            exact goal
          · cases h
        · cases h
      · cases h
theorem eLen_sound {t : TypeId} {x : Operand} (h : eLen I ts t x = some v) (hk : K v T) : vLen P I o ts T K t x := by
  unfold eLen at h
  unfold vLen
  split at h
  · rename_i h1; rw [h1]; split at h
    · rename_i hc; injection h with h; subst h; exact ⟨hc, hk⟩
    · cases h
  · rename_i h1; rw [h1]; split at h
    · rename_i hc; injection h with h; subst h; exact ⟨hc, hk⟩
    · cases h
  · rename_i h1; rw [h1]; split at h
    · rename_i hc; rw [bl_len] at h; injection h with h; subst h; exact ⟨hc, hk⟩
    · cases h
  · cases h
theorem eRd_sound (hI : I.All P) (hrd : ∀ b o, rd b = some o → T b = some o) (h : eRd I rd ts o = some v) (hk : K v T) : vcOp P I o ts T K := by
  unfold eRd at h
  unfold vcOp
  split at h
  · rename_i ho; rw [ho]; injection h with h; subst h; exact hk
  · rename_i ho; rw [ho]; injection h with h; subst h; exact hk
  · rename_i ho
    rw [ho]
    split at h
    · rename_i b hb
      simp only [hb]
      injection h with h
      subst h
      cases b
      · exact ⟨(fun e => by cases e), fun _ => hk⟩
      · exact ⟨fun _ => hk, (fun e => by cases e)⟩
    · cases h
  · rename_i ho
    rw [ho]
    split at h
    · rename_i vs hv; simp only [hv, h]; exact hk
    · cases h
  · rename_i ho; rw [ho]; exact eBin_sound h hk
  · rename_i ho; rw [ho]; exact eUn_sound h hk
  · rename_i ho; rw [ho]; exact eConv_sound h hk
  · rename_i ho; rw [ho]; exact eLoad_sound hrd h hk
  · rename_i ho; rw [ho]; exact eField_sound h hk
  · rename_i ho; rw [ho]; exact eIndexAddr_sound h hk
  · rename_i ho; rw [ho]; exact eIndex_sound h hk
  · rename_i ho; rw [ho]; exact eNil_sound h hk
  · rename_i ho; rw [ho]; exact eSlice_sound h hk
  · rename_i ho; rw [ho]; exact eBuildSlice_sound hI (by simpa using ho) h hk
  · rename_i ho; rw [ho]; exact eBuild_sound h hk
  · rename_i ho
    rw [ho]
    split at h
    · rename_i h1 h2; simp only [h1, h2]; exact eLen_sound h hk
    · cases h
  · cases h
end
end Go.Ae
