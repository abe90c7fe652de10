/- A part of the proof: a machine on trees that is sound for the model, its tables, and contracts of functions. Conditions: none. -/
import Derived.Test.YtpookgemmjdgfaaGreatAeC
namespace Go.Ae
open Go.RowKit

section
variable {B : Nat → Prop} {w0 : World} {G : Gh} {w : World} {T : Tb}

/-- A value of one cell. -/
def V.one : V → Bool
  | .any | .agg _ | .tup _ => false
  | _ => true
def V.cells : V → List V
  | .agg cs => cs
  | v => [v]
theorem flat_one {u : Value} (h : Value.flat u = true) : u.oneCell' = true := by
  cases u <;> simp_all [Value.flat, Value.oneCell']
theorem VRel.one {v : V} {u : Value} (h : VRel G w v u) (hv : v.one = true) : u.oneCell' = true := by
  cases h <;> first | (simp [V.one] at hv; done) | (rename_i hu; exact flat_one hu) | rfl
theorem VRel.cells {v : V} {u : Value} (h : VRel G w v u) (hv : v.one = true ∨ ∃ cs, v = .agg cs) : LRel G w v.cells u.cells.toList := by
  rcases hv with hv | ⟨cs, rfl⟩
  · have h1 := h.one hv
    have e1 : v.cells = [v] := by cases v <;> simp_all [V.one, V.cells]
    have e2 : u.cells = #[u] := by cases u <;> simp_all [Value.oneCell', Value.cells]
    rw [e1, e2]
    exact LRel.cons h LRel.nil
  · cases h with
    | agg xs us h1 h2 => exact ⟨by simpa [V.cells, Value.cells] using h1, fun i x u hx hu => h2 i x u hx (by simpa [Value.cells] using hu)⟩

/-- The cells of a slice, as they lie. -/
theorem VRel.sl_cells {cs : List V} {n : Nat} {tok : Tok} {A : Option Addr} {m c : Nat} (h : VRel G w (.sl cs n tok) (.slice A m c)) :
    m = n ∧ n ≤ c ∧ c ≤ maxLen ∧ TokOk G w tok A n cs.length c ∧ (A = none → cs = [] ∧ n = 0 ∧ c = 0) ∧
      ∃ us, LRel G w cs us ∧ ∀ ad, A = some ad → ∀ i u, us[i]? = some u → Stb G ad.block (ad.off + i) ∧ w.cell? (ad.add i) = some u := by
  cases h with
  | sl cells n tok a c u h1 h2 h3 h4 h5 h6 =>
    refine ⟨rfl, h1, h2, h6, h3, (List.range cs.length).map u, ⟨by simp, fun i x v hx hv => ?_⟩, fun ad ha i v hv => ?_⟩
    · have hi := (List.getElem?_eq_some_iff.1 hx).1
      rw [List.getElem?_map, List.getElem?_range hi] at hv
      simp at hv
      subst hv
      exact h5 i x hx
    · rw [List.getElem?_map] at hv
      by_cases hi : i < cs.length
      · rw [List.getElem?_range hi] at hv
        simp at hv
        subst hv
        exact h4 ad ha i hi
      · rw [List.getElem?_eq_none (by simpa using hi)] at hv
        simp at hv
theorem VRel.sl_mk {cs : List V} {n : Nat} {tok : Tok} {A : Option Addr} {c : Nat} (us : List Value) (hl : LRel G w cs us) (h1 : n ≤ c) (h2 : c ≤ maxLen) (h3 : A = none → cs = [] ∧ n = 0 ∧ c = 0)
    (h4 : ∀ ad, A = some ad → ∀ i u, us[i]? = some u → Stb G ad.block (ad.off + i) ∧ w.cell? (ad.add i) = some u) (h6 : TokOk G w tok A n cs.length c) : VRel G w (.sl cs n tok) (.slice A n c) := by
  refine .sl cs n tok A c (fun i => us.getD i Go.undef) h1 h2 h3 (fun ad ha i hi => ?_) (fun i x hx => ?_) h6
  · have hi' : i < us.length := by rw [hl.1]; exact hi
    have := h4 ad ha i _ (List.getElem?_eq_getElem hi')
    simpa [List.getD_eq_getElem?_getD, List.getElem?_eq_getElem hi'] using this
  · obtain ⟨u, hu, hv⟩ := hl.get hx
    simpa [List.getD_eq_getElem?_getD, hu] using hv

theorem add_zero' (g j : Nat) : (⟨g, 0, none⟩ : Addr).add j = ⟨g, j, none⟩ := by unfold Addr.add; split <;> simp_all
theorem add_plain' (g o j : Nat) : (⟨g, o, none⟩ : Addr).add j = ⟨g, o + j, none⟩ := by unfold Addr.add; split <;> simp_all

/-- A slice over a new block, all of it stable. -/
theorem new_slice (hr : Rel B w0 G w T) (cs : List V) (us : List Value) (hl : LRel G w cs us) (rest : List Value) (e : TypeId) (n c : Nat) (h1 : n ≤ c) (h2 : c ≤ maxLen) (tok : Tok) (ht : tok = .no ∨ tok = .exact ∧ c = n) :
    Le G w (G.stab w.heap.size us.length) (w.alloc (.cells (us ++ rest).toArray e)) ∧ Rel B w0 (G.stab w.heap.size us.length) (w.alloc (.cells (us ++ rest).toArray e)) T ∧
      VRel (G.stab w.heap.size us.length) (w.alloc (.cells (us ++ rest).toArray e)) (.sl cs n tok) (.slice (some ⟨w.heap.size, 0, none⟩) n c) := by
  obtain ⟨hle, hrel⟩ := new_stab hr (us ++ rest).toArray e us.length (by simp)
  refine ⟨hle, hrel, VRel.sl_mk us (hl.mono hle) h1 h2 (fun h => by cases h) (fun ad ha i u hu => ?_) ?_⟩
  · injection ha with ha
    subst ha
    have hi := (List.getElem?_eq_some_iff.1 hu).1
    rw [add_zero']
    refine ⟨⟨us.length, none, by simp [Gh.stab], by simpa using hi⟩, ?_⟩
    rw [cell_of_row _ _ _ _ e (0, 0) (heap_alloc_new w _)]
    simp [List.getElem?_append_left hi, hu]
  · rcases ht with rfl | ⟨rfl, rfl⟩
    · trivial
    · rfl

/-- The same, and it may be appended to. -/
theorem new_owned_slice (hr : Rel B w0 G w T) (cs : List V) (us : List Value) (hl : LRel G w cs us) (rest : List Value) (e : TypeId) (n c sz : Nat) (h1 : n ≤ c) (h2 : c ≤ maxLen) (hn : cs.length = n * sz)
    (hc : c * sz ≤ (us ++ rest).length) :
    Le G w (G.owned w.heap.size us.length) (w.alloc (.cells (us ++ rest).toArray e)) ∧ Rel B w0 (G.owned w.heap.size us.length) (w.alloc (.cells (us ++ rest).toArray e)) (T.set G.N .row) ∧
      VRel (G.owned w.heap.size us.length) (w.alloc (.cells (us ++ rest).toArray e)) (.sl cs n (.own G.N sz)) (.slice (some ⟨w.heap.size, 0, none⟩) n c) := by
  obtain ⟨hle, hrel⟩ := new_owned hr (us ++ rest).toArray e us.length (by simp)
  refine ⟨hle, hrel, VRel.sl_mk us (hl.mono hle) h1 h2 (fun h => by cases h) (fun ad ha i u hu => ?_) ?_⟩
  · injection ha with ha
    subst ha
    have hi := (List.getElem?_eq_some_iff.1 hu).1
    rw [add_zero']
    refine ⟨⟨us.length, some G.N, by simp [Gh.owned], by simpa using hi⟩, ?_⟩
    rw [cell_of_row _ _ _ _ e (0, 0) (heap_alloc_new w _)]
    simp [List.getElem?_append_left hi, hu]
  · refine .inr ⟨w.heap.size, rfl, by simp [Gh.owned], by simp [Gh.owned], hn, fun m hm => ?_, (us ++ rest).toArray, e, (0, 0), heap_alloc_new w _, by simpa using hc⟩
    simp [Gh.owned] at hm
    rw [← hm, hl.1]

/-- A row that may be appended to is written behind its end. -/
theorem grow_owned (hr : Rel B w0 G w T) {id g m n : Nat} {cur cur' : Array Value} {e : TypeId} (hT : T id = some .row) (hat : G.at_ id = some g) (hst : G.st g = some (m, some id)) (hh : w.heap[g]? = some (.cells cur e (0, 0)))
    (hz : cur'.size = cur.size) (hsame : ∀ i, i < m → cur'[i]? = cur[i]?) (hmn : m ≤ n) (hn : n ≤ cur.size) :
    Le G w (G.owned g n) (w.setRow g cur') ∧ Rel B w0 (G.owned g n) (w.setRow g cur') ((T.del id).set G.N .row) := by
  have hb := hr.st_own g m id hst
  have hg' : (w.setRow g cur').heap[g]? = some (.cells cur' e (0, 0)) := setRow_heap w g cur cur' e _ hh
  have hlt : g < w.heap.size := (Array.getElem?_eq_some_iff.1 hh).1
  have hsz : (w.setRow g cur').heap.size = w.heap.size := by simp [World.setRow]
  have hoth : ∀ k, k ≠ g → (w.setRow g cur').heap[k]? = w.heap[k]? := fun k hk => setRow_other w g k cur' hk
  have hle : Le G w (G.owned g n) (w.setRow g cur') := by
    refine ⟨by simp [Gh.owned], fun b hb => by simp [Gh.owned]; omega, fun k k1 k2 hk => ?_, fun k k1 k2 hk hs => ?_, fun k cs e' fr hk => ?_, by omega, fun k _ hk => ?_⟩
    · by_cases hkg : k = g
      · subst hkg
        rw [hst] at hk
        injection hk with hk
        injection hk with hk1 hk2
        subst hk1
        refine ⟨n, some G.N, by simp [Gh.owned], hmn, fun i hi => ?_⟩
        rw [cell_of_row _ _ _ _ _ _ hg', cell_of_row _ _ _ _ _ _ hh, hsame i hi]
      · refine ⟨k1, k2, by simp [Gh.owned, hkg, hk], Nat.le_refl _, fun i _ => ?_⟩
        exact World.cell?_of_block (w := w) (a := ⟨k, i, none⟩) (hoth k hkg)
    · by_cases hkg : k = g
      · subst hkg
        simp [Gh.owned] at hs
        omega
      · simpa [Gh.owned, hkg] using hs
    · by_cases hkg : k = g
      · subst hkg
        rw [hh] at hk
        injection hk with hk
        injection hk with hk1 hk2 hk3
        subst hk1; subst hk2
        exact ⟨cur', (0, 0), hg', hz⟩
      · exact ⟨cs, fr, (hoth k hkg).trans hk, rfl⟩
    · have hkg : k ≠ g := fun ek => by subst ek; exact hk _ _ hst
      simp [Gh.owned, hkg]
  refine ⟨hle, ?_⟩
  have base : Rel B w0 (G.owned g n) (w.setRow g cur') ((T.del id).up (G.N + 1)) := by
    refine ⟨hr.below.trans ⟨rfl, rfl, rfl, by omega, fun k hk => hoth k (fun e => hb.1 (e ▸ hk))⟩, fun k hk => (by have := hr.hB k hk; omega), fun k x hs => ?_, fun k k1 k2 hs => ?_, fun c k hc => ?_, fun c oc hc => ?_, fun c oc hc => ?_, Nat.le_max_right _ _, fun c d k hc hd h1 h2 => ?_⟩
    · by_cases hkg : k = g
      · subst hkg; omega
      · have := hr.st_lt k x (by simpa [Gh.owned, hkg] using hs); omega
    · by_cases hkg : k = g
      · subst hkg
        simp [Gh.owned] at hs
        obtain ⟨h1, h2⟩ := hs
        subst h1; subst h2
        exact ⟨hb.1, by simp [Gh.owned], by simp [Gh.owned], cur', e, hg', by omega⟩
      · obtain ⟨h1, h2, h3, h4⟩ := hr.st_own k k1 k2 (by simpa [Gh.owned, hkg] using hs)
        rw [hoth k hkg]
        exact ⟨h1, by simp [Gh.owned]; omega, by simp [Gh.owned]; rw [if_neg (by omega)]; exact h3, h4⟩
    · simp only [Gh.owned] at hc ⊢
      split at hc
      · rename_i ec; injection hc with hc; subst hc; exact ⟨by omega, by omega⟩
      · have := hr.at_lt c k hc; omega
    · rw [Tb.up_at, Tb.del_at] at hc
      split at hc
      · cases hc
      · rename_i hne
        have hcl := hr.objlt c oc hc
        refine (hr.obj c oc hc).mono hle hcl fun k hk => ?_
        have hkg : k ≠ g := fun ek => by subst ek; exact hne (hr.inj c id k ⟨oc, hc⟩ ⟨_, hT⟩ hk hat)
        exact ⟨by simp [Gh.owned, hkg], hoth k hkg⟩
    · rw [Tb.up_at, Tb.del_at] at hc
      split at hc
      · cases hc
      · have := hr.objlt c oc hc; simp [Gh.owned]; omega
    · obtain ⟨oc, hc⟩ := hc
      obtain ⟨od, hd⟩ := hd
      rw [Tb.up_at, Tb.del_at] at hc hd
      split at hc
      · cases hc
      · split at hd
        · cases hd
        · have l1 := hr.objlt c oc hc
          have l2 := hr.objlt d od hd
          simp only [Gh.owned] at h1 h2
          rw [if_neg (by omega)] at h1 h2
          exact hr.inj c d k ⟨oc, hc⟩ ⟨od, hd⟩ h1 h2
  refine (Rel.set_new (b := G.N) (o := .row) base (by simp [Gh.owned]) (.inr ⟨g, n, by simp [Gh.owned], by simp [Gh.owned]⟩) ?_).weaken (fun _ _ h => h) (show max (max T.lim (G.N + 1)) (G.N + 1) ≤ max T.lim (G.N + 1) by omega)
  intro c oc k hc h1 h2
  rw [Tb.up_at, Tb.del_at] at hc
  split at hc
  · cases hc
  · rename_i hne
    have l1 := hr.objlt c oc hc
    simp only [Gh.owned] at h1 h2
    simp at h1
    subst h1
    rw [if_neg (by omega)] at h2
    exact (hne (hr.inj c id g ⟨oc, hc⟩ ⟨_, hT⟩ h2 hat)).elim

/-- A label that stands for nothing. -/
def Gh.skip (G : Gh) : Gh := { G with N := G.N + 1 }
theorem skip_row (hr : Rel B w0 G w T) : Le G w G.skip w ∧ Rel B w0 G.skip w (T.set G.N .row) := by
  have hle : Le G w G.skip w := ⟨by simp [Gh.skip], fun _ _ => rfl, fun g n own hs => ⟨n, own, hs, Nat.le_refl _, fun _ _ => rfl⟩, fun _ _ _ _ h => h, fun g cs e fr hc => ⟨cs, fr, hc, rfl⟩, Nat.le_refl _, fun _ _ _ => rfl⟩
  have base : Rel B w0 G.skip w (T.up (G.N + 1)) := by
    refine ⟨hr.below, hr.hB, hr.st_lt, fun g n id hs => ?_, fun b g hb => ?_, fun b o hb => (hr.obj b o hb).mono hle (hr.objlt b o hb) fun _ _ => ⟨rfl, rfl⟩, fun b o hb => ?_, Nat.le_max_right _ _, hr.inj⟩
    · obtain ⟨h1, h2, h3⟩ := hr.st_own g n id hs
      exact ⟨h1, by simp [Gh.skip]; omega, h3⟩
    · have := hr.at_lt b g hb; simp [Gh.skip]; omega
    · have := hr.objlt b o hb; simp [Gh.skip]; omega
  refine ⟨hle, (Rel.set_new (b := G.N) (o := .row) base (by simp [Gh.skip]) (show G.skip.at_ G.N = none ∨ _ from .inl (at_none hr)) ?_).weaken (fun _ _ h => h) (show max (max T.lim (G.N + 1)) (G.N + 1) ≤ max T.lim (G.N + 1) by omega)⟩
  intro c oc g _ h1 _
  have e : G.skip.at_ G.N = G.at_ G.N := rfl
  rw [e, at_none hr] at h1
  cases h1
end
end Go.Ae
