/- A part of the proof: a machine on trees that is sound for the model, its tables, and contracts of functions. Conditions: none. -/
import Derived.Test.YtpookgemmjdgfaaGreatAeB
namespace Go.Ae
open Go.RowKit

/-! ### What becomes of the world -/
section
variable {B : Nat → Prop} {w0 : World} {G : Gh} {w : World} {T : Tb}

theorem Rel.weaken (hr : Rel B w0 G w T) {T' : Tb} (h : ∀ b o, T' b = some o → T b = some o) (hm : T.lim ≤ T'.lim) : Rel B w0 G w T' :=
  ⟨hr.below, hr.hB, hr.st_lt, hr.st_own, hr.at_lt, fun b o hb => hr.obj b o (h b o hb), fun b o hb => hr.objlt b o (h b o hb), Nat.le_trans hr.lim hm,
   fun b c g ⟨o, hb⟩ ⟨o', hc⟩ => hr.inj b c g ⟨o, h b o hb⟩ ⟨o', h c o' hc⟩⟩

theorem VRel.heap {G : Gh} {w w' : World} (h : w'.heap = w.heap) {v : V} {u : Value} (hv : VRel G w v u) : VRel G w' v u :=
  hv.mono ⟨Nat.le_refl _, fun _ _ => rfl, fun g n own hs => ⟨n, own, hs, Nat.le_refl _, fun i _ => by simp [World.cell?, h]⟩, fun _ _ _ _ h => h, fun g cs e fr hc => ⟨cs, fr, by rw [h]; exact hc, rfl⟩, by rw [h]; exact Nat.le_refl _, fun _ _ _ => rfl⟩
theorem Le.heap (G : Gh) {w w' : World} (h : w'.heap = w.heap) : Le G w G w' :=
  ⟨Nat.le_refl _, fun _ _ => rfl, fun g n own hs => ⟨n, own, hs, Nat.le_refl _, fun i _ => by simp [World.cell?, h]⟩, fun _ _ _ _ h => h, fun g cs e fr hc => ⟨cs, fr, by rw [h]; exact hc, rfl⟩, by rw [h]; exact Nat.le_refl _, fun _ _ _ => rfl⟩

theorem ObjRel.mono {G G' : Gh} {w w' : World} {b : Nat} {o : AObj} (hle : Le G w G' w') (hb : b < G.N) (hk : ∀ g, G.at_ b = some g → G'.st g = G.st g ∧ w'.heap[g]? = w.heap[g]?) (h : ObjRel B G w b o) : ObjRel B G' w' b o := by
  cases o with
  | cells cs =>
    obtain ⟨g, cur, e, h1, h2, h3, h4, h5⟩ := h
    obtain ⟨k1, k2⟩ := hk g h1
    exact ⟨g, cur, e, (hle.at_ b hb).trans h1, h2, k1.trans h3, k2.trans h4, h5.mono hle⟩
  | row =>
    rcases h with h | ⟨g, n, h1, h2⟩
    · exact .inl ((hle.at_ b hb).trans h)
    · exact .inr ⟨g, n, (hle.at_ b hb).trans h1, (hk g h1).1.trans h2⟩
  | map es =>
    obtain ⟨g, us, clock, h1, h2, h3, h4, h5, h6⟩ := h
    obtain ⟨k1, k2⟩ := hk g h1
    exact ⟨g, us, clock, (hle.at_ b hb).trans h1, h2, k1.trans h3, k2.trans h4, ⟨h5.1.mono hle, h5.2⟩, h6.mono hle⟩
  | iter m since seen last =>
    obtain ⟨g, gm, h1, h2, h3, h4, h5, h6⟩ := h
    obtain ⟨k1, k2⟩ := hk g h1
    exact ⟨g, gm, (hle.at_ b hb).trans h1, h2, k1.trans h3, k2.trans h4, Nat.lt_of_lt_of_le h5 hle.N, (hle.at_ m h5).trans h6⟩

theorem Rel.heap (hr : Rel B w0 G w T) {w' : World} (h : w'.heap = w.heap) (ho : w'.os = w.os) (ht : w'.tape = w.tape) (hout : w'.output = w.output) : Rel B w0 G w' T :=
  ⟨hr.below.trans ⟨ho, ht, hout, by rw [h]; exact Nat.le_refl _, fun k _ => by rw [h]⟩, by rw [h]; exact hr.hB, fun g x hs => by rw [h]; exact hr.st_lt g x hs,
   fun g n id hs => by rw [h]; exact hr.st_own g n id hs, fun b g hb => by rw [h]; exact hr.at_lt b g hb,
   fun b o hb => (hr.obj b o hb).mono (Le.heap G h) (hr.objlt b o hb) fun g _ => ⟨rfl, by rw [h]⟩, hr.objlt, hr.lim, hr.inj⟩

def Gh.stab (G : Gh) (g n : Nat) : Gh := { G with st := fun x => if x = g then some (n, none) else G.st x }
def Gh.owned (G : Gh) (g n : Nat) : Gh := { st := fun x => if x = g then some (n, some G.N) else G.st x, at_ := fun b => if b = G.N then some g else G.at_ b, N := G.N + 1 }
def Gh.obj (G : Gh) (g : Nat) : Gh := { G with at_ := fun b => if b = G.N then some g else G.at_ b, N := G.N + 1 }

theorem alloc_old (w : World) (o : Obj) {g : Nat} (h : g < w.heap.size) : (w.alloc o).heap[g]? = w.heap[g]? := heap_alloc_old w o h
theorem st_none (hr : Rel B w0 G w T) : G.st w.heap.size = none := by
  cases h : G.st w.heap.size with
  | none => rfl
  | some x => have := hr.st_lt _ _ h; omega

theorem Le.alloc_gen (hr : Rel B w0 G w T) (o : Obj) {G' : Gh} (hN : G.N ≤ G'.N) (hat : ∀ b, b < G.N → G'.at_ b = G.at_ b) (hst : ∀ g, g ≠ w.heap.size → G'.st g = G.st g)
    (hown : ∀ m id, id < G.N → G'.st w.heap.size = some (m, some id) → False) : Le G w G' (w.alloc o) := by
  refine ⟨hN, hat, fun g n own hs => ?_, fun g m id hid hs => ?_, fun g cs e fr hc => ?_, by simp, fun g hg _ => hst g (by omega)⟩
  · have hlt := hr.st_lt _ _ hs
    refine ⟨n, own, (hst g (by omega)).trans hs, Nat.le_refl _, fun i _ => ?_⟩
    exact World.cell?_of_block (w := w) (a := ⟨g, i, none⟩) (alloc_old w o hlt)
  · by_cases hg : g = w.heap.size
    · subst hg; exact (hown m id hid hs).elim
    · rw [hst g hg] at hs; exact hs
  · have hlt := (Array.getElem?_eq_some_iff.1 hc).1
    exact ⟨cs, fr, (alloc_old w o hlt).trans hc, rfl⟩

theorem Rel.alloc_gen (hr : Rel B w0 G w T) (o : Obj) {G' : Gh} (hle : Le G w G' (w.alloc o)) (hst : ∀ g, g ≠ w.heap.size → G'.st g = G.st g)
    (hat : ∀ b g, G'.at_ b = some g → (b < G.N ∧ G.at_ b = some g) ∨ (G.N ≤ b ∧ b < G'.N ∧ g = w.heap.size))
    (hnew : ∀ n id, G'.st w.heap.size = some (n, some id) → id < G'.N ∧ G'.at_ id = some w.heap.size ∧ ∃ (cur : Array Value) (e : TypeId), o = Obj.cells cur e (0, 0) ∧ n ≤ cur.size) : Rel B w0 G' (w.alloc o) (T.up G'.N) := by
  have hB := hr.hB
  refine ⟨hr.below.alloc hB o, fun k hk => (by have := hB k hk; simp; omega), fun g x hs => ?_, fun g n id hs => ?_, fun b g hb => ?_, fun b ob hb => ?_, fun b ob hb => Nat.lt_of_lt_of_le (hr.objlt b ob hb) hle.N, Nat.le_max_right _ _, fun b c g hb hc h1 h2 => ?_⟩
  · by_cases hg : g = w.heap.size
    · subst hg; simp
    · rw [hst g hg] at hs; have := hr.st_lt g x hs; simp; omega
  · by_cases hg : g = w.heap.size
    · subst hg
      obtain ⟨h1, h2, cur, e, rfl, h3⟩ := hnew n id hs
      exact ⟨fun hk => Nat.lt_irrefl _ (hB _ hk), h1, h2, cur, e, heap_alloc_new w _, h3⟩
    · rw [hst g hg] at hs
      obtain ⟨h1, h2, h3, cur, e, h4, h5⟩ := hr.st_own g n id hs
      have hlt := (Array.getElem?_eq_some_iff.1 h4).1
      exact ⟨h1, Nat.lt_of_lt_of_le h2 hle.N, (hle.at_ id h2).trans h3, cur, e, (alloc_old w o hlt).trans h4, h5⟩
  · rcases hat b g hb with ⟨h1, h2⟩ | ⟨_, h2, rfl⟩
    · have := hr.at_lt b g h2; exact ⟨Nat.lt_of_lt_of_le h1 hle.N, by simp; omega⟩
    · exact ⟨h2, by simp⟩
  · refine (hr.obj b ob hb).mono hle (hr.objlt b ob hb) fun g hg => ?_
    have := (hr.at_lt b g hg).2
    exact ⟨hst g (by omega), alloc_old w o this⟩
  · obtain ⟨ob, hb'⟩ := hb
    obtain ⟨oc, hc'⟩ := hc
    have lb := hr.objlt b ob hb'
    have lc := hr.objlt c oc hc'
    rw [hle.at_ b lb] at h1
    rw [hle.at_ c lc] at h2
    exact hr.inj b c g ⟨ob, hb'⟩ ⟨oc, hc'⟩ h1 h2

theorem Rel.set_new (hr : Rel B w0 G w T) {b : Nat} {o : AObj} (hb : b < G.N) (ho : ObjRel B G w b o) (hfresh : ∀ c oc g, T c = some oc → G.at_ b = some g → G.at_ c = some g → c = b) : Rel B w0 G w (T.set b o) := by
  refine ⟨hr.below, hr.hB, hr.st_lt, hr.st_own, hr.at_lt, fun c oc hc => ?_, fun c oc hc => ?_, Nat.le_trans hr.lim (Nat.le_max_left _ _), fun c d g hc hd h1 h2 => ?_⟩
  · rw [Tb.set_at] at hc
    split at hc
    · rename_i e; subst e; injection hc with hc; subst hc; exact ho
    · exact hr.obj c oc hc
  · rw [Tb.set_at] at hc
    split at hc
    · rename_i e; subst e; exact hb
    · exact hr.objlt c oc hc
  · obtain ⟨oc, hc⟩ := hc
    obtain ⟨od, hd⟩ := hd
    rw [Tb.set_at] at hc hd
    by_cases e1 : c = b
    · by_cases e2 : d = b
      · rw [e1, e2]
      · rw [if_neg e2] at hd
        subst e1
        exact (hfresh d od g hd h1 h2).symm
    · rw [if_neg e1] at hc
      by_cases e2 : d = b
      · subst e2
        exact hfresh c oc g hc h2 h1
      · rw [if_neg e2] at hd
        exact hr.inj c d g ⟨oc, hc⟩ ⟨od, hd⟩ h1 h2

theorem at_none (hr : Rel B w0 G w T) : G.at_ G.N = none := by
  cases h : G.at_ G.N with
  | none => rfl
  | some g => have := (hr.at_lt _ _ h).1; omega
theorem T_fresh (hr : Rel B w0 G w T) : T G.N = none := by
  cases h : T G.N with
  | none => rfl
  | some o => have := hr.objlt _ _ h; omega

/-- A new block that stays as it is. -/
theorem new_stab (hr : Rel B w0 G w T) (cur : Array Value) (e : TypeId) (n : Nat) (_hn : n ≤ cur.size) :
    Le G w (G.stab w.heap.size n) (w.alloc (.cells cur e)) ∧ Rel B w0 (G.stab w.heap.size n) (w.alloc (.cells cur e)) T := by
  have hle : Le G w (G.stab w.heap.size n) (w.alloc (.cells cur e)) :=
    Le.alloc_gen hr _ (Nat.le_refl _) (fun _ _ => rfl) (fun g hg => by simp [Gh.stab, hg]) (fun m id _ h => by simp [Gh.stab] at h)
  exact ⟨hle, (Rel.alloc_gen hr _ hle (fun g hg => by simp [Gh.stab, hg]) (fun b g h => .inl ⟨(hr.at_lt b g h).1, h⟩) (fun n id h => by simp [Gh.stab] at h)).weaken (fun _ _ h => h) (show max T.lim G.N ≤ T.lim from Nat.max_le.2 ⟨Nat.le_refl _, hr.lim⟩)⟩

/-- A new block to which may be appended. -/
theorem new_owned (hr : Rel B w0 G w T) (cur : Array Value) (e : TypeId) (n : Nat) (hn : n ≤ cur.size) :
    Le G w (G.owned w.heap.size n) (w.alloc (.cells cur e)) ∧ Rel B w0 (G.owned w.heap.size n) (w.alloc (.cells cur e)) (T.set G.N .row) := by
  have hle : Le G w (G.owned w.heap.size n) (w.alloc (.cells cur e)) :=
    Le.alloc_gen hr _ (by simp [Gh.owned]) (fun b hb => by simp [Gh.owned]; omega) (fun g hg => by simp [Gh.owned, hg]) (fun m id hid h => by simp [Gh.owned] at h; omega)
  refine ⟨hle, (Rel.set_new (Rel.alloc_gen hr _ hle (fun g hg => by simp [Gh.owned, hg]) (fun b g h => ?_) (fun m id h => ?_)) (by simp [Gh.owned]) ?_ ?_).weaken (fun _ _ h => h) (show max (max T.lim (G.N + 1)) (G.N + 1) ≤ max T.lim (G.N + 1) by omega)⟩
  · simp only [Gh.owned] at h
    split at h
    · rename_i eb; subst eb; injection h with h; exact .inr ⟨Nat.le_refl _, by simp [Gh.owned], h.symm⟩
    · exact .inl ⟨(hr.at_lt b g h).1, h⟩
  · simp [Gh.owned] at h
    obtain ⟨h1, h2⟩ := h
    subst h1; subst h2
    exact ⟨by simp [Gh.owned], by simp [Gh.owned], cur, e, rfl, hn⟩
  · exact .inr ⟨w.heap.size, n, by simp [Gh.owned], by simp [Gh.owned]⟩
  · intro c oc g hc h1 h2
    have hlt := hr.objlt c oc hc
    simp only [Gh.owned] at h1 h2
    simp at h1
    rw [if_neg (by omega)] at h2
    have := (hr.at_lt c g h2).2
    omega

/-- A new object. -/
theorem new_obj (hr : Rel B w0 G w T) (cs : List V) (us : List Value) (hl : LRel G w cs us) (e : TypeId) :
    Le G w (G.obj w.heap.size) (w.alloc (.cells us.toArray e)) ∧ Rel B w0 (G.obj w.heap.size) (w.alloc (.cells us.toArray e)) (T.set G.N (.cells cs)) := by
  have hle : Le G w (G.obj w.heap.size) (w.alloc (.cells us.toArray e)) :=
    Le.alloc_gen hr _ (by simp [Gh.obj]) (fun b hb => by simp [Gh.obj]; omega) (fun g _ => rfl) (fun m id hid h => by simp [Gh.obj, st_none hr] at h)
  refine ⟨hle, (Rel.set_new (Rel.alloc_gen hr _ hle (fun g _ => rfl) (fun b g h => ?_) (fun m id h => ?_)) (by simp [Gh.obj]) ?_ ?_).weaken (fun _ _ h => h) (show max (max T.lim (G.N + 1)) (G.N + 1) ≤ max T.lim (G.N + 1) by omega)⟩
  · simp only [Gh.obj] at h
    split at h
    · rename_i eb; subst eb; injection h with h; exact .inr ⟨Nat.le_refl _, by simp [Gh.obj], h.symm⟩
    · exact .inl ⟨(hr.at_lt b g h).1, h⟩
  · simp [Gh.obj, st_none hr] at h
  · exact ⟨w.heap.size, us.toArray, e, by simp [Gh.obj], fun hk => Nat.lt_irrefl _ (hr.hB _ hk), (st_none hr : G.st w.heap.size = none), heap_alloc_new w _, by simpa using hl.mono hle⟩
  · intro c oc g hc h1 h2
    have hlt := hr.objlt c oc hc
    simp only [Gh.obj] at h1 h2
    simp at h1
    rw [if_neg (by omega)] at h2
    have := (hr.at_lt c g h2).2
    omega

/-- A new map. -/
theorem new_map (hr : Rel B w0 G w T) : Le G w (G.obj w.heap.size) (w.alloc (.map #[] 0)) ∧ Rel B w0 (G.obj w.heap.size) (w.alloc (.map #[] 0)) (T.set G.N (.map [])) := by
  have hle : Le G w (G.obj w.heap.size) (w.alloc (.map #[] 0)) :=
    Le.alloc_gen hr _ (by simp [Gh.obj]) (fun b hb => by simp [Gh.obj]; omega) (fun g _ => rfl) (fun m id hid h => by simp [Gh.obj, st_none hr] at h)
  refine ⟨hle, (Rel.set_new (Rel.alloc_gen hr _ hle (fun g _ => rfl) (fun b g h => ?_) (fun m id h => ?_)) (by simp [Gh.obj]) ?_ ?_).weaken (fun _ _ h => h) (show max (max T.lim (G.N + 1)) (G.N + 1) ≤ max T.lim (G.N + 1) by omega)⟩
  · simp only [Gh.obj] at h
    split at h
    · rename_i eb; subst eb; injection h with h; exact .inr ⟨Nat.le_refl _, by simp [Gh.obj], h.symm⟩
    · exact .inl ⟨(hr.at_lt b g h).1, h⟩
  · simp [Gh.obj, st_none hr] at h
  · exact ⟨w.heap.size, #[], 0, by simp [Gh.obj], fun hk => Nat.lt_irrefl _ (hr.hB _ hk), (st_none hr : G.st w.heap.size = none), heap_alloc_new w _, ⟨LRel.nil, rfl, fun i x h => by simp at h⟩, LRel.nil⟩
  · intro c oc g hc h1 h2
    have hlt := hr.objlt c oc hc
    simp only [Gh.obj] at h1 h2
    simp at h1
    rw [if_neg (by omega)] at h2
    have := (hr.at_lt c g h2).2
    omega

/-- The block of an object turns. -/
theorem Le.block {G : Gh} {w : World} {g : Nat} {o : Obj} {w' : World} (hst : G.st g = none) (hz : w'.heap.size = w.heap.size) (hg : w'.heap[g]? = some o) (ho : ∀ k, k ≠ g → w'.heap[k]? = w.heap[k]?)
    (hs : ∀ cs e fr, w.heap[g]? = some (Obj.cells cs e fr) → ∃ (cs' : Array Value) (fr' : Nat × Nat), o = Obj.cells cs' e fr' ∧ cs'.size = cs.size) : Le G w G w' := by
  refine ⟨Nat.le_refl _, fun _ _ => rfl, fun g' n own hs' => ⟨n, own, hs', Nat.le_refl _, fun i _ => ?_⟩, fun _ _ _ _ h => h, fun g' cs e fr hc => ?_, by omega, fun _ _ _ => rfl⟩
  · have hne : g' ≠ g := fun e => by subst e; rw [hst] at hs'; cases hs'
    exact World.cell?_of_block (w := w) (a := ⟨g', i, none⟩) (ho g' hne)
  · by_cases hne : g' = g
    · subst hne
      obtain ⟨cs', fr', rfl, h2⟩ := hs cs e fr hc
      exact ⟨cs', fr', hg, h2⟩
    · exact ⟨cs, fr, (ho g' hne).trans hc, rfl⟩

theorem Rel.block (hr : Rel B w0 G w T) {b g : Nat} {w' : World} {ob ob' : AObj} (hT : T b = some ob) (hat : G.at_ b = some g) (hst : G.st g = none) (hgB : ¬ B g) (hz : w'.heap.size = w.heap.size)
    (hos : w'.os = w.os) (htp : w'.tape = w.tape) (hout : w'.output = w.output) (ho : ∀ k, k ≠ g → w'.heap[k]? = w.heap[k]?) (hle : Le G w G w') (hob : ObjRel B G w' b ob') : Rel B w0 G w' (T.set b ob') := by
  have base : Rel B w0 G w' (T.del b) := by
    refine ⟨hr.below.trans ⟨hos, htp, hout, by omega, fun k hk => ho k (fun e => hgB (e ▸ hk))⟩, fun k hk => (by have := hr.hB k hk; omega), fun g' x hs => by have := hr.st_lt g' x hs; omega, fun g' n id hs => ?_, fun c g' hc => by have := hr.at_lt c g' hc; omega, fun c oc hc => ?_, fun c oc hc => ?_, hr.lim, fun c d g' hc hd h1 h2 => ?_⟩
    · have hne : g' ≠ g := fun e => by subst e; rw [hst] at hs; cases hs
      rw [ho g' hne]
      exact hr.st_own g' n id hs
    · rw [Tb.del_at] at hc
      split at hc
      · cases hc
      · rename_i hne
        refine (hr.obj c oc hc).mono hle (hr.objlt c oc hc) fun g' hg' => ⟨rfl, ho g' fun e => ?_⟩
        subst e
        exact hne (hr.inj c b g' ⟨oc, hc⟩ ⟨ob, hT⟩ hg' hat)
    · rw [Tb.del_at] at hc
      split at hc
      · cases hc
      · exact hr.objlt c oc hc
    · obtain ⟨oc, hc⟩ := hc
      obtain ⟨od, hd⟩ := hd
      rw [Tb.del_at] at hc hd
      split at hc
      · cases hc
      · split at hd
        · cases hd
        · exact hr.inj c d g' ⟨oc, hc⟩ ⟨od, hd⟩ h1 h2
  have hb := hr.objlt b ob hT
  have := Rel.set_new base hb hob (fun c oc g' hc h1 h2 => by
    rw [Tb.del_at] at hc
    split at hc
    · cases hc
    · exact hr.inj c b g' ⟨oc, hc⟩ ⟨ob, hT⟩ h2 h1)
  refine this.weaken (fun c oc hc => ?_) (Nat.le_refl _)
  rw [Tb.set_at] at hc ⊢
  by_cases e : c = b
  · rw [if_pos e] at hc ⊢; exact hc
  · rw [if_neg e, Tb.del_at, if_neg e]; rw [if_neg e] at hc; exact hc
def Gh.upTo (G : Gh) (m : Nat) : Gh := { G with N := m }
/-- More labels are taken as used. -/
theorem Rel.upTo (hr : Rel B w0 G w T) : Le G w (G.upTo T.lim) w ∧ Rel B w0 (G.upTo T.lim) w T := by
  have hN := hr.lim
  have hle : Le G w (G.upTo T.lim) w := ⟨hr.lim, fun _ _ => rfl, fun g n own hs => ⟨n, own, hs, Nat.le_refl _, fun _ _ => rfl⟩, fun _ _ _ _ h => h, fun g cs e fr hc => ⟨cs, fr, hc, rfl⟩, Nat.le_refl _, fun _ _ _ => rfl⟩
  refine ⟨hle, hr.below, hr.hB, hr.st_lt, fun g n id hs => ?_, fun b g hb => ?_, fun b o hb => (hr.obj b o hb).mono hle (hr.objlt b o hb) fun _ _ => ⟨rfl, rfl⟩, fun b o hb => ?_, Nat.le_refl _, hr.inj⟩
  · obtain ⟨h1, h2, h3⟩ := hr.st_own g n id hs
    exact ⟨h1, Nat.lt_of_lt_of_le h2 hN, h3⟩
  · have := hr.at_lt b g hb; exact ⟨Nat.lt_of_lt_of_le this.1 hN, this.2⟩
  · exact Nat.lt_of_lt_of_le (hr.objlt b o hb) hN
end
end Go.Ae
