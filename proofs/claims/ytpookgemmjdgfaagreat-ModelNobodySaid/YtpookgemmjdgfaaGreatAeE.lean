/- A part of the proof: a machine on trees that is sound for the model, its tables, and contracts of functions. Conditions: none. -/
import Derived.Test.YtpookgemmjdgfaaGreatAeD
namespace Go.Ae
open Go.RowKit

/-- What the program's tables say of a slice type. -/
structure SlTy (P : Program) (t e : TypeId) (sz bytes : Nat) : Prop where
  und : P.underlying t = some (.slice e)
  info : ∃ i z, P.info? e = some i ∧ i.zero = some z ∧ i.size = sz ∧ i.bytes = bytes ∧ z.cells.size = sz
  pos : 0 < sz

section
variable {P : Program} {B : Nat → Prop} {w0 : World} {G : Gh} {w : World} {T : Tb}

theorem run_append_zero {t ty e : TypeId} {sz bytes : Nat} (ht : SlTy P t e sz bytes) (A : Option Addr) (n c : Nat) (hn : n ≤ c) (A2 : Option Addr) (c2 : Nat) :
    (Builtin.append_ #[t, t] ty #[.slice A n c, .slice A2 0 c2]).run P w = .ok (.slice A n c) w := by
  obtain ⟨i, z, hi, _, _, _, _⟩ := ht.info
  cases A <;> cases A2 <;> simp [Builtin.append_, run_underlying ht.und, sizeOf, typeInfo, hi, Builtin.lenOf, Builtin.firstCells, hn, storeCells, loadCells, loadCellsFrom]

theorem app_row (T : Tb) (tok : Tok) : (∃ id sz, tok = .own id sz ∧ T id = some .row) ∨ tok = .exact → (∀ N, ∀ b o, ((match tok with | .own id _ => T.del id | _ => T).set N .row) b = some o → (T.set N .row) b = some o) := by
  intro _ N b o h
  rw [Tb.set_at] at h ⊢
  split
  · rename_i e; rw [if_pos e] at h; exact h
  · rename_i e
    rw [if_neg e] at h
    split at h
    · rw [Tb.del_at] at h
      split at h
      · cases h
      · exact h
    · exact h

def Tok.dead (T : Tb) : Tok → Tb
  | .own id _ => T.del id
  | _ => T
theorem Tok.dead_sub (T : Tb) (tok : Tok) (b : Nat) (o : AObj) (h : tok.dead T b = some o) : T b = some o := by
  cases tok <;> simp only [Tok.dead] at h <;> try exact h
  rw [Tb.del_at] at h
  split at h
  · cases h
  · exact h
theorem set_sub {T T' : Tb} (h : ∀ b o, T' b = some o → T b = some o) (N : Nat) (x : AObj) (b : Nat) (o : AObj) (hb : T'.set N x b = some o) : T.set N x b = some o := by
  rw [Tb.set_at] at hb ⊢
  split
  · rename_i e; rw [if_pos e] at hb; exact hb
  · rename_i e; rw [if_neg e] at hb; exact h b o hb

theorem Tok.dead_lim (T : Tb) (tok : Tok) (N : Nat) (x : AObj) : (T.set N x).lim ≤ ((tok.dead T).set N x).lim := by cases tok <;> exact Nat.le_refl _
theorem cells_of (us : List Value) (ad : Addr) (h : ∀ i u, us[i]? = some u → Stb G ad.block (ad.off + i) ∧ w.cell? (ad.add i) = some u) : ∀ j v, us[j]? = some v → w.cell? (ad.add j) = some v := fun j v hv => (h j v hv).2

/-- append(s, xs...): whether it fits or not. -/
theorem run_append_tree (hr : Rel B w0 G w T) {t ty e : TypeId} {sz bytes : Nat} (ht : SlTy P t e sz bytes) {cs ds : List V} {n m : Nat} {tok tok2 : Tok} {u1 u2 : Value}
    (h1 : VRel G w (.sl cs n tok) u1) (h2 : VRel G w (.sl ds m tok2) u2) (hcs : cs.length = n * sz) (hds : ds.length = m * sz) (h1c : ∀ x ∈ ds, x.one = true)
    (happ : tok = .exact ∨ ∃ id, tok = .own id sz ∧ T id = some .row) (hb : (n + m) * bytes ≤ 140737488355328) (hm : n + m ≤ 4611686018427387904) :
    ∃ u w' G', (Builtin.append_ #[t, t] ty #[u1, u2]).run P w = .ok u w' ∧ Le G w G' w' ∧ VRel G' w' (.sl (cs ++ ds) (n + m) (.own G.N sz)) u ∧ Rel B w0 G' w' ((tok.dead T).set G.N .row) := by
  obtain ⟨i, z, hi, hz, hsz, hby, hzs⟩ := ht.info
  have hml : n + m ≤ maxLen := by simp only [maxLen]; omega
  cases h1 with
  | sl _ _ _ A c uf a1 a2 a3 a4 a5 a6 =>
  cases h2 with
  | sl _ _ _ A2 c2 uf2 b1 b2 b3 b4 b5 b6 =>
  obtain ⟨_, _, _, _, _, us, hus, husc⟩ := VRel.sl_cells (VRel.sl (G := G) (w := w) cs n tok A c uf a1 a2 a3 a4 a5 a6)
  obtain ⟨_, _, _, _, _, vs, hvs, hvsc⟩ := VRel.sl_cells (VRel.sl (G := G) (w := w) ds m tok2 A2 c2 uf2 b1 b2 b3 b4 b5 b6)
  have hlen : (cs ++ ds).length = (n + m) * sz := by rw [List.length_append, hcs, hds, Nat.add_mul]
  have hvl : vs.length = m * i.size := by rw [hvs.1, hds, hsz]
  have hul : us.length = n * i.size := by rw [hus.1, hcs, hsz]
  have hv1 : ∀ u ∈ vs, u.oneCell' = true := by
    intro u hu
    obtain ⟨j, hj⟩ := List.getElem?_of_mem hu
    have hjl := (List.getElem?_eq_some_iff.1 hj).1
    have hx : ds[j]? = some (ds[j]'(by rw [hvs.1] at hjl; exact hjl)) := List.getElem?_eq_getElem _
    exact (hvs.2 j _ u hx hj).one (h1c _ (List.getElem_mem _))
  -- what the value is, were it of a new block
  have fresh : ∀ (W : World), W.heap = w.heap → W.os = w.os → W.tape = w.tape → W.output = w.output → ∀ cap, n + m ≤ cap → cap ≤ maxLen →
      ∃ G', Le G w G' (W.alloc (.cells (us.toArray ++ vs.toArray ++ Builtin.zeroCells z.cells (cap - (n + m))) e)) ∧
        VRel G' (W.alloc (.cells (us.toArray ++ vs.toArray ++ Builtin.zeroCells z.cells (cap - (n + m))) e)) (.sl (cs ++ ds) (n + m) (.own G.N sz)) (.slice (some ⟨w.heap.size, 0, none⟩) (n + m) cap) ∧
        Rel B w0 G' (W.alloc (.cells (us.toArray ++ vs.toArray ++ Builtin.zeroCells z.cells (cap - (n + m))) e)) ((tok.dead T).set G.N .row) := by
    intro W hW1 hW2 hW3 hW4 cap hc1 hc2
    have hrW := hr.heap hW1 hW2 hW3 hW4
    have hleW := Le.heap G hW1
    obtain ⟨k1, k2, k3⟩ := new_owned_slice hrW (cs ++ ds) (us ++ vs) ((hus.append hvs).mono hleW) (Builtin.zeroCells z.cells (cap - (n + m))).toList e (n + m) cap sz hc1 hc2 hlen (by
      simp only [List.length_append, Array.length_toList, size_zeroCells, hzs, hul, hvl, hsz]
      rw [← Nat.add_mul, ← Nat.add_mul]
      exact Nat.le_of_eq (by congr 1; omega))
    have ea : (us ++ vs ++ (Builtin.zeroCells z.cells (cap - (n + m))).toList).toArray = us.toArray ++ vs.toArray ++ Builtin.zeroCells z.cells (cap - (n + m)) := by
      apply Array.toList_inj.1; simp
    rw [ea, hW1] at k1 k2 k3
    exact ⟨_, hleW.trans k1, k3, k2.weaken (set_sub (Tok.dead_sub T tok) _ _) (Tok.dead_lim T tok _ _)⟩
  by_cases hm0 : m = 0
  · subst hm0
    have hd0 : ds = [] := List.eq_nil_of_length_eq_zero (by simpa using hds)
    subst hd0
    have hrun := run_append_zero (w := w) (ty := ty) ht A n c a1 A2 c2
    simp only [List.append_nil, Nat.add_zero]
    by_cases hex : c = n
    · obtain ⟨k1, k2⟩ := skip_row hr
      refine ⟨_, w, G.skip, hrun, k1, ?_, k2.weaken (set_sub (Tok.dead_sub T tok) _ _) (Tok.dead_lim T tok _ _)⟩
      exact VRel.sl_mk us (hus.mono k1) a1 a2 a3 (fun ad ha j u hu => ⟨(husc ad ha j u hu).1.mono k1, (husc ad ha j u hu).2⟩) (.inl hex)
    · rcases happ with rfl | ⟨id, rfl, hT⟩
      · exact (hex a6).elim
      · rcases a6 with a6 | ⟨g, rfl, g1, g2, g3, g4, cur, e', fr, g5, g6⟩
        · exact (hex a6).elim
        · rcases hr.obj id _ hT with hno | ⟨g', n', q1, q2⟩
          · rw [g2] at hno; cases hno
          · rw [g2] at q1; injection q1 with q1; subst q1
            obtain ⟨_, _, _, cur', e'', q3, q4⟩ := hr.st_own g n' id q2
            have hn' := g4 n' q2
            subst hn'
            obtain ⟨k1, k2⟩ := grow_owned hr (cur' := cur') hT g2 q2 q3 rfl (fun _ _ => rfl) (Nat.le_refl _) q4
            rw [setRow_self w g cur' e'' (0, 0) q3] at k1 k2
            refine ⟨_, w, _, hrun, k1, ?_, k2⟩
            refine VRel.sl_mk us (hus.mono k1) a1 a2 a3 (fun ad ha j u hu => ⟨(husc ad ha j u hu).1.mono k1, (husc ad ha j u hu).2⟩) (.inr ⟨g, rfl, by simp [Gh.owned], by simp [Gh.owned], g3, fun m' hm' => ?_, cur, e', fr, g5, g6⟩)
            simp [Gh.owned] at hm'
            omega
  · have hm1 : 0 < m := by omega
    obtain ⟨ad2, rfl⟩ : ∃ ad2, A2 = some ad2 := by
      cases A2 with
      | none => have := (b3 rfl).2.1; omega
      | some x => exact ⟨x, rfl⟩
    have hvc := cells_of vs ad2 (hvsc ad2 rfl)
    by_cases hroom : n + m ≤ c
    · -- it fits: it is the call's own
      rcases happ with rfl | ⟨id, rfl, hT⟩
      · have : c = n := a6
        omega
      · rcases a6 with a6 | ⟨g, rfl, g1, g2, g3, g4, cur, e', fr, g5, g6⟩
        · omega
        · rcases hr.obj id _ hT with hno | ⟨g', n', q1, q2⟩
          · rw [g2] at hno; cases hno
          · rw [g2] at q1; injection q1 with q1; subst q1
            obtain ⟨_, _, _, cur', e'', q3, q4⟩ := hr.st_own g n' id q2
            have hn' := g4 n' q2
            subst hn'
            have hcz : c * sz ≤ cur'.size := by rw [g5] at q3; injection q3 with q3; injection q3 with q31 q32 q33; subst q31; exact g6
            have hroom2 : n * i.size + vs.length ≤ cur'.size := by
              rw [hvl, ← Nat.add_mul, hsz]
              exact Nat.le_trans (Nat.mul_le_mul_right _ hroom) hcz
            have hf := run_firstCells_some (P := P) w i.size m ad2 m c2 vs hvl hvc
            have hst := run_storeCells_at P g (n * i.size) e'' vs 0 cur' w q3 (by simpa using hroom2) hv1
            simp only [Nat.add_zero] at hst
            have hrun : (Builtin.append_ #[t, t] ty #[.slice (some ⟨g, 0, none⟩) n c, .slice (some ad2) m c2]).run P w =
                .ok (.slice (some ⟨g, 0, none⟩) (n + m) c) (w.setRow g (cur'.toList.take (n * i.size) ++ vs ++ cur'.toList.drop (n * i.size + vs.length)).toArray) := by
              simp [Builtin.append_, run_underlying ht.und, sizeOf, typeInfo, hi, Builtin.lenOf, hroom, hf, Addr.add_lit, hst]
            have hnl : cs.length = n * i.size := by rw [hcs, hsz]
            have hgsz : (cur'.toList.take (n * i.size) ++ vs ++ cur'.toList.drop (n * i.size + vs.length)).toArray.size = cur'.size := by
              simp only [List.size_toArray, List.length_append, List.length_take, List.length_drop, Array.length_toList]
              omega
            have hpre : ∀ j, j < cs.length → (cur'.toList.take (n * i.size) ++ vs ++ cur'.toList.drop (n * i.size + vs.length)).toArray[j]? = cur'[j]? := by
              intro j hj
              rw [← Array.getElem?_toList, ← Array.getElem?_toList]
              simp only []
              rw [List.append_assoc, List.getElem?_append_left (by simp; omega), List.getElem?_take, if_pos (by omega)]
            obtain ⟨k1, k2⟩ := grow_owned hr (n := cs.length + vs.length) hT g2 q2 q3 hgsz hpre (by omega) (by omega)
            have hhg : (w.setRow g (cur'.toList.take (n * i.size) ++ vs ++ cur'.toList.drop (n * i.size + vs.length)).toArray).heap[g]? = some (Obj.cells (cur'.toList.take (n * i.size) ++ vs ++ cur'.toList.drop (n * i.size + vs.length)).toArray e'' (0, 0)) := setRow_heap w g cur' _ e'' _ q3
            refine ⟨_, _, _, hrun, k1, ?_, k2⟩
            refine VRel.sl_mk (us ++ vs) ((hus.append hvs).mono k1) hroom a2 (fun h => by cases h) (fun ad ha j u hu => ?_) (.inr ⟨g, rfl, by simp [Gh.owned], by simp [Gh.owned], hlen, fun m' hm' => ?_, _, e'', (0, 0), hhg, by rw [hgsz]; exact hcz⟩)
            · injection ha with ha
              subst ha
              have hj := (List.getElem?_eq_some_iff.1 hu).1
              rw [List.length_append, hus.1] at hj
              refine ⟨⟨cs.length + vs.length, some G.N, by simp [Gh.owned], by simpa using hj⟩, ?_⟩
              rw [add_zero']
              by_cases hjn : j < us.length
              · rw [List.getElem?_append_left hjn] at hu
                have h3 := husc ⟨g, 0, none⟩ rfl j u hu
                have h4 := h3.1.cell k1 (ad := ⟨g, 0, none⟩) h3.2
                rwa [add_zero'] at h4
              · rw [List.getElem?_append_right (by omega)] at hu
                rw [cell_of_row _ _ _ _ _ _ hhg, ← Array.getElem?_toList]
                simp only []
                have hmin : min (n * i.size) cur'.size = n * i.size := by omega
                rw [List.append_assoc, List.getElem?_append_right (by simp; omega), List.getElem?_append_left (by simp; omega)]
                simp only [List.length_take, Array.length_toList, hmin]
                rw [← hul]
                exact hu
            · simp [Gh.owned] at hm'
              rw [List.length_append, ← hm', hvs.1]
    · have hold : n + m ≤ grownCap w (n + m) c e := grownCap_ge w (n + m) c e
      have hcm : grownCap w (n + m) c e ≤ maxLen := grownCap_le_maxLen w (n + m) c e hml
      obtain ⟨G', k1, k2, k3⟩ := fresh w.drew rfl rfl rfl rfl (grownCap w (n + m) c e) hold hcm
      cases A with
      | none =>
        obtain ⟨rfl, rfl, rfl⟩ := a3 rfl
        have hu0 : us = [] := List.eq_nil_of_length_eq_zero (by simpa using hul)
        subst hu0
        have hrun := run_append_nil (P := P) w t ty e i z ht.und hi hz ad2 m c2 vs hvl hvc hm1 (by omega) (by rw [hby]; have := hb; simp only [Nat.zero_add] at this; omega)
        simp only [Nat.zero_add, List.nil_append, Array.empty_append] at k1 k2 k3 hrun ⊢
        exact ⟨_, _, G', hrun, k1, k2, k3⟩
      | some ad =>
        have hrun := run_append_grow (P := P) w t ty e i z ht.und hi hz ad n c us hul (cells_of us ad (husc ad rfl)) ad2 m c2 vs hvl hvc (by omega) (by omega) (growslice_fits (by omega) (by rw [hby]; exact hb))
        exact ⟨_, _, G', hrun, k1, k2, k3⟩
end
end Go.Ae
