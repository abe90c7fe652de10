/- A part of the proof: a machine on trees that is sound for the model, its tables, and contracts of functions. Conditions: none. -/
import Derived.Test.YtpookgemmjdgfaaGreatAeE
namespace Go.Ae
open Go.RowKit

/-! ### Facts of the program's tables, each a closed Bool -/
def scB (P : Program) (t : TypeId) : Bool := match P.underlying t with | some (.struct _) | some (.array ..) | none => false | some _ => true
def agB (P : Program) (t : TypeId) : Bool := match P.underlying t with | some (.struct _) | some (.array ..) => true | _ => false
def szB (P : Program) (t : TypeId) (n : Nat) : Bool := match P.info? t with | some i => i.size == n | none => false
def fdB (P : Program) (s : TypeId) (f off : Nat) : Bool :=
  match P.underlying s with
  | some (.struct fs) => (match fs[f]? with | some fl => fl.offset == off && (match P.info? fl.type with | some i => i.size != 0 | none => false) | none => false)
  | _ => false

section
variable {P : Program} {t : TypeId}
theorem run_isAgg_sc (h : scB P t = true) (w : World) : (isAgg t).run P w = .ok false w := by
  unfold scB at h
  split at h
  · cases h
  · cases h
  · cases h
  · rename_i d h1 h2 hd
    simp only [isAgg, Sem.run_bind, run_underlying hd, Result.andThen_ok]
    cases d <;> first | rfl | exact (h1 _ rfl).elim | exact (h2 _ _ rfl).elim
theorem run_isAgg_ag (h : agB P t = true) (w : World) : (isAgg t).run P w = .ok true w := by
  unfold agB at h
  split at h
  · rename_i fs hd; simp [isAgg, run_underlying hd]
  · rename_i a b hd; simp [isAgg, run_underlying hd]
  · cases h
theorem run_sizeOf {n : Nat} (h : szB P t n = true) (w : World) : (sizeOf t).run P w = .ok n w := by
  unfold szB at h
  split at h
  · rename_i i hi; simp at h; subst h; simp [sizeOf, typeInfo, hi]
  · cases h
end

theorem add_add' (ad : Addr) (i j : Nat) : (ad.add i).add j = ad.add (i + j) := by
  unfold Addr.add
  by_cases hi : i = 0 <;> by_cases hj : j = 0 <;> simp [hi, hj, Nat.add_assoc]

section
variable {P : Program} {o : Oper} {ts : List V} {T : Tb} {K : V → Tb → Prop} {x y : Operand}

/-! ### What only moves values -/
theorem aop_same (v : V) (h : ∀ (G : Gh) (w : World) (a : Act), LRel G w ts a.tmps.toList → ∃ u, (execOp a.eval o).run P w = .ok (.value u) w ∧ VRel G w v u) (hk : K v T) : AOp P o ts T K :=
  aop_value fun B w0 G w a hr hl => by
    obtain ⟨u, h1, h2⟩ := h G w a hl
    exact ⟨u, w, G, v, T, h1, Le.refl _ _, h2, hr, hk⟩
theorem aop_move (ho : o.op = .move x) (hk : K (evV ts x) T) : AOp P o ts T K :=
  aop_same _ (fun G w a hl => ⟨a.eval x, by simp [execOp, ho], hl.ev x⟩) hk
theorem aop_assign (ho : o.op = .assign x) (hk : K (evV ts x) T) : AOp P o ts T K :=
  aop_same _ (fun G w a hl => ⟨a.eval x, by simp [execOp, ho], hl.ev x⟩) hk
theorem LRel.ev_lit {G : Gh} {w : World} {a : Act} (hl : LRel G w ts a.tmps.toList) {u : Value} (hx : evV ts x = .lit u) : a.eval x = u := by
  have := hl.ev x
  rw [hx] at this
  generalize he : a.eval x = v at this
  cases this
  rfl
theorem aop_pick {c : Operand} {b : Bool} (ho : o.op = .pick c x y) (hc : evV ts c = .lit (.bool b)) (hk : K (if b then evV ts x else evV ts y) T) : AOp P o ts T K :=
  aop_same _ (fun G w a hl => ⟨if b then a.eval x else a.eval y, by simp [execOp, ho, hl.ev_lit hc, asBool], by cases b <;> exact hl.ev _⟩) hk
theorem aop_extract {vs : List V} {v : V} {i : Nat} (ho : o.op = .extract x i) (hx : evV ts x = .tup vs) (hv : vs[i]? = some v) (hk : K v T) : AOp P o ts T K :=
  aop_same _ (fun G w a hl => by
    have h := hl.ev x
    rw [hx] at h
    generalize he : a.eval x = u at h
    cases h with
    | tup xs us h1 h2 =>
      obtain ⟨u, hu, hr⟩ := LRel.get (G := G) (w := w) ⟨h1, h2⟩ hv
      exact ⟨u, by simp [execOp, ho, he, Instr.extract, hu], hr⟩) hk

/-! ### What reckons with plain values -/
theorem aop_bin {op : BinOp} {t yt : TypeId} {a b r : Value} (ho : o.op = .binOp op t x y yt) (hx : evV ts x = .lit a) (hy : evV ts y = .lit b) (hg : eqGuard op t x y a b = pure ()) (hb : Go.binOp op t a b = pure r)
    (hf : Value.flat r = true) (hk : K (.lit r) T) : AOp P o ts T K :=
  aop_same _ (fun G w ac hl => ⟨r, by simp [execOp, ho, hl.ev_lit hx, hl.ev_lit hy, hg, hb], .lit r hf⟩) hk
theorem aop_binr {op : BinOp} {t yt : TypeId} {r : Value} (ho : o.op = .binOp op t x y yt) (h : ∀ (G : Gh) (w : World) (a : Act), LRel G w ts a.tmps.toList → ∀ w, (do eqGuard op t x y (a.eval x) (a.eval y); Go.binOp op t (a.eval x) (a.eval y) : Sem Value).run P w = .ok r w)
    (hf : Value.flat r = true) (hk : K (.lit r) T) : AOp P o ts T K :=
  aop_same _ (fun G w ac hl => ⟨r, by
    have := h G w ac hl w
    simp only [Sem.run_bind] at this
    simp only [execOp, ho, Sem.run_bind, this, Result.andThen_ok, Sem.run_pure], .lit r hf⟩) hk
theorem aop_un {op : UnOp} {t : TypeId} {a r : Value} (ho : o.op = .unOp op t x) (hx : evV ts x = .lit a) (hb : Op.unary op a = pure r) (hf : Value.flat r = true) (hk : K (.lit r) T) : AOp P o ts T K :=
  aop_same _ (fun G w ac hl => ⟨r, by simp [execOp, ho, hl.ev_lit hx, hb], .lit r hf⟩) hk
theorem aop_conv {src dst : TypeId} {a r : Value} (ho : o.op = .convert src dst x) (hx : evV ts x = .lit a) (hb : ∀ w, (convert src dst a).run P w = .ok r w) (hf : Value.flat r = true) (hk : K (.lit r) T) : AOp P o ts T K :=
  aop_same _ (fun G w ac hl => ⟨r, by simp [execOp, ho, hl.ev_lit hx, hb], .lit r hf⟩) hk
def inB (P : Program) (src dst : TypeId) (k : IntKind) : Bool := (P.underlying src).isSome && (match P.underlying dst with | some (.int k') => k' == k | _ => false)
theorem aop_conv_int {src dst : TypeId} {k k' : IntKind} {n : Int} (ho : o.op = .convert src dst x) (hx : evV ts x = .lit (.int k' n)) (ht : inB P src dst k = true) (hk : K (.lit (.int k (k.wrap n))) T) : AOp P o ts T K :=
  aop_conv (r := .int k (k.wrap n)) ho hx (fun w => by
    unfold inB at ht
    simp only [Bool.and_eq_true] at ht
    obtain ⟨h1, h2⟩ := ht
    obtain ⟨d, hd⟩ := Option.isSome_iff_exists.1 h1
    split at h2
    · rename_i k2 hk2
      simp at h2
      subst h2
      simp [convert, run_underlying hd, run_underlying hk2, Conv.intToInt]
    · cases h2) rfl hk

/-! ### Memory -/
theorem VRel.ep_cells {G : Gh} {w : World} {cells : List V} {off : Nat} {u : Value} (h : VRel G w (.ep cells off) u) :
    ∃ (ad : Addr) (us : List Value), u = .pointer (some (ad.add off)) ∧ LRel G w cells us ∧ ∀ i v, us[i]? = some v → Stb G ad.block (ad.off + i) ∧ w.cell? (ad.add i) = some v := by
  cases h with
  | ep _ _ ad u h1 h2 =>
    refine ⟨ad, (List.range cells.length).map u, rfl, ⟨by simp, fun i x v hx hv => ?_⟩, fun i v hv => ?_⟩
    · have hi := (List.getElem?_eq_some_iff.1 hx).1
      rw [List.getElem?_map, List.getElem?_range hi] at hv
      simp at hv
      subst hv
      exact h2 i x hx
    · rw [List.getElem?_map] at hv
      by_cases hi : i < cells.length
      · rw [List.getElem?_range hi] at hv
        simp at hv
        subst hv
        exact h1 i hi
      · rw [List.getElem?_eq_none (by simpa using hi)] at hv
        simp at hv
theorem VRel.ep_mk {G : Gh} {w : World} {cells : List V} (off : Nat) (ad : Addr) (us : List Value) (hl : LRel G w cells us) (h : ∀ i v, us[i]? = some v → Stb G ad.block (ad.off + i) ∧ w.cell? (ad.add i) = some v) :
    VRel G w (.ep cells off) (.pointer (some (ad.add off))) := by
  refine .ep cells off ad (fun i => us.getD i Go.undef) (fun i hi => ?_) (fun i x hx => ?_)
  · have hi' : i < us.length := by rw [hl.1]; exact hi
    have := h i _ (List.getElem?_eq_getElem hi')
    simpa [List.getD_eq_getElem?_getD, List.getElem?_eq_getElem hi'] using this
  · obtain ⟨u, hu, hv⟩ := hl.get hx
    simpa [List.getD_eq_getElem?_getD, hu] using hv

theorem run_loadVar_sc {t : TypeId} (ht : scB P t = true) {ad : Addr} {u : Value} {w : World} (h : w.cell? ad = some u) : (loadVar t ad).run P w = .ok u w := by
  simp [loadVar, run_isAgg_sc ht, load, Sem.run, h]
theorem run_loadVar_ag {t : TypeId} {n : Nat} (ht : agB P t = true) (hz : szB P t n = true) {ad : Addr} {us : List Value} {w : World} (hn : us.length = n) (h : ∀ j v, us[j]? = some v → w.cell? (ad.add j) = some v) :
    (loadVar t ad).run P w = .ok (.agg us.toArray) w := by
  have := run_loadCells_list (P := P) w ad us h
  rw [hn] at this
  simp [loadVar, run_isAgg_ag ht, run_sizeOf hz, this]

theorem LRel.seg {G : Gh} {w : World} {xs : List V} {us : List Value} (h : LRel G w xs us) (off n : Nat) : LRel G w ((xs.drop off).take n) ((us.drop off).take n) := by
  refine ⟨by simp [h.1], fun i x u hx hu => ?_⟩
  rw [List.getElem?_take] at hx hu
  split at hx
  · rename_i hi
    rw [if_pos hi, List.getElem?_drop] at hu
    rw [List.getElem?_drop] at hx
    exact h.2 _ x u hx hu
  · cases hx

theorem aop_load_ep {t : TypeId} {cells : List V} {off : Nat} {v : V} (ho : o.op = .load t x) (hx : evV ts x = .ep cells off) (ht : scB P t = true) (hv : cells[off]? = some v) (hk : K v T) : AOp P o ts T K :=
  aop_same _ (fun G w a hl => by
    have h := hl.ev x
    rw [hx] at h
    obtain ⟨ad, us, he, h1, h2⟩ := h.ep_cells
    obtain ⟨u, hu, hr⟩ := h1.get hv
    exact ⟨u, by simp [execOp, ho, he, Instr.loadAt, Instr.sureAddr, run_loadVar_sc ht (h2 off u hu).2], hr⟩) hk
theorem aop_load_ep_ag {t : TypeId} {cells : List V} {off n : Nat} (ho : o.op = .load t x) (hx : evV ts x = .ep cells off) (ht : agB P t = true) (hz : szB P t n = true) (hn : off + n ≤ cells.length)
    (hk : K (.agg ((cells.drop off).take n)) T) : AOp P o ts T K :=
  aop_same _ (fun G w a hl => by
    have h := hl.ev x
    rw [hx] at h
    obtain ⟨ad, us, he, h1, h2⟩ := h.ep_cells
    have hs := h1.seg off n
    have hul := h1.1
    refine ⟨.agg ((us.drop off).take n).toArray, ?_, .agg _ _ hs.1 hs.2⟩
    have := run_loadVar_ag (P := P) ht hz (ad := ad.add off) (us := (us.drop off).take n) (w := w) (by simp; omega) (fun j v hv => by
      rw [List.getElem?_take] at hv
      split at hv
      · rw [List.getElem?_drop] at hv
        rw [add_add']
        exact (h2 _ v hv).2
      · cases hv)
    simp [execOp, ho, he, Instr.loadAt, Instr.sureAddr, this]) hk

/-- The object behind a pointer. -/
theorem ptr_obj {B : Nat → Prop} {w0 : World} {G : Gh} {w : World} {b off : Nat} {cs : List V} {u : Value} (hr : Rel B w0 G w T) (hT : T b = some (.cells cs)) (h : VRel G w (.ptr b off) u) :
    ∃ (g : Nat) (cur : Array Value) (e : TypeId), u = .pointer (some ⟨g, off, none⟩) ∧ G.at_ b = some g ∧ ¬ B g ∧ G.st g = none ∧ w.heap[g]? = some (Obj.cells cur e (0, 0)) ∧ LRel G w cs cur.toList := by
  cases h with
  | ptr _ _ g h1 h2 =>
    obtain ⟨g', cur, e, k1, k2, k3, k4, k5⟩ := hr.obj b _ hT
    rw [h2] at k1
    injection k1 with k1
    subst k1
    exact ⟨g, cur, e, rfl, h2, k2, k3, k4, k5⟩
theorem aop_load {t : TypeId} {b off : Nat} {cs : List V} {v : V} (ho : o.op = .load t x) (hx : evV ts x = .ptr b off) (hT : T b = some (.cells cs)) (ht : scB P t = true) (hv : cs[off]? = some v) (hk : K v T) : AOp P o ts T K :=
  aop_value fun B w0 G w a hr hl => by
    have h := hl.ev x
    rw [hx] at h
    obtain ⟨g, cur, e, he, _, _, _, h4, h5⟩ := ptr_obj hr hT h
    obtain ⟨u, hu, hvr⟩ := h5.get hv
    have hc : w.cell? ⟨g, off, none⟩ = some u := by rw [cell_of_row _ _ _ _ _ _ h4, ← Array.getElem?_toList]; exact hu
    exact ⟨u, w, G, v, T, by simp [execOp, ho, he, Instr.loadAt, Instr.sureAddr, run_loadVar_sc ht hc], Le.refl _ _, hvr, hr, hk⟩
theorem aop_load_ag {t : TypeId} {b off n : Nat} {cs : List V} (ho : o.op = .load t x) (hx : evV ts x = .ptr b off) (hT : T b = some (.cells cs)) (ht : agB P t = true) (hz : szB P t n = true) (hn : off + n ≤ cs.length)
    (hk : K (.agg ((cs.drop off).take n)) T) : AOp P o ts T K :=
  aop_value fun B w0 G w a hr hl => by
    have h := hl.ev x
    rw [hx] at h
    obtain ⟨g, cur, e, he, _, _, _, h4, h5⟩ := ptr_obj hr hT h
    have hs := h5.seg off n
    have hul := h5.1
    have := run_loadVar_ag (P := P) ht hz (ad := ⟨g, off, none⟩) (us := (cur.toList.drop off).take n) (w := w) (by rw [List.length_take, List.length_drop]; omega) (fun j v hv => by
      rw [List.getElem?_take] at hv
      split at hv
      · rw [List.getElem?_drop] at hv
        rw [add_plain', cell_of_row _ _ _ _ _ _ h4, ← Array.getElem?_toList]
        exact hv
      · cases hv)
    exact ⟨.agg ((cur.toList.drop off).take n).toArray, w, G, _, T, by simp [execOp, ho, he, Instr.loadAt, Instr.sureAddr, this], Le.refl _ _, .agg _ _ hs.1 hs.2, hr, hk⟩

def spl : List V → Nat → List V → List V
  | cs, 0, ys => ys ++ cs.drop ys.length
  | c :: cs, n + 1, ys => c :: spl cs n ys
  | [], _ + 1, _ => []
theorem spl_eq : ∀ (cs : List V) (off : Nat) (ys : List V), off + ys.length ≤ cs.length → spl cs off ys = cs.take off ++ ys ++ cs.drop (off + ys.length)
  | cs, 0, ys, _ => by simp [spl]
  | c :: cs, n + 1, ys, h => by
    have := spl_eq cs n ys (by simp at h; omega)
    simp only [spl, this]
    simp [Nat.add_right_comm n 1 ys.length]
  | [], n + 1, ys, h => by simp at h
theorem LRel.spl {G : Gh} {w : World} {xs ys : List V} {us vs : List Value} (h : LRel G w xs us) (k : LRel G w ys vs) (off : Nat) (hn : off + ys.length ≤ xs.length) :
    LRel G w (spl xs off ys) (us.take off ++ vs ++ us.drop (off + vs.length)) := by
  rw [spl_eq xs off ys hn]
  have h1 := h.seg 0 off
  have h2 := h.seg (off + ys.length) (xs.length)
  simp only [List.drop_zero] at h1
  have e1 : (xs.drop (off + ys.length)).take xs.length = xs.drop (off + ys.length) := List.take_of_length_le (by rw [List.length_drop]; omega)
  have e2 : (us.drop (off + ys.length)).take xs.length = us.drop (off + ys.length) := List.take_of_length_le (by rw [List.length_drop, h.1]; omega)
  rw [e1, e2] at h2
  rw [k.1]
  exact (h1.append k).append h2

/-- What a store of several cells makes of an object. -/
theorem store_obj {B : Nat → Prop} {w0 : World} {G : Gh} {w : World} {b off g : Nat} {cs ys : List V} {cur : Array Value} {e : TypeId} {vs : List Value} (hr : Rel B w0 G w T) (hT : T b = some (.cells cs)) (hat : G.at_ b = some g) (hB : ¬ B g)
    (hst : G.st g = none) (hh : w.heap[g]? = some (Obj.cells cur e (0, 0))) (hl : LRel G w cs cur.toList) (hy : LRel G w ys vs) (hn : off + ys.length ≤ cs.length) :
    Le G w G (w.setRow g (cur.toList.take off ++ vs ++ cur.toList.drop (off + vs.length)).toArray) ∧
      Rel B w0 G (w.setRow g (cur.toList.take off ++ vs ++ cur.toList.drop (off + vs.length)).toArray) (T.set b (.cells (spl cs off ys))) := by
  have hlen := hl.1
  simp only [Array.length_toList] at hlen
  have hvl := hy.1
  have hsz : (cur.toList.take off ++ vs ++ cur.toList.drop (off + vs.length)).toArray.size = cur.size := by
    simp only [List.size_toArray, List.length_append, List.length_take, List.length_drop, Array.length_toList]; omega
  have hg' := setRow_heap w g cur (cur.toList.take off ++ vs ++ cur.toList.drop (off + vs.length)).toArray e _ hh
  have hle : Le G w G (w.setRow g (cur.toList.take off ++ vs ++ cur.toList.drop (off + vs.length)).toArray) :=
    Le.block hst (by simp [World.setRow]) hg' (fun k hk => setRow_other w g k _ hk) (fun cs' e' fr hc => by
      rw [hh] at hc
      injection hc with hc
      injection hc with hc1 hc2 hc3
      subst hc1; subst hc2
      exact ⟨_, _, rfl, hsz⟩)
  refine ⟨hle, Rel.block hr hT hat hst hB (by simp [World.setRow]) rfl rfl rfl (fun k hk => setRow_other w g k _ hk) hle ⟨g, _, e, hat, hB, hst, hg', ?_⟩⟩
  simpa using (hl.spl hy off hn).mono hle
theorem oneCells {G : Gh} {w : World} {ys : List V} {vs : List Value} (h : LRel G w ys vs) (h1 : ∀ v ∈ ys, v.one = true) : ∀ u ∈ vs, u.oneCell' = true := by
  intro u hu
  obtain ⟨j, hj⟩ := List.getElem?_of_mem hu
  have hjl := (List.getElem?_eq_some_iff.1 hj).1
  have hx : ys[j]? = some (ys[j]'(by rw [h.1] at hjl; exact hjl)) := List.getElem?_eq_getElem _
  exact (h.2 j _ u hx hj).one (h1 _ (List.getElem_mem _))
theorem run_storeVar_tree {B : Nat → Prop} {w0 : World} {G : Gh} {w : World} {b off n : Nat} {cs : List V} {v : V} {pu u : Value} {t : TypeId} (hr : Rel B w0 G w T) (hT : T b = some (.cells cs)) (hp : VRel G w (.ptr b off) pu)
    (hv : VRel G w v u) (hvo : v.one = true ∨ ∃ cs, v = .agg cs) (hv1 : ∀ x ∈ v.cells, x.one = true) (hz : szB P t n = true) (hvn : v.cells.length = n) (hn : off + n ≤ cs.length) :
    ∃ w', (Instr.storeAt t pu u).run P w = .ok () w' ∧ Le G w G w' ∧ Rel B w0 G w' (T.set b (.cells (spl cs off v.cells))) := by
  obtain ⟨g, cur, e, rfl, h1, h2, h3, h4, h5⟩ := ptr_obj hr hT hp
  have hc := hv.cells hvo
  have hlen := h5.1
  simp only [Array.length_toList] at hlen
  have hvl := hc.1
  have hsz : u.cells.size = n := by have := hc.1; simp at this; omega
  obtain ⟨k1, k2⟩ := store_obj (off := off) hr hT h1 h2 h3 h4 h5 hc (by omega)
  have hst := run_storeCells_at P g off e u.cells.toList 0 cur w h4 (by simp; omega) (oneCells hc hv1)
  simp only [Nat.add_zero] at hst
  refine ⟨_, ?_, k1, k2⟩
  simp [Instr.storeAt, Instr.sureAddr, storeVar, run_sizeOf hz, hsz, hst]
theorem aop_store {t : TypeId} {b off n : Nat} {cs : List V} (ho : o.op = .store t x y) (hx : evV ts x = .ptr b off) (hT : T b = some (.cells cs)) (hvo : (evV ts y).one = true ∨ ∃ cs, evV ts y = .agg cs)
    (hv1 : ∀ v ∈ (evV ts y).cells, v.one = true) (hz : szB P t n = true) (hvn : (evV ts y).cells.length = n) (hn : off + n ≤ cs.length) (hk : K (.tup []) (T.set b (.cells (spl cs off (evV ts y).cells)))) : AOp P o ts T K :=
  aop_skip fun B w0 G w a hr hl => by
    have h := hl.ev x
    rw [hx] at h
    obtain ⟨w', h1, h2, h3⟩ := run_storeVar_tree hr hT h (hl.ev y) hvo hv1 hz hvn hn
    exact ⟨w', G, _, by simp [execOp, ho, h1], h2, h3, hk⟩

theorem constCells {G : Gh} {w : World} (z : Value) : LRel G w (constV z).cells z.cells.toList := by
  unfold constV
  split
  · rename_i cs
    obtain ⟨cs⟩ := cs
    refine ⟨by simp [V.cells, Value.cells], fun i x u hx hu => ?_⟩
    simp only [V.cells, List.getElem?_map] at hx
    simp only [Value.cells] at hu
    rw [show cs[i]? = some u from hu] at hx
    simp at hx
    subst hx
    exact .const1 u
  · rename_i hne
    have e1 : (constV1 z).cells = [constV1 z] := by unfold constV1; split <;> (try split) <;> rfl
    have e2 : z.cells = #[z] := by cases z <;> simp_all [Value.cells]
    rw [e1, e2]
    exact LRel.cons (.const1 z) LRel.nil
def zeB (P : Program) (t : TypeId) (z : Value) : Prop := ∃ i, P.info? t = some i ∧ i.zero = some z
theorem aop_alloc {e : TypeId} {z : Value} (ho : o.op = .alloc e) (hz : zeB P e z) (hk : ∀ b, b = T.lim → T b = none → K (.ptr b 0) (T.set b (.cells (constV z).cells))) : AOp P o ts T K :=
  aop_value fun B w0 G w a hr hl => by
    obtain ⟨hle1, hr1⟩ := hr.upTo
    obtain ⟨i, h1, h2⟩ := hz
    obtain ⟨k1, k2⟩ := new_obj hr1 (constV z).cells z.cells.toList (constCells z) e
    refine ⟨.pointer (some ⟨w.heap.size, 0, none⟩), _, _, .ptr T.lim 0, _, ?_, hle1.trans k1, .ptr _ _ _ (by simp [Gh.obj, Gh.upTo]) (by simp [Gh.obj, Gh.upTo]), k2, hk _ rfl (T_fresh hr1)⟩
    simp [execOp, ho, Instr.alloc, zeroValue, typeInfo, h1, h2, newVar, newRow]
theorem aop_box {e : TypeId} (ho : o.op = .box e x) (hvo : (evV ts x).one = true ∨ ∃ cs, evV ts x = .agg cs) (hk : ∀ b, b = T.lim → T b = none → K (.ptr b 0) (T.set b (.cells (evV ts x).cells))) : AOp P o ts T K :=
  aop_value fun B w0 G w a hr hl => by
    obtain ⟨hle1, hr1⟩ := hr.upTo
    obtain ⟨k1, k2⟩ := new_obj hr1 (evV ts x).cells (a.eval x).cells.toList (((hl.ev x).mono hle1).cells hvo) e
    refine ⟨.pointer (some ⟨w.heap.size, 0, none⟩), _, _, .ptr T.lim 0, _, ?_, hle1.trans k1, .ptr _ _ _ (by simp [Gh.obj, Gh.upTo]) (by simp [Gh.obj, Gh.upTo]), k2, hk _ rfl (T_fresh hr1)⟩
    simp [execOp, ho, Instr.box, newVar, newRow]

theorem run_fieldAt {s : TypeId} {f off : Nat} (h : fdB P s f off = true) (ad : Addr) (w : World) : (Instr.fieldAt s (.pointer (some ad)) f).run P w = .ok (.pointer (some (ad.add off))) w := by
  unfold fdB at h
  split at h
  · rename_i fs hs
    split at h
    · rename_i fl hf
      simp only [Bool.and_eq_true] at h
      obtain ⟨h1, h2⟩ := h
      split at h2
      · rename_i i hi
        have h1' : fl.offset = off := by simpa using h1
        have h2' : i.size ≠ 0 := by simpa using h2
        simp [Instr.fieldAt, run_underlying hs, hf, Instr.sureAddr, fieldPlace, sizeOf, typeInfo, hi, h2', h1']
      · cases h2
    · cases h
  · cases h
theorem aop_field_ep {s : TypeId} {f fo off : Nat} {cells : List V} (ho : o.op = .fieldAddr s x f) (hx : evV ts x = .ep cells off) (hf : fdB P s f fo = true) (hk : K (.ep cells (off + fo)) T) : AOp P o ts T K :=
  aop_same _ (fun G w a hl => by
    have h := hl.ev x
    rw [hx] at h
    obtain ⟨ad, us, he, h1, h2⟩ := h.ep_cells
    refine ⟨.pointer (some (ad.add (off + fo))), ?_, VRel.ep_mk _ ad us h1 h2⟩
    simp [execOp, ho, he, run_fieldAt hf, add_add']) hk
theorem aop_field_ptr {s : TypeId} {f fo b off : Nat} (ho : o.op = .fieldAddr s x f) (hx : evV ts x = .ptr b off) (hf : fdB P s f fo = true) (hk : K (.ptr b (off + fo)) T) : AOp P o ts T K :=
  aop_same _ (fun G w a hl => by
    have h := hl.ev x
    rw [hx] at h
    generalize he : a.eval x = u at h
    cases h with
    | ptr _ _ g h1 h2 => exact ⟨.pointer (some ⟨g, off + fo, none⟩), by simp [execOp, ho, he, run_fieldAt hf, add_plain'], .ptr _ _ _ h1 h2⟩) hk
theorem aop_nilCheck (ho : o.op = .nilCheck x) (hx : (∃ b off, evV ts x = .ptr b off) ∨ (∃ cells off, evV ts x = .ep cells off) ∨ (∃ f xs ys, evV ts x = .fn (.func f) xs ys)) (hk : K (evV ts x) T) : AOp P o ts T K :=
  aop_same _ (fun G w a hl => by
    have h := hl.ev x
    refine ⟨a.eval x, ?_, h⟩
    rcases hx with ⟨b, off, hx⟩ | ⟨cells, off, hx⟩ | ⟨f, xs, ys, hx⟩
    · rw [hx] at h
      generalize he : a.eval x = u at h
      cases h
      simp [execOp, ho, he]
    · rw [hx] at h
      generalize he : a.eval x = u at h
      cases h
      simp [execOp, ho, he]
    · rw [hx] at h
      generalize he : a.eval x = u at h
      cases h
      simp [execOp, ho, he]) hk
end
end Go.Ae
