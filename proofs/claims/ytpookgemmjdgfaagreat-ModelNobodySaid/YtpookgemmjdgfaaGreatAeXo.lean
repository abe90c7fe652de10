/- A part of the proof: a machine on trees that is sound for the model, its tables, and contracts of functions. Conditions: none. -/
import Derived.Test.YtpookgemmjdgfaaGreatAeU
import Derived.WideMake
import Derived.Maps.RangeRun
import Derived.Laws.BytesString
namespace Go.Ae
open Go.RowKit

/-! ### More operations: maps, makes, closures, interfaces -/
def veq : V → V → Option Bool
  | .lit (.int k a), .lit (.int k' b) => if k = k' then some (a == b) else none
  | .lit (.string a), .lit (.string b) => some (a.data.toList == b.data.toList)
  | _, _ => none
def vfind (k : V) : List (V × V) → Nat → Option (Option (Nat × V))
  | [], _ => some none
  | (k', v) :: r, i =>
    match veq k k' with
    | some true => some (some (i, v))
    | some false => vfind k r (i + 1)
    | none => none
def vkey (isStr : Bool) : V → Bool
  | .lit (.int _ _) => !isStr
  | .lit (.string _) => isStr
  | _ => false

theorem ba_beq (a b : ByteArray) : (a == b) = (a.data.toList == b.data.toList) := by
  have h : (a == b) = (a.data == b.data) := by
    cases a; cases b
    rfl
  rw [h]
  apply Bool.eq_iff_iff.2
  simp
section
variable {P : Program} {G : Gh} {w : World}
theorem sameNow_of {isStr : Bool} {d : TypeDesc} {a b : V} {u v : Value} {r : Bool} (hd : (match d with | .int _ => !isStr | .string => isStr | _ => false) = true) (hk : vkey isStr a = true) (ha : VRel G w a u) (hb : VRel G w b v) (h : veq a b = some r) : Instr.sameNow d u v = some r := by
  unfold veq at h
  split at h
  · rename_i k x k' y
    cases ha
    cases hb
    split at h
    · rename_i e
      subst e
      injection h with h
      subst h
      cases isStr
      · cases d <;> simp at hd
        simp [Instr.sameNow]
      · simp [vkey] at hk
    · cases h
  · cases ha
    cases hb
    injection h with h
    subst h
    cases isStr
    · simp [vkey] at hk
    · cases d <;> simp at hd
      simp [Instr.sameNow, ba_beq]
  · cases h
theorem findNow_of {isStr : Bool} {d : TypeDesc} {k : V} {u : Value} (hd : (match d with | .int _ => !isStr | .string => isStr | _ => false) = true) (hk : vkey isStr k = true) (hu : VRel G w k u) :
    ∀ (es : List (V × V)) (us : List MapEntry) (i : Nat) (r : Option (Nat × V)), LRel G w (es.map (·.1)) (us.map (·.key)) → LRel G w (es.map (·.2)) (us.map (·.val)) → vfind k es i = some r →
      ∃ r', Instr.findNow d u us i = some r' ∧ match r with | none => r' = none | some (j, v) => ∃ x e, r' = some (j, x.val) ∧ es[j - i]? = some e ∧ e.2 = v ∧ us[j - i]? = some x ∧ i ≤ j ∧ veq k e.1 = some true := by
  intro es
  induction es with
  | nil =>
    intro us i r h1 h2 h
    have : us = [] := List.eq_nil_of_length_eq_zero (by have := h1.1; simpa using this)
    subst this
    simp only [vfind, Option.some.injEq] at h
    subst h
    exact ⟨none, rfl, rfl⟩
  | cons e es ih =>
    intro us i r h1 h2 h
    cases us with
    | nil => have := h1.1; simp at this
    | cons x us =>
      obtain ⟨k', v'⟩ := e
      have hk1 : VRel G w k' x.key := h1.2 0 _ _ rfl rfl
      have t1 : LRel G w (es.map (·.1)) (us.map (·.key)) := ⟨by have := h1.1; simpa using this, fun j a b ha hb => h1.2 (j + 1) a b (by simpa using ha) (by simpa using hb)⟩
      have t2 : LRel G w (es.map (·.2)) (us.map (·.val)) := ⟨by have := h2.1; simpa using this, fun j a b ha hb => h2.2 (j + 1) a b (by simpa using ha) (by simpa using hb)⟩
      simp only [vfind] at h
      split at h
      · rename_i hq
        injection h with h
        subst h
        refine ⟨some (i, x.val), by simp only [Instr.findNow, sameNow_of hd hk hu hk1 hq], x, (k', v'), rfl, by simp, rfl, by simp, Nat.le_refl _, hq⟩
      · rename_i hq
        obtain ⟨r', h3, h4⟩ := ih us (i + 1) r t1 t2 h
        refine ⟨r', by simp only [Instr.findNow, sameNow_of hd hk hu hk1 hq, h3], ?_⟩
        cases r with
        | none => exact h4
        | some q =>
          obtain ⟨j, v⟩ := q
          obtain ⟨y, e, g1, g2, g3, g4, g5, g6⟩ := h4
          have ej : j - i = (j - (i + 1)) + 1 := by omega
          exact ⟨y, e, g1, by rw [ej]; simpa using g2, g3, by rw [ej]; simpa using g4, by omega, g6⟩
      · cases h
theorem keyOk_desc {t : TypeId} {isStr : Bool} (h : keyOk P t isStr = true) : ∃ d, P.underlying t = some d ∧ (match d with | .int _ => !isStr | .string => isStr | _ => false) = true := by
  unfold keyOk at h
  split at h
  · rename_i k e; exact ⟨_, e, h⟩
  · rename_i e; exact ⟨_, e, h⟩
  · cases h
theorem run_checkKey {t : TypeId} {isStr : Bool} (h : keyOk P t isStr = true) (e : Bool) (u : Value) (w : World) : (Instr.checkKey e 10000 t u).run P w = .ok () w := by
  obtain ⟨d, h1, h2⟩ := keyOk_desc h
  show (Instr.checkKey e (9999 + 1) t u).run P w = .ok () w
  generalize 9999 = m
  cases d <;> simp at h2 <;> simp [Instr.checkKey, run_underlying h1]
theorem run_findKey {t : TypeId} {d : TypeDesc} {u : Value} {us : List MapEntry} {r : Option (Nat × Value)} (h1 : P.underlying t = some d) (h : Instr.findNow d u us 0 = some r) (w : World) : (Instr.findKey t u us).run P w = .ok r w := by
  simp [Instr.findKey, run_underlying h1, h]
theorem vkey_eq {isStr : Bool} {a b : V} {u v : Value} (hk : vkey isStr a = true) (ha : VRel G w a u) (hb : VRel G w b v) (h : veq a b = some true) : v = u := by
  unfold veq at h
  split at h
  · cases ha; cases hb
    split at h
    · rename_i e; subst e; injection h with h; simp at h; subst h; rfl
    · cases h
  · cases ha; cases hb
    injection h with h
    rw [← ba_beq] at h
    rw [ba_beq] at h
    simp only [beq_iff_eq] at h
    rename_i a b _ _
    obtain ⟨⟨a⟩⟩ := a
    obtain ⟨⟨b⟩⟩ := b
    simp only at h
    subst h
    rfl
  · cases h
theorem run_keyStays {isStr : Bool} {a : V} {u : Value} (hk : vkey isStr a = true) (ha : VRel G w a u) (w' : World) : (Instr.keyThatStays u u).run P w' = .ok u w' := by
  unfold vkey at hk
  split at hk
  · cases ha; simp [Instr.keyThatStays, Instr.sameBits]
  · cases ha; simp [Instr.keyThatStays, Instr.sameBits, ba_beq]
  · cases hk
end

section
variable {P : Program} {o : Oper} {ts : List V} {T : Tb} {K : V → Tb → Prop} {x y z : Operand}
theorem map_obj {B : Nat → Prop} {w0 : World} {G : Gh} {w : World} {b : Nat} {es : List (V × V)} {u : Value} (hr : Rel B w0 G w T) (hT : T b = some (.map es)) (h : VRel G w (.mp b) u) :
    ∃ (g : Nat) (us : Array MapEntry) (clock : Nat), u = .map (some g) ∧ G.at_ b = some g ∧ ¬ B g ∧ G.st g = none ∧ w.heap[g]? = some (Obj.map us clock) ∧
      (LRel G w (es.map (·.1)) (us.toList.map (·.key)) ∧ clock = us.size ∧ ∀ (i : Nat) (x : MapEntry), us.toList[i]? = some x → x.born = i) ∧ LRel G w (es.map (·.2)) (us.toList.map (·.val)) := by
  cases h with
  | mp _ g h1 h2 =>
    obtain ⟨g', us, clock, h3, h4⟩ := hr.obj b _ hT
    rw [h2] at h3
    injection h3 with h3
    subst h3
    exact ⟨g, us, clock, rfl, h2, h4⟩
theorem aop_makeMap {t : TypeId} (ho : o.op = .makeMap t none) (hk : ∀ b, b = T.lim → T b = none → K (.mp b) (T.set b (.map []))) : AOp P o ts T K :=
  aop_value fun B w0 G w a hr hl => by
    obtain ⟨hle1, hr1⟩ := hr.upTo
    obtain ⟨k1, k2⟩ := new_map hr1
    refine ⟨.map (some w.heap.size), _, _, .mp T.lim, _, ?_, hle1.trans k1, .mp _ _ (by simp [Gh.obj, Gh.upTo]) (by simp [Gh.obj, Gh.upTo]), k2, hk _ rfl (T_fresh hr1)⟩
    simp [execOp, ho, run_makeMap_plain]
theorem run_newObj (P : Program) (w : World) (o : Obj) : (newObj o).run P w = .ok w.heap.size (w.alloc o) := rfl
theorem aop_makeMapR {t kt et : TypeId} {isStr : Bool} {k : IntKind} {n : Int} (ho : o.op = .makeMap t (some x)) (hm : mapB P t kt et isStr = true) (hx : evV ts x = .lit (.int k n)) (hk : ∀ b, b = T.lim → T b = none → K (.mp b) (T.set b (.map []))) : AOp P o ts T K :=
  aop_value fun B w0 G w a hr hl => by
    unfold mapB at hm
    simp only [Bool.and_eq_true] at hm
    obtain ⟨hm1, hm2⟩ := hm
    split at hm1
    · rename_i k' e hu
      obtain ⟨hle1, hr1⟩ := hr.upTo
      obtain ⟨k1, k2⟩ := new_map hr1
      refine ⟨.map (some w.heap.size), _, _, .mp T.lim, _, ?_, hle1.trans k1, .mp _ _ (by simp [Gh.obj, Gh.upTo]) (by simp [Gh.obj, Gh.upTo]), k2, hk _ rfl (T_fresh hr1)⟩
      simp [execOp, ho, hl.ev_lit hx, Instr.makeMap, run_underlying hu, asInt, asIntOf]
    · cases hm1
def lookRes (c : Bool) (v : V) (ok : Bool) : V := if c then .tup [v, .lit (.bool ok)] else v
def lookV (c : Bool) (z : V) : Option (Nat × V) → V
  | some (_, v) => lookRes c v true
  | none => lookRes c z false
theorem lookRes_rel {G : Gh} {w : World} (c : Bool) {v : V} {u : Value} (ok : Bool) (h : VRel G w v u) : VRel G w (lookRes c v ok) (if c then .tuple #[u, .bool ok] else u) := by
  unfold lookRes
  cases c
  · exact h
  · exact .tup [v, .lit (.bool ok)] [u, .bool ok] rfl (LRel.cons h (LRel.cons (.lit _ rfl) LRel.nil)).2
theorem aop_lookup {t kt et : TypeId} {isStr c : Bool} {zv : Value} {es : List (V × V)} {b : Nat} {r : Option (Nat × V)} (ho : o.op = .lookup t x y c) (hm : mapB P t kt et isStr = true) (hz : zeB P et zv) (hx : evV ts x = .mp b) (hT : T b = some (.map es)) (hkey : vkey isStr (evV ts y) = true)
    (hf : vfind (evV ts y) es 0 = some r) (hk : K (lookV c (constV zv) r) T) : AOp P o ts T K :=
  aop_value fun B w0 G w a hr hl => by
    unfold mapB at hm
    simp only [Bool.and_eq_true] at hm
    obtain ⟨hm1, hm2⟩ := hm
    split at hm1
    · rename_i k e hu
      simp at hm1
      obtain ⟨rfl, rfl⟩ := hm1
      have h := hl.ev x
      rw [hx] at h
      obtain ⟨g, us, clock, hau, h1, h2, h3, h4, ⟨h5, h5b⟩, h6⟩ := map_obj hr hT h
      obtain ⟨d, d1, d2⟩ := keyOk_desc hm2
      obtain ⟨r', f1, f2⟩ := findNow_of d2 hkey (hl.ev y) es us.toList 0 r h5 h6 hf
      obtain ⟨zi, z1, z2⟩ := hz
      cases r with
      | none =>
        simp only at f2
        subst f2
        refine ⟨if c then .tuple #[zv, .bool false] else zv, w, G, _, T, ?_, Le.refl _ _, lookRes_rel c false (.const zv), hr, hk⟩
        simp [execOp, ho, hau, Instr.lookup, run_underlying hu, MapKept.run_getObj_map h4, run_checkKey hm2, run_findKey d1 f1, zeroValue, typeInfo, z1, z2]
      | some q =>
        obtain ⟨j, v⟩ := q
        obtain ⟨e, ev, g1, g2, g3, g4, g5, _⟩ := f2
        subst g1
        have hv : VRel G w v e.val := by
          subst g3
          exact h6.2 (j - 0) _ _ (by rw [List.getElem?_map, g2]; rfl) (by rw [List.getElem?_map, g4]; rfl)
        refine ⟨if c then .tuple #[e.val, .bool true] else e.val, w, G, _, T, ?_, Le.refl _ _, lookRes_rel c true hv, hr, hk⟩
        simp [execOp, ho, hau, Instr.lookup, run_underlying hu, MapKept.run_getObj_map h4, run_checkKey hm2, run_findKey d1 f1]
    · cases hm1
/-- The entries with one more, or one turned. -/
def vput (k v : V) (es : List (V × V)) : Option (Nat × V) → List (V × V)
  | some (j, _) => es.set j ((es.getD j (k, v)).1, v)
  | none => es ++ [(k, v)]
theorem run_setObj_map {w : World} {r : Nat} {us : Array MapEntry} {c : Nat} (hr : w.heap[r]? = some (.map us c)) (o' : Obj) : (setObj r o').run P w = .ok () (ChangeMaps.setBlock w r o') := by
  simp [setObj, Sem.run, hr, ChangeMaps.setBlock]
theorem setBlock_facts (w : World) (g : Nat) (o : Obj) (h : g < w.heap.size) : (ChangeMaps.setBlock w g o).heap.size = w.heap.size ∧ (ChangeMaps.setBlock w g o).heap[g]? = some o ∧ ∀ k, k ≠ g → (ChangeMaps.setBlock w g o).heap[k]? = w.heap[k]? := by
  refine ⟨by simp [ChangeMaps.setBlock], by simp [ChangeMaps.setBlock, h], fun k hk => ?_⟩
  simp only [ChangeMaps.setBlock, Array.getElem?_setIfInBounds]
  rw [if_neg (fun e => hk e.symm)]
/-- An object that is no row of cells turns. -/
theorem turn_obj {B : Nat → Prop} {w0 : World} {G : Gh} {w : World} {b g : Nat} {o o' : Obj} {ob ob' : AObj} (hr : Rel B w0 G w T) (hT : T b = some ob) (hat : G.at_ b = some g) (hB : ¬ B g) (hst : G.st g = none) (hh : w.heap[g]? = some o) (hno : ∀ cs e fr, o ≠ Obj.cells cs e fr)
    (hob : Le G w G (ChangeMaps.setBlock w g o') → (ChangeMaps.setBlock w g o').heap[g]? = some o' → ObjRel B G (ChangeMaps.setBlock w g o') b ob') :
    Le G w G (ChangeMaps.setBlock w g o') ∧ Rel B w0 G (ChangeMaps.setBlock w g o') (T.set b ob') := by
  obtain ⟨h1, h2, h3⟩ := setBlock_facts w g o' (Array.getElem?_eq_some_iff.1 hh).1
  have hle : Le G w G (ChangeMaps.setBlock w g o') := Le.block hst h1 h2 h3 (fun cs e fr hc => by rw [hh] at hc; injection hc with hc; exact (hno _ _ _ hc).elim)
  exact ⟨hle, Rel.block hr hT hat hst hB h1 rfl rfl rfl h3 hle (hob hle h2)⟩
theorem aop_mapUpdate {t kt et : TypeId} {isStr : Bool} {es : List (V × V)} {b : Nat} {r : Option (Nat × V)} (ho : o.op = .mapUpdate t x y z ∨ o.op = .insert t x y z) (hm : mapB P t kt et isStr = true) (hx : evV ts x = .mp b) (hT : T b = some (.map es)) (hkey : vkey isStr (evV ts y) = true)
    (hf : vfind (evV ts y) es 0 = some r) (hk : K (.tup []) (T.set b (.map (vput (evV ts y) (evV ts z) es r)))) : AOp P o ts T K :=
  aop_skip fun B w0 G w a hr hl => by
    unfold mapB at hm
    simp only [Bool.and_eq_true] at hm
    obtain ⟨hm1, hm2⟩ := hm
    split at hm1
    · rename_i k e hu
      simp at hm1
      obtain ⟨rfl, rfl⟩ := hm1
      have h := hl.ev x
      rw [hx] at h
      obtain ⟨g, us, clock, hau, h1, h2, h3, h4, ⟨h5, h5b, h5c⟩, h6⟩ := map_obj hr hT h
      obtain ⟨d, d1, d2⟩ := keyOk_desc hm2
      have hky := hl.ev y
      obtain ⟨r', f1, f2⟩ := findNow_of d2 hkey hky es us.toList 0 r h5 h6 hf
      have hlen : us.toList.length = es.length := by have := h5.1; simpa using this
      cases r with
      | none =>
        simp only at f2
        subst f2
        obtain ⟨k1, k2⟩ := turn_obj (o' := .map (us.push ⟨a.eval y, a.eval z, clock⟩) (clock + 1)) (ob' := .map (vput (evV ts y) (evV ts z) es none)) hr hT h1 h2 h3 h4 (by simp) (fun hle hg => by
          refine ⟨g, _, _, h1, h2, h3, hg, ⟨?_, by simp [h5b], fun i x hi => ?_⟩, ?_⟩
          · simp only [vput, List.map_append, List.map_cons, List.map_nil, Array.toList_push]
            exact (h5.mono hle).append (LRel.cons (hky.mono hle) LRel.nil)
          · simp only [Array.toList_push] at hi
            rw [List.getElem?_append] at hi
            split at hi
            · exact h5c i x hi
            · rename_i hi2
              have : i - us.toList.length = 0 := by
                have h := (List.getElem?_eq_some_iff.1 hi).1
                simp at h
                simp; omega
              rw [this] at hi
              simp at hi
              subst hi
              simp at this hi2 ⊢
              omega
          · simp only [vput, List.map_append, List.map_cons, List.map_nil, Array.toList_push]
            exact (h6.mono hle).append (LRel.cons ((hl.ev z).mono hle) LRel.nil))
        refine ⟨_, G, _, ?_, k1, k2, hk⟩
        rcases ho with ho | ho <;> simp [execOp, ho, hau, Instr.mapUpdate, run_underlying hu, MapKept.run_getObj_map h4, run_checkKey hm2, run_findKey d1 f1, run_setObj_map h4]
      | some q =>
        obtain ⟨j, v⟩ := q
        obtain ⟨e, ev, g1, g2, g3, g4, g5, g6⟩ := f2
        subst g1
        simp only [Nat.sub_zero] at g2 g4
        have hek : e.key = a.eval y := vkey_eq hkey hky (h5.2 j _ _ (by rw [List.getElem?_map, g2]; rfl) (by rw [List.getElem?_map, g4]; rfl)) g6
        have hg4 : us[j]? = some e := by rw [← Array.getElem?_toList]; exact g4
        have hjl : j < us.size := (Array.getElem?_eq_some_iff.1 hg4).1
        obtain ⟨k1, k2⟩ := turn_obj (o' := .map (us.modify j fun e => { e with key := a.eval y, val := a.eval z }) clock) (ob' := .map (vput (evV ts y) (evV ts z) es (some (j, v)))) hr hT h1 h2 h3 h4 (by simp) (fun hle hg => by
          have hmod : (us.modify j fun e => { e with key := a.eval y, val := a.eval z }).toList = us.toList.set j ⟨a.eval y, a.eval z, e.born⟩ := by
            apply List.ext_getElem?
            intro i
            rw [Array.getElem?_toList, Array.getElem?_modify, List.getElem?_set]
            by_cases hij : j = i
            · subst hij
              have he : us[j] = e := (Array.getElem?_eq_some_iff.1 hg4).2
              simp [hjl, he]
            · simp [hij]
          refine ⟨g, _, _, h1, h2, h3, hg, ⟨?_, by simp [h5b], fun i x hi => ?_⟩, ?_⟩
          · rw [hmod]
            simp only [vput, List.map_set]
            have e1 : (es.getD j (evV ts y, evV ts z)).1 = ev.1 := by rw [List.getD_eq_getElem?_getD, g2]; rfl
            rw [e1]
            refine (h5.mono hle).set j ?_
            have := h5.2 j _ _ (by rw [List.getElem?_map, g2]; rfl) (by rw [List.getElem?_map, g4]; rfl)
            have h2 : VRel G w ev.1 e.key := this
            rw [hek] at h2
            exact h2.mono hle
          · rw [hmod, List.getElem?_set] at hi
            split at hi
            · rename_i hij
              subst hij
              split at hi
              · simp at hi; subst hi; exact h5c j e g4
              · cases hi
            · exact h5c i x hi
          · rw [hmod]
            simp only [vput, List.map_set]
            exact (h6.mono hle).set j ((hl.ev z).mono hle))
        refine ⟨_, G, _, ?_, k1, k2, hk⟩
        have hst := run_keyStays (P := P) hkey hky w
        rcases ho with ho | ho <;> simp [execOp, ho, hau, Instr.mapUpdate, run_underlying hu, MapKept.run_getObj_map h4, run_checkKey hm2, run_findKey d1 f1, hg4, hek, hst, run_setObj_map h4]
    · cases hm1
theorem new_iter {B : Nat → Prop} {w0 : World} {G : Gh} {w : World} (hr : Rel B w0 G w T) {m gm since last : Nat} {seen : List Nat} (hm : m < G.N) (hgm : G.at_ m = some gm) :
    Le G w (G.obj w.heap.size) (w.alloc (.mapIter (some gm) since seen.toArray last)) ∧ Rel B w0 (G.obj w.heap.size) (w.alloc (.mapIter (some gm) since seen.toArray last)) (T.set G.N (.iter m since seen last)) := by
  have hle : Le G w (G.obj w.heap.size) (w.alloc (.mapIter (some gm) since seen.toArray last)) :=
    Le.alloc_gen hr _ (by simp [Gh.obj]) (fun b hb => by simp [Gh.obj]; omega) (fun g _ => rfl) (fun m id hid h => by simp [Gh.obj, st_none hr] at h)
  refine ⟨hle, (Rel.set_new (Rel.alloc_gen hr _ hle (fun g _ => rfl) (fun b g h => ?_) (fun m id h => ?_)) (by simp [Gh.obj]) ?_ ?_).weaken (fun _ _ h => h) (show max (max T.lim (G.N + 1)) (G.N + 1) ≤ max T.lim (G.N + 1) by omega)⟩
  · simp only [Gh.obj] at h
    split at h
    · rename_i eb; subst eb; injection h with h; exact .inr ⟨Nat.le_refl _, by simp [Gh.obj], h.symm⟩
    · exact .inl ⟨(hr.at_lt b g h).1, h⟩
  · simp [Gh.obj, st_none hr] at h
  · exact ⟨w.heap.size, gm, by simp [Gh.obj], fun hk => Nat.lt_irrefl _ (hr.hB _ hk), (st_none hr : G.st w.heap.size = none), heap_alloc_new w _, by simp [Gh.obj]; omega, (hle.at_ m hm).trans hgm⟩
  · intro c oc g hc h1 h2
    have hlt := hr.objlt c oc hc
    simp only [Gh.obj] at h1 h2
    simp at h1
    rw [if_neg (by omega)] at h2
    have := (hr.at_lt c g h2).2
    omega
theorem aop_range {t kt et : TypeId} {isStr : Bool} {es : List (V × V)} {b : Nat} (ho : o.op = .range t x) (hm : mapB P t kt et isStr = true) (hx : evV ts x = .mp b) (hT : T b = some (.map es))
    (hk : ∀ c, c = T.lim → T c = none → K (.ptr c 0) (T.set c (.iter b es.length [] es.length))) : AOp P o ts T K :=
  aop_value fun B w0 G w a hr hl => by
    unfold mapB at hm
    simp only [Bool.and_eq_true] at hm
    obtain ⟨hm1, hm2⟩ := hm
    split at hm1
    · rename_i k e hu
      obtain ⟨hle1, hr1⟩ := hr.upTo
      have h := (hl.mono hle1).ev x
      rw [hx] at h
      have hN := h
      obtain ⟨g, us, clock, hau, h1, h2, h3, h4, ⟨h5, h5b, h5c⟩, h6⟩ := map_obj hr1 hT h
      have hlen : us.size = es.length := by have := h5.1; simpa using this
      obtain ⟨k1, k2⟩ := new_iter hr1 (since := clock) (last := clock) (seen := []) (hr1.at_lt _ _ h1).1 h1
      have hc : clock = es.length := by omega
      refine ⟨.pointer (some ⟨w.heap.size, 0, none⟩), _, _, .ptr T.lim 0, _, ?_, hle1.trans k1, .ptr _ _ _ (by simp [Gh.obj, Gh.upTo]) (by simp [Gh.obj, Gh.upTo]), k2, ?_⟩
      · simp [execOp, ho, hau, run_range_map w t k e g us clock hu h4]
      · rw [hc]; exact hk _ rfl (T_fresh hr1)
    · cases hm1
theorem iter_obj {B : Nat → Prop} {w0 : World} {G : Gh} {w : World} {c m since last : Nat} {seen : List Nat} {u : Value} (hr : Rel B w0 G w T) (hT : T c = some (.iter m since seen last)) (h : VRel G w (.ptr c 0) u) :
    ∃ (g gm : Nat), u = .pointer (some ⟨g, 0, none⟩) ∧ G.at_ c = some g ∧ ¬ B g ∧ G.st g = none ∧ w.heap[g]? = some (Obj.mapIter (some gm) since seen.toArray last) ∧ m < G.N ∧ G.at_ m = some gm := by
  cases h with
  | ptr _ _ g h1 h2 =>
    obtain ⟨g', gm, h3, h4⟩ := hr.obj c _ hT
    rw [h2] at h3
    injection h3 with h3
    subst h3
    exact ⟨g, gm, rfl, h2, h4⟩
theorem iter_map {B : Nat → Prop} {w0 : World} {G : Gh} {w : World} {m gm : Nat} {es : List (V × V)} (hr : Rel B w0 G w T) (hT : T m = some (.map es)) (hgm : G.at_ m = some gm) :
    ∃ us : Array MapEntry, w.heap[gm]? = some (Obj.map us es.length) ∧ us.size = es.length ∧ (∀ (i : Nat) (x : MapEntry), us.toList[i]? = some x → x.born = i) ∧ LRel G w (es.map (·.1)) (us.toList.map (·.key)) ∧ LRel G w (es.map (·.2)) (us.toList.map (·.val)) := by
  obtain ⟨g', us, clock, h3, h4, h5, h6, ⟨h7, h8, h9⟩, h10⟩ := hr.obj m _ hT
  rw [hgm] at h3
  injection h3 with h3
  subst h3
  have hlen : us.size = es.length := by have := h7.1; simpa using this
  exact ⟨us, by rw [h6, h8, hlen], hlen, h9, h7, h10⟩
theorem aop_next {es : List (V × V)} {c m since last : Nat} {seen : List Nat} (ho : o.op = .next x false) (hx : evV ts x = .ptr c 0) (hT : T c = some (.iter m since seen last)) (hM : T m = some (.map es)) (hs : es.length ≤ since) (hsl : since ≤ last)
    (h0 : (∀ i, i < es.length → i ∈ seen) → K (.tup [.lit (.bool false)]) T)
    (h1 : ∀ i k v, es[i]? = some (k, v) → i ∉ seen → K (.tup [.lit (.bool true), k, v]) (T.set c (.iter m since (seen ++ [i]) es.length))) : AOp P o ts T K :=
  aop_value fun B w0 G w a hr hl => by
    have h := hl.ev x
    rw [hx] at h
    obtain ⟨g, gm, hau, q1, q2, q3, q4, q5, q6⟩ := iter_obj hr hT h
    obtain ⟨us, m1, m2, m3, m4, m5⟩ := iter_map hr hM q6
    have hold : ∀ x ∈ us.toList, x.born < since := fun x hx => by
      obtain ⟨i, hi⟩ := List.getElem?_of_mem hx
      rw [m3 i x hi]
      have := (List.getElem?_eq_some_iff.1 hi).1
      simp at this
      omega
    rcases run_next_at (P := P) w o.type g gm since last seen.toArray us es.length q4 m1 hold hsl with ⟨n1, n2⟩ | ⟨e, n1, w1, n2, n3⟩
    · refine ⟨.tuple #[.bool false], w, G, .tup [.lit (.bool false)], T, by simp [execOp, ho, hau, n2], Le.refl _ _, .tup _ [.bool false] rfl (LRel.cons (.lit _ rfl) LRel.nil).2, hr, h0 fun i hi => ?_⟩
      have hi' : i < us.size := by omega
      have hb := m3 i us[i] (by rw [Array.getElem?_toList, Array.getElem?_eq_getElem hi'])
      by_cases hs : i ∈ seen
      · exact hs
      · exfalso
        have : us[i] ∈ (leftOf us seen.toArray) := by
          unfold leftOf
          rw [Array.mem_filter]
          exact ⟨Array.getElem_mem hi', by simp [hb, hs]⟩
        have h2 := Array.size_pos_of_mem this
        omega
    · have hmem : e ∈ us.toList ∧ ¬ e.born ∈ seen := by
        unfold leftOf at n1
        simp at n1
        exact ⟨by simpa using n1.1, by simpa using n1.2⟩
      obtain ⟨i, hi⟩ := List.getElem?_of_mem hmem.1
      have hb := m3 i e hi
      have hil : i < es.length := by have := (List.getElem?_eq_some_iff.1 hi).1; simp at this; omega
      have hes := List.getElem?_eq_getElem hil
      have hr1 : Rel B w0 G w1 T := by rcases n2 with rfl | rfl; exact hr; exact hr.heap rfl rfl rfl rfl
      have hle1 : Le G w G w1 := by rcases n2 with rfl | rfl; exact Le.refl _ _; exact Le.heap G rfl
      have q4' : w1.heap[g]? = some (Obj.mapIter (some gm) since seen.toArray last) := by rcases n2 with rfl | rfl <;> exact q4
      obtain ⟨k1, k2⟩ := turn_obj (o' := .mapIter (some gm) since (seen.toArray.push e.born) es.length) (ob' := .iter m since (seen ++ [i]) es.length) hr1 hT q1 q2 q3 q4' (by simp) (fun hle hg => by
        refine ⟨g, gm, q1, q2, q3, ?_, q5, q6⟩
        rw [hg, hb]
        simp)
      have hkk : VRel G w es[i].1 e.key := m4.2 i _ _ (by rw [List.getElem?_map, hes]; rfl) (by rw [List.getElem?_map, hi]; rfl)
      have hvv : VRel G w es[i].2 e.val := m5.2 i _ _ (by rw [List.getElem?_map, hes]; rfl) (by rw [List.getElem?_map, hi]; rfl)
      refine ⟨.tuple #[.bool true, e.key, e.val], _, G, .tup [.lit (.bool true), es[i].1, es[i].2], _, by simp only [execOp, ho, hau, Sem.run_bind, n3, Result.andThen_ok]; rfl, hle1.trans k1, .tup _ [.bool true, e.key, e.val] rfl ?_, k2, h1 i _ _ hes (by rw [← hb]; exact hmem.2)⟩
      exact (LRel.cons (.lit _ rfl) (LRel.cons ((hkk.mono hle1).mono k1) (LRel.cons ((hvv.mono hle1).mono k1) LRel.nil))).2
theorem aop_entry {es : List (V × V)} {c m since i : Nat} {seen : List Nat} {k v : V} (ho : o.op = .entry x) (hx : evV ts x = .ptr c 0) (hT : T c = some (.iter m since (seen ++ [i]) es.length)) (hM : T m = some (.map es)) (hi : es[i]? = some (k, v)) (hk : K (.tup [k, v]) T) : AOp P o ts T K :=
  aop_value fun B w0 G w a hr hl => by
    have h := hl.ev x
    rw [hx] at h
    obtain ⟨g, gm, hau, q1, q2, q3, q4, q5, q6⟩ := iter_obj hr hT h
    obtain ⟨us, m1, m2, m3, m4, m5⟩ := iter_map hr hM q6
    have hil : i < us.size := by have := (List.getElem?_eq_some_iff.1 hi).1; omega
    have hu : us.toList[i]? = some us[i] := by rw [Array.getElem?_toList, Array.getElem?_eq_getElem hil]
    have hb := m3 i _ hu
    have hn : (us.toList.map (·.born)).Nodup := by
      have : us.toList.map (·.born) = List.range us.size := by
        apply List.ext_getElem?
        intro j
        by_cases hj : j < us.size
        · have hj2 : us.toList[j]? = some us[j] := by rw [Array.getElem?_toList, Array.getElem?_eq_getElem hj]
          rw [List.getElem?_map, hj2, List.getElem?_range hj]
          simp [m3 j _ hj2]
        · rw [List.getElem?_eq_none (by simp; omega), List.getElem?_eq_none (by simp; omega)]
      rw [this]
      exact List.nodup_range
    have hrun := run_entry_at (P := P) w g gm since seen.toArray us es.length us[i] (by rw [q4, hb]; simp) m1 (List.mem_of_getElem? hu) hn
    refine ⟨.tuple #[us[i].key, us[i].val], w, G, .tup [k, v], T, by simp [execOp, ho, hau, hrun], Le.refl _ _, .tup _ [us[i].key, us[i].val] rfl ?_, hr, hk⟩
    exact (LRel.cons (m4.2 i _ _ (by rw [List.getElem?_map, hi]; rfl) (by rw [List.getElem?_map, hu]; rfl)) (LRel.cons (m5.2 i _ _ (by rw [List.getElem?_map, hi]; rfl) (by rw [List.getElem?_map, hu]; rfl)) LRel.nil)).2
end
end Go.Ae
