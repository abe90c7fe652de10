/- A part of the proof: a machine on trees that is sound for the model, its tables, and contracts of functions. Conditions: none. -/
import Derived.Test.YtpookgemmjdgfaaGreatAeXo
namespace Go.Ae
open Go.RowKit

/-! ### Makes, closures, interfaces, texts of bytes -/
def zmk (zc : List V) (n : Nat) : List V := (List.range n).map fun j => zc.getD (j % zc.length) .any
def zeroCells (z : Value) (n : Nat) : List V := zmk (constV z).cells n
/-- Bytes told whole. -/
def byteOf : V → Option UInt8
  | .lit (.int .u8 n) => some (UInt8.ofNat n.toNat)
  | _ => none
def bytesOf (cells : List V) : Option (List UInt8) := cells.mapM byteOf
section
variable {P : Program} {o : Oper} {ts : List V} {T : Tb} {K : V → Tb → Prop} {x y : Operand}
theorem constV_len {G : Gh} {w : World} (z : Value) : (constV z).cells.length = z.cells.size := by
  have := (constCells (G := G) (w := w) z).1
  simpa using this.symm
theorem made_rel {G : Gh} {w : World} (z : Value) (n : Nat) (h0 : 0 < z.cells.size) : LRel G w (zeroCells z n) (madeCells z.cells n).toList := by
  have hc := constCells (G := G) (w := w) z
  have hlen := constV_len (G := G) (w := w) z
  refine ⟨by simp [madeCells, zeroCells, zmk], fun i x u hx hu => ?_⟩
  unfold zeroCells zmk at hx
  rw [List.getElem?_map] at hx
  simp only [madeCells, Array.toList_map, List.getElem?_map] at hu
  by_cases hi : i < n
  · rw [List.getElem?_range hi] at hx
    have hr : (Array.range n).toList[i]? = some i := by simp [hi]
    rw [hr] at hu
    simp only [Option.map_some, Option.some.injEq] at hx hu
    have hm : i % z.cells.size < z.cells.size := Nat.mod_lt _ h0
    have hm2 : i % (constV z).cells.length < (constV z).cells.length := by rw [hlen]; exact hm
    rw [List.getD_eq_getElem?_getD, List.getElem?_eq_getElem hm2] at hx
    simp only [Option.getD_some] at hx
    subst hx
    rw [getElem!_pos z.cells _ hm] at hu
    subst hu
    exact hc.2 (i % (constV z).cells.length) _ _ (List.getElem?_eq_getElem hm2) (by simp only [hlen]; rw [Array.getElem?_toList, Array.getElem?_eq_getElem hm])
  · rw [List.getElem?_eq_none (by simpa using hi)] at hx
    cases hx
theorem aop_makeSlice {t e : TypeId} {sz bytes : Nat} {kl kc : IntKind} {n c : Int} {z : Value} (ho : o.op = .makeSlice t x y) (ht : SlTy P t e sz bytes) (hz : zeB P e z) (hzs : z.cells.size = sz) (hx : evV ts x = .lit (.int kl n)) (hy : evV ts y = .lit (.int kc c))
    (h0 : 0 ≤ n) (h1 : n ≤ c) (h2 : (bytes : Int) * c ≤ 140737488355328) (h3 : c ≤ 4611686018427387904)
    (hk : ∀ b, b = T.lim → T b = none → K (.ms b 0 n.toNat (n.toNat == c.toNat)) (T.set b (.cells (zeroCells z (c.toNat * sz))))) : AOp P o ts T K :=
  aop_value fun B w0 G w a hr hl => by
    obtain ⟨hle1, hr1⟩ := hr.upTo
    obtain ⟨i, z1, z2⟩ := hz
    obtain ⟨i', z', j1, j2, j3, j4, j5⟩ := ht.info
    rw [z1] at j1
    injection j1 with j1
    subst j1
    have hpos := ht.pos
    obtain ⟨k1, k2⟩ := new_obj hr1 (zeroCells z (c.toNat * sz)) (madeCells z.cells (c.toNat * sz)).toList (made_rel z _ (by omega)) e
    have hrun := run_makeSlice (P := P) w t e i z ht.und z1 z2 kl kc n c h0 h1
    refine ⟨.slice (some ⟨w.heap.size, 0, none⟩) n.toNat c.toNat, _, _, .ms T.lim 0 n.toNat (n.toNat == c.toNat), _, ?_, hle1.trans k1, ?_, k2, hk _ rfl (T_fresh hr1)⟩
    · have hr2 := run_make (P := P) w t e i z ht.und z1 z2 kl kc n c h0 h1 (by rw [j4]; omega) (by omega)
      simp only [execOp, ho, hl.ev_lit hx, hl.ev_lit hy, Sem.run_bind, hr2, Result.andThen_ok, j3]
      rfl
    · refine .ms _ _ _ w.heap.size _ _ (by simp [Gh.obj, Gh.upTo]) (by simp [Gh.obj, Gh.upTo]) (by omega) (by simp only [maxLen]; omega) (fun h => ?_)
      simp at h
      omega
theorem aop_makeFunc {f : FuncId} {xs ys : List Operand} (ho : o.op = .makeFunc (.func f) xs.toArray ys.toArray) (hk : K (.fn (.func f) (xs.map (evV ts)) (ys.map (evV ts))) T) : AOp P o ts T K :=
  aop_same _ (fun G w a hl => by
    have h1 := hl.evs xs
    have h2 := hl.evs ys
    refine ⟨.func (.func f) (xs.map a.eval).toArray (ys.map a.eval).toArray, ?_, .fn _ _ _ _ _ h1.1 h2.1 h1.2 h2.2⟩
    simp [execOp, ho, Instr.makeFunc]) hk
theorem concB_conc {t : TypeId} (h : concB P t = true) : P.concrete t = true := by
  unfold concB at h
  unfold Program.concrete
  split at h
  · cases h
  · rename_i d hn hd
    rw [hd]
    cases d <;> first | rfl | exact (hn _ rfl).elim
  · cases h
theorem aop_makeInterface {t : TypeId} (ho : o.op = .makeInterface t x) (ht : concB P t = true) (hk : K (.ifc t (evV ts x)) T) : AOp P o ts T K :=
  aop_same _ (fun G w a hl => ⟨.iface t (a.eval x), by simp [execOp, ho, run_makeInterface w t _ (concB_conc ht)], .ifc _ _ _ (hl.ev x)⟩) hk
theorem run_assert_yes {t xT : TypeId} (h : concB P t = true) (c : Bool) (u : Value) (w : World) : (Instr.typeAssert (.iface t u) xT t c).run P w = .ok (if c then .tuple #[u, .bool true] else u) w := by
  unfold concB at h
  split at h
  · cases h
  · rename_i d hn hd
    cases d <;> first | exact (hn _ rfl).elim | (cases c <;> simp [Instr.typeAssert, run_underlying hd])
  · cases h
theorem aop_assert {t xT : TypeId} {c : Bool} {v : V} (ho : o.op = .typeAssert x xT t c) (ht : concB P t = true) (hx : evV ts x = .ifc t v) (hk : K (lookRes c v true) T) : AOp P o ts T K :=
  aop_same _ (fun G w a hl => by
    have h := hl.ev x
    rw [hx] at h
    generalize he : a.eval x = u at h
    cases h with
    | ifc _ _ u hv => exact ⟨if c then .tuple #[u, .bool true] else u, by simp [execOp, ho, he, run_assert_yes ht], lookRes_rel c true hv⟩) hk
theorem run_method {t : TypeId} {name : String} {f : FuncId} (h : invB P t name f = true) (n : Nat) (v : Value) (w : World) : (method (n + 1) t v name).run P w = .ok (f, v) w := by
  unfold invB at h
  split at h
  · rename_i i hi
    split at h
    · rename_i m hm
      simp only [Bool.and_eq_true] at h
      obtain ⟨hp, h⟩ := h
      split at h
      · rename_i g p hg
        simp only [Bool.and_eq_true, beq_iff_eq] at h
        obtain ⟨rfl, h⟩ := h
        have hp' : m.path = #[] := by simpa using hp
        split at h
        · rename_i e he
          subst h
          simp [method, typeInfo, hi, hm, hp', follow, hg, receiverAt, run_underlying he, Place.get]
        · rename_i d hnp hd
          simp at h
          subst h
          cases d <;> first | exact (hnp _ rfl).elim | simp [method, typeInfo, hi, hm, hp', follow, hg, receiverAt, run_underlying hd, Place.get]
        · cases h
      · cases h
    · cases h
  · cases h
theorem aop_invoke {t : TypeId} {name : String} {f : FuncId} {v : V} {xs : List Operand} {tys : Array TypeId} (ho : o.op = .call { callee := .invoke x name, args := xs.toArray, argTypes := tys }) (hx : evV ts x = .ifc t v) (hi : invB P t name f = true) (hf : fnB P f = true)
    (hk : ACalls P f (v :: xs.map (evV ts)) T K) : AOp P o ts T K :=
  aop_call_gen hf (fun G w a hl => by
    have h := hl.ev x
    rw [hx] at h
    generalize he : a.eval x = u at h
    cases h with
    | ifc _ _ u hv =>
      refine ⟨u :: xs.map a.eval, ?_, LRel.cons hv (hl.evs xs)⟩
      have hm := run_method (P := P) hi (P.types.size + 99) u w
      have hs : P.types.size + Made.depth = P.types.size + 99 + 1 := rfl
      have e1 : ((#[Value.iface t u] ++ (xs.map a.eval).toArray).extract 1 (#[Value.iface t u] ++ (xs.map a.eval).toArray).size) = (xs.map a.eval).toArray := by
        apply Array.ext'
        simp
        exact List.take_of_length_le (by simp)
      have e2 : (#[Value.iface t u] ++ (xs.map a.eval).toArray)[0]? = some (Value.iface t u) := by simp
      have e3 : #[u] ++ (xs.map a.eval).toArray = (u :: xs.map a.eval).toArray := by simp
      have hres : (resolve a.eval { callee := .invoke x name, args := xs.toArray, argTypes := tys } o.type) = pure { target := .fn (.method name) #[], args := #[Value.iface t u] ++ (xs.map a.eval).toArray } := by
        simp [resolve, he]
      simp only [execOp, ho, hres, pure_bind, invoke, e2, e1]
      have hp : Sem.run P program w = .ok P w := rfl
      simp only [callMethod, Sem.run_bind, hp, Result.andThen_ok, hs, hm, e3]) hk
theorem bytesOf_cons {v : V} {cells : List V} {l : List UInt8} (h : bytesOf (v :: cells) = some l) : ∃ c r, byteOf v = some c ∧ bytesOf cells = some r ∧ l = c :: r := by
  unfold bytesOf at h
  rw [List.mapM_cons] at h
  cases hb : byteOf v with
  | none => rw [hb] at h; cases h
  | some c =>
    cases hr : cells.mapM byteOf with
    | none => rw [hb, hr] at h; cases h
    | some r =>
      rw [hb, hr] at h
      injection h with h
      exact ⟨c, r, rfl, hr, h.symm⟩
theorem bytes_vals {G : Gh} {w : World} : ∀ {cells : List V} {us : List Value} {l : List UInt8}, LRel G w cells us → bytesOf cells = some l → ∃ ns : List Int, us = ns.map (Value.int .u8) ∧ ns.map (fun n => UInt8.ofNat n.toNat) = l
  | [], us, l, h, hb => by
    have : us = [] := List.eq_nil_of_length_eq_zero (by simpa using h.1)
    subst this
    have : l = [] := by injection hb with hb; exact hb.symm
    subst this
    exact ⟨[], rfl, rfl⟩
  | v :: cells, us, l, h, hb => by
    obtain ⟨c, r, h1, h2, rfl⟩ := bytesOf_cons hb
    cases us with
    | nil => have := h.1; simp at this
    | cons u us =>
      obtain ⟨ns, h3, h4⟩ := bytes_vals (cells := cells) (us := us) ⟨by have := h.1; simpa using this, fun i a b ha hb => h.2 (i + 1) a b (by simpa using ha) (by simpa using hb)⟩ h2
      have hv := h.2 0 v u rfl rfl
      unfold byteOf at h1
      split at h1
      · rename_i n
        injection h1 with h1
        cases hv
        exact ⟨n :: ns, by simp [h3], by simp [h1, h4]⟩
      · cases h1
theorem push_fold (ns : List Int) : ∀ s : ByteArray, (ns.foldl (fun r n => r.push (UInt8.ofNat n.toNat)) s).data.toList = s.data.toList ++ ns.map (fun n => UInt8.ofNat n.toNat) := by
  induction ns with
  | nil => intro s; simp
  | cons n ns ih =>
    intro s
    rw [List.foldl_cons, ih]
    simp [ByteArray.push]
theorem aop_bytesToString {src dst e : TypeId} {cells : List V} {n : Nat} {tok : Tok} {l : List UInt8} (ho : o.op = .convert src dst x) (h1 : P.underlying src = some (.slice e)) (h2 : P.underlying e = some (.int .u8)) (h3 : P.underlying dst = some .string)
    (hx : evV ts x = .sl cells n tok) (hn : cells.length = n) (hb : bytesOf cells = some l) (hk : K (.lit (.string ⟨l.toArray⟩)) T) : AOp P o ts T K :=
  aop_same _ (fun G w a hl => by
    have hv := hl.ev x
    rw [hx] at hv
    generalize he : a.eval x = u at hv
    cases u with
    | slice A m c =>
      obtain ⟨rfl, q1, q2, q4, q3, us, hus, hc⟩ := hv.sl_cells
      obtain ⟨ns, n1, n2⟩ := bytes_vals hus hb
      have hcv : convert src dst (.slice A m c) = (do match ← underlying e with | .int .u8 => Conv.bytesToString (.slice A m c) | .int .i32 => Conv.runesToString (.slice A m c) | _ => stuck "Convert: a slice of what to string?") ∨ True := .inr trivial
      refine ⟨.string ⟨l.toArray⟩, ?_, .lit _ rfl⟩
      cases A with
      | none =>
        obtain ⟨q5, q6, _⟩ := q3 rfl
        subst q5
        have : l = [] := by injection hb with hb; exact hb.symm
        subst this
        simp [execOp, ho, he, convert, run_underlying h1, run_underlying h2, run_underlying h3, Conv.bytesToString]
        rfl
      | some ad =>
        have hlen : us.length = m := by rw [hus.1]; exact hn
        have hld := run_loadCells_list (P := P) w ad us (fun j v hj => (hc ad rfl j v hj).2)
        rw [hlen] at hld
        have := run_bytesToString (P := P) w ad m c ns (by rw [hld, n1])
        have e1 : (ns.foldl (fun r n => r.push (UInt8.ofNat n.toNat)) ByteArray.empty) = ⟨l.toArray⟩ := by
          have h := push_fold ns ByteArray.empty
          rw [n2] at h
          have e0 : ByteArray.empty.data.toList = [] := rfl
          rw [e0, List.nil_append] at h
          generalize ns.foldl (fun r n => r.push (UInt8.ofNat n.toNat)) ByteArray.empty = s at h
          obtain ⟨d⟩ := s
          simp only at h
          rw [← h]
        rw [e1] at this
        simp [execOp, ho, he, convert, run_underlying h1, run_underlying h2, run_underlying h3, this]
    | _ => cases hv) hk
theorem run_equal_sl_nil {t e : TypeId} (hu : P.underlying t = some (.slice e)) (A : Option Addr) (n c : Nat) (w : World) : (Op.equal t (.slice A n c) (.slice none 0 0)).run P w = .ok A.isNone w := by
  have h : ∀ d, (Op.equalIn (d + 1) t (.slice A n c) (.slice none 0 0)).run P w = .ok A.isNone w := fun d => by cases A <;> simp [Op.equalIn, run_underlying hu]
  exact h 9999
/-- Is a slice nil? -/
def nilSl : V → Option Bool
  | .sl _ n tok => if n = 0 then (match tok with | .nil => some true | _ => none) else some false
  | .ms _ _ _ _ => some false
  | _ => none
theorem aop_slnil {op : BinOp} {t e yt : TypeId} {r : Bool} (hop : op = .eql ∨ op = .neq) (ho : o.op = .binOp op t x y yt) (hu : P.underlying t = some (.slice e)) (hx : nilSl (evV ts x) = some r) (hy : evV ts y = .sl [] 0 .nil) (hk : K (.lit (.bool (if op = .eql then r else !r))) T) : AOp P o ts T K := by
  refine aop_binr ho (fun G w ac hl w' => ?_) rfl hk
  have h1 := hl.ev x
  have h2 := hl.ev y
  rw [hy] at h2
  generalize ac.eval x = u at h1
  generalize ac.eval y = v at h2
  have hv : v = .slice none 0 0 := by
    cases h2 with
    | sl _ _ _ A c uf a1 a2 a3 a4 a5 a6 =>
      have : A = none := a6
      obtain ⟨_, _, b3⟩ := a3 this
      rw [this, b3]
  subst hv
  have hu' : ∃ A n c, u = .slice A n c ∧ A.isNone = r := by
    unfold nilSl at hx
    split at hx
    · rename_i cs n tok hev
      rw [hev] at h1
      cases h1 with
      | sl _ _ _ A c uf a1 a2 a3 a4 a5 a6 =>
        refine ⟨A, n, c, rfl, ?_⟩
        split at hx
        · split at hx
          · have : A = none := a6
            subst this
            injection hx with hx
          · cases hx
        · rename_i hn
          injection hx with hx
          cases A with
          | none => exact (hn (a3 rfl).2.1).elim
          | some _ => exact hx
    · rename_i hev
      rw [hev] at h1
      cases h1
      injection hx with hx
      exact ⟨_, _, _, rfl, hx⟩
    · cases hx
  obtain ⟨A, n, c, rfl, hA⟩ := hu'
  subst hA
  rcases hop with rfl | rfl
  · simp only [eqGuard, Go.binOp, Sem.run_bind, Sem.run_pure, Result.andThen_ok, run_equal_sl_nil hu]
    cases A <;> rfl
  · simp only [eqGuard, Go.binOp, Sem.run_bind, Sem.run_pure, Result.andThen_ok, run_equal_sl_nil hu]
    cases A <;> rfl
def mxV (mx : Bool) (a b : Int) : Int := if mx then (if b > a then b else a) else (if b < a then b else a)
theorem aop_max {mx : Bool} {tys : Array TypeId} {k k' : IntKind} {a b : Int} (ho : o.op = .call { callee := .builtin (if mx then .max else .min), args := #[x, y], argTypes := tys }) (hx : evV ts x = .lit (.int k a)) (hy : evV ts y = .lit (.int k' b)) (hk : K (.lit (.int k (mxV mx a b))) T) : AOp P o ts T K :=
  aop_same _ (fun G w ac hl => by
    refine ⟨.int k (mxV mx a b), ?_, .lit _ rfl⟩
    cases mx <;> simp [execOp, ho, resolve, invoke, builtin, hl.ev_lit hx, hl.ev_lit hy, Builtin.max_, Builtin.min_, Builtin.max2, Builtin.min2, mxV]) hk
end
end Go.Ae
