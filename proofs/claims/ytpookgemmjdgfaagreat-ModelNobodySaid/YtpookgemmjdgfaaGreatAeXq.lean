/- A part of the proof: a machine on trees that is sound for the model, its tables, and contracts of functions. Conditions: none. -/
import Derived.Test.YtpookgemmjdgfaaGreatAeXp
import Derived.Test.YtpookgemmjdgfaaGreatAeZ
namespace Go.Ae
open Go.RowKit

/-! ### The further operations in the machine -/
inductive XOp where
  | mkMap
  | mkMapR
  | look (isStr c : Bool) (z : V)
  | upd (isStr : Bool)
  | rng
  | next
  | entry
  | mkSl (sz bytes : Nat) (zc : List V)
  | sl3 (sz : Nat)
  | sl3l (sz : Nat)
  | sstr (lo hi : Bool)
  | slnil (eq : Bool)
  | mkFn (f : FuncId) (k : Nat)
  | ifc (t : TypeId)
  | asrt (t : TypeId) (c : Bool)
  | inv (ms : List (TypeId × FuncId))
  | b2s
  | mx (b : Bool)
def natOf : V → Option Nat
  | .lit (.int _ j) => if 0 ≤ j then some j.toNat else none
  | _ => none
def xLook (s : Hp) (isStr c : Bool) (z m k : V) : Option (V × Hp) :=
  match m with
  | .mp b => (match s.at b with
    | some (.map es) => if vkey isStr k = true then (match vfind k es 0 with | some (some (_, v)) => some (lookRes c v true, s) | some none => some (lookRes c z false, s) | none => none) else none
    | _ => none)
  | _ => none
def xUpd (pr : List Nat) (s : Hp) (isStr : Bool) (m k v : V) : Option (V × Hp) :=
  match m with
  | .mp b => (match s.at b with
    | some (.map es) => if vkey isStr k = true ∧ pr.contains b = false then (match vfind k es 0 with | some r => some (.tup [], s.put b (some (.map (vput k v es r)))) | none => none) else none
    | _ => none)
  | _ => none
def xRng (s : Hp) (m : V) : Option (V × Hp) :=
  match m with
  | .mp b => (match s.at b with | some (.map es) => some (.ptr s.n 0, s.new (.iter b es.length [] es.length)) | _ => none)
  | _ => none
def xNext (pr : List Nat) (s : Hp) (it : V) : Option (V × Hp) :=
  match it with
  | .ptr c 0 => (match s.at c with
    | some (.iter m since seen last) => (match s.at m with
      | some (.map es) => if es.length ≤ since ∧ since ≤ last ∧ pr.contains c = false then
          (match (List.range es.length).filter (fun i => !seen.contains i) with
          | [] => some (.tup [.lit (.bool false)], s)
          | [i] => (match es[i]? with | some (k, v) => some (.tup [.lit (.bool true), k, v], s.put c (some (.iter m since (seen ++ [i]) es.length))) | none => none)
          | _ => none)
        else none
      | _ => none)
    | _ => none)
  | _ => none
def xEntry (s : Hp) (it : V) : Option (V × Hp) :=
  match it with
  | .ptr c 0 => (match s.at c with
    | some (.iter m _ seen last) => (match s.at m, seen.reverse with
      | some (.map es), i :: _ => if last = es.length then (match es[i]? with | some (k, v) => some (.tup [k, v], s) | none => none) else none
      | _, _ => none)
    | _ => none)
  | _ => none
def xMkSl (s : Hp) (sz bytes : Nat) (zc : List V) (n c : V) : Option (V × Hp) :=
  match n, c with
  | .lit (.int _ n), .lit (.int _ c) => if 0 ≤ n ∧ n ≤ c ∧ (bytes : Int) * c ≤ 140737488355328 ∧ c ≤ 4611686018427387904 then some (.ms s.n 0 n.toNat (n.toNat == c.toNat), s.new (.cells (zmk zc (c.toNat * sz)))) else none
  | _, _ => none
def xSl3 (s : Hp) (sz : Nat) (x : V) (l : Option Nat) (h m : V) : Option (V × Hp) :=
  match x, l, natOf h, natOf m with
  | .sl cells n _, some l, some h, some m => if cells.length = n * sz ∧ l ≤ h ∧ h ≤ m ∧ m ≤ n then some (.sl ((cells.drop (l * sz)).take ((h - l) * sz)) (h - l) (if m = h then .exact else .no), s) else none
  | _, _, _, _ => none
def xSstr (s : Hp) (x : V) (l h : Option Nat) : Option (V × Hp) :=
  match x, l, h with
  | .lit (.string a), some l, some h => if l ≤ h ∧ h ≤ (bl a).length then some (.lit (.string ⟨(((bl a).drop l).take (h - l)).toArray⟩), s) else none
  | _, _, _ => none
def xSlnil (s : Hp) (eq : Bool) (x y : V) : Option (V × Hp) :=
  match y with
  | .sl [] 0 .nil => (match nilSl x with | some r => some (.lit (.bool (if eq then r else !r)), s) | none => none)
  | _ => none
def xAsrt (s : Hp) (t : TypeId) (c : Bool) (x : V) : Option (V × Hp) :=
  match x with
  | .ifc t' v => if t' = t then some (lookRes c v true, s) else none
  | _ => none
def xInv (cf : FuncId → List V → Hp → Option (V × Hp)) (s : Hp) (ms : List (TypeId × FuncId)) (r : V) (xs : List V) : Option (V × Hp) :=
  match r with
  | .ifc t v => (match look ms t with | some f => cf f (v :: xs) s | none => none)
  | _ => none
def xB2s (s : Hp) (x : V) : Option (V × Hp) :=
  match x with
  | .sl cells n _ => if cells.length = n then (match bytesOf cells with | some l => some (.lit (.string ⟨l.toArray⟩), s) | none => none) else none
  | _ => none
def xMx (s : Hp) (b : Bool) (x y : V) : Option (V × Hp) :=
  match x, y with
  | .lit (.int k a), .lit (.int _ c) => some (.lit (.int k (mxV b a c)), s)
  | _, _ => none
def xrun (pr : List Nat) (cf : FuncId → List V → Hp → Option (V × Hp)) (s : Hp) (o : XOp) (vs : List V) : Option (V × Hp) :=
  match o with
  | .mkMap => some (.mp s.n, s.new (.map []))
  | .mkMapR => (match vs with | [.lit (.int _ _)] => some (.mp s.n, s.new (.map [])) | _ => none)
  | .look a c z => (match vs with | [m, k] => xLook s a c z m k | _ => none)
  | .upd a => (match vs with | [m, k, v] => xUpd pr s a m k v | _ => none)
  | .rng => (match vs with | [m] => xRng s m | _ => none)
  | .next => (match vs with | [m] => xNext pr s m | _ => none)
  | .entry => (match vs with | [m] => xEntry s m | _ => none)
  | .mkSl sz bytes zc => (match vs with | [n, c] => xMkSl s sz bytes zc n c | _ => none)
  | .sl3 sz => (match vs with | [x, h, m] => xSl3 s sz x (some 0) h m | _ => none)
  | .sl3l sz => (match vs with | [x, l, h, m] => xSl3 s sz x (natOf l) h m | _ => none)
  | .sstr lo hi => (match lo, hi, vs with
    | false, false, [x] => (match x with | .lit (.string a) => xSstr s x (some 0) (some (bl a).length) | _ => none)
    | true, false, [x, l] => (match x with | .lit (.string a) => xSstr s x (natOf l) (some (bl a).length) | _ => none)
    | false, true, [x, h] => xSstr s x (some 0) (natOf h)
    | true, true, [x, l, h] => xSstr s x (natOf l) (natOf h)
    | _, _, _ => none)
  | .slnil e => (match vs with | [x, y] => xSlnil s e x y | _ => none)
  | .mkFn f k => some (.fn (.func f) (vs.take k) (vs.drop k), s)
  | .ifc t => (match vs with | [x] => some (.ifc t x, s) | _ => none)
  | .asrt t c => (match vs with | [x] => xAsrt s t c x | _ => none)
  | .inv ms => (match vs with | r :: xs => xInv cf s ms r xs | _ => none)
  | .b2s => (match vs with | [x] => xB2s s x | _ => none)
  | .mx b => (match vs with | [x, y] => xMx s b x y | _ => none)
def ivOf (I : TI) (name : String) : List (TypeId × FuncId) := I.iv.filterMap fun x => if x.1.2 = name then some (x.1.1, x.2) else none
def xcomp (I : TI) (o : Op) : Option (XOp × List Operand) :=
  match o with
  | .makeMap _ none => some (.mkMap, [])
  | .makeMap t (some r) => (match look I.mt t with | some _ => some (.mkMapR, [r]) | none => none)
  | .lookup t x y c => (match look I.mt t with | some (_, et, isStr) => (match look I.ze et with | some z => some (.look isStr c (constV z), [x, y]) | none => none) | none => none)
  | .mapUpdate t x y z | .insert t x y z => (match look I.mt t with | some (_, _, isStr) => some (.upd isStr, [x, y, z]) | none => none)
  | .range t x => (match look I.mt t with | some _ => some (.rng, [x]) | none => none)
  | .next x false => some (.next, [x])
  | .entry x => some (.entry, [x])
  | .makeSlice t x y => (match look I.sl t with | some e => (match look I.ze e.1 with | some z => some (.mkSl e.2.1 e.2.2 (constV z).cells, [x, y]) | none => none) | none => none)
  | .slice t x none (some h) (some m) => (match look I.sl t with | some e => some (.sl3 e.2.1, [x, h, m]) | none => none)
  | .slice t x (some l) (some h) (some m) => (match look I.sl t with | some e => some (.sl3l e.2.1, [x, l, h, m]) | none => none)
  | .slice t x lo hi none => if I.st.contains t then some (.sstr lo.isSome hi.isSome, x :: (lo.toList ++ hi.toList)) else none
  | .binOp .eql t x y _ => if (look I.sl t).isSome then some (.slnil true, [x, y]) else none
  | .binOp .neq t x y _ => if (look I.sl t).isSome then some (.slnil false, [x, y]) else none
  | .makeFunc (.func f) xs ys => some (.mkFn f xs.toList.length, xs.toList ++ ys.toList)
  | .makeInterface t x => if I.cc.contains t then some (.ifc t, [x]) else none
  | .typeAssert x _ t c => if I.cc.contains t then some (.asrt t c, [x]) else none
  | .call { callee := .invoke r name, args, .. } => some (.inv (ivOf I name), r :: args.toList)
  | .convert src dst x => if (look I.bs src).isSome ∧ I.st.contains dst then some (.b2s, [x]) else none
  | .call { callee := .builtin .max, args, .. } => (match args.toList with | [x, y] => some (.mx true, [x, y]) | _ => none)
  | .call { callee := .builtin .min, args, .. } => (match args.toList with | [x, y] => some (.mx false, [x, y]) | _ => none)
  | _ => none
section
variable {P : Program} {I : TI} {pr : List Nat} {cf : FuncId → List V → Hp → Option (V × Hp)} {ts : List V} {s s' : Hp} {v : V} {o : Oper}
/-- What a step comes to. -/
def Good (pr : List Nat) (s s' : Hp) (h : (V → Tb → Prop) → Prop) (v : V) : Prop := s'.Ok ∧ Hp.Le pr s s' ∧ ∀ K : V → Tb → Prop, K v s'.tb → h K
theorem TI.All.mt' (h : I.All P) {t : Nat} {x : TypeId × TypeId × Bool} (hl : look I.mt t = some x) : mapB P t x.1 x.2.1 x.2.2 = true := List.all_eq_true.1 h.mt _ (look_mem hl)
theorem TI.All.cc' (h : I.All P) {t : Nat} (hl : I.cc.contains t = true) : concB P t = true := List.all_eq_true.1 h.cc t (by simpa using hl)
theorem natOf_bnd {x : Operand} {d j : Nat} (h : natOf (evV ts x) = some j) : bndV ts (some x) d = some j := by
  unfold natOf at h
  simp only [bndV]
  split at h
  · rename_i hx; simp only [hx]; exact h
  · cases h
theorem good_same (hs : s.Ok) {h : (V → Tb → Prop) → Prop} (hk : ∀ K : V → Tb → Prop, K v s.tb → h K) : Good pr s s h v := ⟨hs, Hp.Le.refl _ _, hk⟩
theorem ext_str (a : ByteArray) (l h : Nat) (_h2 : h ≤ (bl a).length) : (⟨(((bl a).drop l).take (h - l)).toArray⟩ : ByteArray) = a.extract l h := by
  have e : (a.extract l h).data = a.data.extract l h := ByteArray.data_extract
  have e2 : (((bl a).drop l).take (h - l)).toArray = (a.extract l h).data := by
    rw [e]
    apply Array.ext'
    rw [Array.toList_extract, List.extract_eq_take_drop]
    rfl
  rw [e2]
theorem bl_size (a : ByteArray) : (bl a).length = a.size := Array.length_toList
theorem good_new (hs : s.Ok) {h : (V → Tb → Prop) → Prop} {ob : AObj} (hk : ∀ K : V → Tb → Prop, (∀ b, b = s.tb.lim → s.tb b = none → K v ((s.tb.set b ob))) → h K) : Good pr s (s.new ob) h v :=
  ⟨Hp.new_ok hs _, Hp.Le.new _ _ _, fun K hK => hk K fun b hb _ => by subst hb; rw [Hp.new_tb] at hK; exact hK⟩
theorem good_put (hs : s.Ok) {h : (V → Tb → Prop) → Prop} {b : Nat} {ob ob' : AObj} (hb : s.at b = some ob) (hp : pr.contains b = false) (hk : ∀ K : V → Tb → Prop, K v (s.tb.set b ob') → h K) : Good pr s (s.put b (some ob')) h v :=
  ⟨Hp.put_ok hs _ _, Hp.Le.put hs (Hp.at_lt hb) hp _, fun K hK => hk K (by rw [Hp.put_tb hs (Hp.at_lt hb)] at hK; exact hK)⟩
theorem xLook_sound (hs : s.Ok) {t kt et : TypeId} {isStr c : Bool} {z : Value} {x y : Operand} (ho : o.op = .lookup t x y c) (hm : mapB P t kt et isStr = true) (hz : zeB P et z) (h : xLook s isStr c (constV z) (evV ts x) (evV ts y) = some (v, s')) : Good pr s s' (fun K => AOp P o ts s.tb K) v := by
  unfold xLook at h
  split at h
  · rename_i b hx
    split at h
    · rename_i es hT
      split at h
      · rename_i hk
        split at h
        · rename_i v0 hf
          injection h with h; injection h with ha hb; subst ha; subst hb
          exact good_same hs fun K hK => aop_lookup ho hm hz hx hT hk hf hK
        · rename_i hf
          injection h with h; injection h with ha hb; subst ha; subst hb
          exact good_same hs fun K hK => aop_lookup ho hm hz hx hT hk hf hK
        · cases h
      · cases h
    · cases h
  · cases h
theorem xUpd_sound (hs : s.Ok) {t kt et : TypeId} {isStr : Bool} {x y z : Operand} (ho : o.op = .mapUpdate t x y z ∨ o.op = .insert t x y z) (hm : mapB P t kt et isStr = true) (h : xUpd pr s isStr (evV ts x) (evV ts y) (evV ts z) = some (v, s')) : Good pr s s' (fun K => AOp P o ts s.tb K) v := by
  unfold xUpd at h
  split at h
  · rename_i b hx
    split at h
    · rename_i es hT
      split at h
      · rename_i hk
        split at h
        · rename_i r hf
          injection h with h; injection h with ha hb; subst ha; subst hb
          exact good_put hs hT hk.2 fun K hK => aop_mapUpdate ho hm hx hT hk.1 hf hK
        · cases h
      · cases h
    · cases h
  · cases h
theorem xRng_sound (hs : s.Ok) {t kt et : TypeId} {isStr : Bool} {x : Operand} (ho : o.op = .range t x) (hm : mapB P t kt et isStr = true) (h : xRng s (evV ts x) = some (v, s')) : Good pr s s' (fun K => AOp P o ts s.tb K) v := by
  unfold xRng at h
  split at h
  · rename_i b hx
    split at h
    · rename_i es hT
      injection h with h; injection h with ha hb; subst ha; subst hb
      refine good_new hs fun K hK => aop_range ho hm hx hT fun c hc h0 => ?_
      have := hK c hc h0
      rw [hc] at this ⊢
      exact this
    · cases h
  · cases h
theorem xNext_sound (hs : s.Ok) {x : Operand} (ho : o.op = .next x false) (h : xNext pr s (evV ts x) = some (v, s')) : Good pr s s' (fun K => AOp P o ts s.tb K) v := by
  unfold xNext at h
  split at h
  · rename_i c hx
    split at h
    · rename_i m since seen last hT
      split at h
      · rename_i es hM
        split at h
        · rename_i hc
          have mem : ∀ i, i ∈ (List.range es.length).filter (fun i => !seen.contains i) ↔ i < es.length ∧ i ∉ seen := fun i => by simp
          split at h
          · rename_i hl
            injection h with h; injection h with ha hb; subst ha; subst hb
            refine good_same hs fun K hK => aop_next ho hx hT hM hc.1 hc.2.1 (fun _ => hK) (fun i k v hi hn => ?_)
            have := (mem i).2 ⟨(List.getElem?_eq_some_iff.1 hi).1, hn⟩
            rw [hl] at this
            cases this
          · rename_i i hl
            split at h
            · rename_i k v0 hi
              injection h with h; injection h with ha hb; subst ha; subst hb
              refine good_put hs hT hc.2.2 fun K hK => aop_next ho hx hT hM hc.1 hc.2.1 (fun hall => ?_) (fun j k' v' hj hn => ?_)
              · have := (mem i).1 (by rw [hl]; simp)
                exact (this.2 (hall i this.1)).elim
              · have hj' := (mem j).2 ⟨(List.getElem?_eq_some_iff.1 hj).1, hn⟩
                rw [hl] at hj'
                simp at hj'
                subst hj'
                rw [hi] at hj
                injection hj with hj
                injection hj with h1 h2
                subst h1; subst h2
                exact hK
            · cases h
          · cases h
        · cases h
      · cases h
    · cases h
  · cases h
theorem xEntry_sound (hs : s.Ok) {x : Operand} (ho : o.op = .entry x) (h : xEntry s (evV ts x) = some (v, s')) : Good pr s s' (fun K => AOp P o ts s.tb K) v := by
  unfold xEntry at h
  split at h
  · rename_i c hx
    split at h
    · rename_i m since seen last hT
      split at h
      · rename_i es i r hM hr
        split at h
        · rename_i hl
          split at h
          · rename_i k v0 hi
            injection h with h; injection h with ha hb; subst ha; subst hb
            have hseen : seen = r.reverse ++ [i] := by
              have := congrArg List.reverse hr
              simpa using this
            subst hl
            rw [hseen] at hT
            exact good_same hs fun K hK => aop_entry ho hx hT hM hi hK
          · cases h
        · cases h
      · cases h
    · cases h
  · cases h
theorem xMkSl_sound (hI : I.All P) (hs : s.Ok) {t : Nat} {x y : Operand} {e : TypeId × Nat × Nat} {z : Value} (ho : o.op = .makeSlice t x y) (he : look I.sl t = some e) (hz : look I.ze e.1 = some z) (h : xMkSl s e.2.1 e.2.2 (constV z).cells (evV ts x) (evV ts y) = some (v, s')) : Good pr s s' (fun K => AOp P o ts s.tb K) v := by
  unfold xMkSl at h
  split at h
  · rename_i k1 n k2 c hx hy
    split at h
    · rename_i hc
      injection h with h; injection h with ha hb; subst ha; subst hb
      have hzs := List.all_eq_true.1 hI.zs _ (look_mem he)
      simp only [Option.any_eq_true] at hzs
      obtain ⟨z', hz1, hz2⟩ := hzs
      rw [hz] at hz1
      injection hz1 with hz1
      subst hz1
      refine good_new hs fun K hK => aop_makeSlice ho (hI.toOk.sl' he) (hI.ze _ (look_mem hz)) (by simpa using hz2) hx hy hc.1 hc.2.1 hc.2.2.1 hc.2.2.2 fun b hb h0 => ?_
      have := hK b hb h0
      rw [hb] at this ⊢
      exact this
    · cases h
  · cases h
theorem xSl3_sound (hI : I.All P) (hs : s.Ok) {t : Nat} {x hi mx : Operand} {lo : Option Operand} {l : Option Nat} {e : TypeId × Nat × Nat} (ho : o.op = .slice t x lo (some hi) (some mx)) (he : look I.sl t = some e) (hl : ∀ j, l = some j → bndV ts lo 0 = some j) (h : xSl3 s e.2.1 (evV ts x) l (evV ts hi) (evV ts mx) = some (v, s')) : Good pr s s' (fun K => AOp P o ts s.tb K) v := by
  unfold xSl3 at h
  split at h
  · rename_i cells n tok l0 h0 m0 hx hh hm
    split at h
    · rename_i hc
      injection h with h; injection h with ha hb; subst ha; subst hb
      exact good_same hs fun K hK => aop_slice3_sl ho hx (hI.toOk.sl' he) (hl _ rfl) (natOf_bnd hh) (natOf_bnd hm) hc.2.1 hc.2.2.1 hc.2.2.2 hK
    · cases h
  · cases h
theorem xSstr_sound (hI : I.All P) (hs : s.Ok) {t : Nat} {x : Operand} {lo hi : Option Operand} {l h0 : Option Nat} {a : ByteArray} (ht : I.st.contains t = true) (ho : o.op = .slice t x lo hi none) (hx : evV ts x = .lit (.string a)) (hl : ∀ j, l = some j → bndV ts lo 0 = some j) (hh : ∀ j, h0 = some j → bndV ts hi a.size = some j)
    (h : xSstr s (evV ts x) l h0 = some (v, s')) : Good pr s s' (fun K => AOp P o ts s.tb K) v := by
  unfold xSstr at h
  split at h
  · rename_i a' l1 h1 hx'
    rw [hx] at hx'
    injection hx' with hx'
    injection hx' with hx'
    subst hx'
    split at h
    · rename_i hc
      injection h with h; injection h with ha hb; subst ha; subst hb
      refine good_same hs fun K hK => aop_slice_str ho hx (hI.toOk.st' ht) (hl _ rfl) (hh _ rfl) hc.1 (by rw [← bl_size]; exact hc.2) ?_
      rw [ext_str a l1 h1 hc.2] at hK
      exact hK
    · cases h
  · cases h
theorem xstr_lit {x : Operand} {l h0 : Option Nat} (h : xSstr s (evV ts x) l h0 = some (v, s')) : ∃ a, evV ts x = .lit (.string a) := by
  unfold xSstr at h
  split at h
  · rename_i hx; exact ⟨_, hx⟩
  · cases h
theorem xSlnil_sound (hI : I.All P) (hs : s.Ok) {t yt : Nat} {x y : Operand} {e : TypeId × Nat × Nat} {op : BinOp} {b : Bool} (ho : o.op = .binOp op t x y yt) (hop : op = .eql ∧ b = true ∨ op = .neq ∧ b = false) (he : look I.sl t = some e) (h : xSlnil s b (evV ts x) (evV ts y) = some (v, s')) : Good pr s s' (fun K => AOp P o ts s.tb K) v := by
  unfold xSlnil at h
  split at h
  · rename_i hy
    split at h
    · rename_i r hx
      injection h with h; injection h with ha hb; subst ha; subst hb
      refine good_same hs fun K hK => aop_slnil (hop.imp And.left And.left) ho (hI.toOk.sl' he).und hx hy ?_
      rcases hop with ⟨rfl, rfl⟩ | ⟨rfl, rfl⟩
      · exact hK
      · exact hK
    · cases h
  · cases h
theorem xAsrt_sound (hI : I.All P) (hs : s.Ok) {t xT : Nat} {c : Bool} {x : Operand} (ho : o.op = .typeAssert x xT t c) (ht : I.cc.contains t = true) (h : xAsrt s t c (evV ts x) = some (v, s')) : Good pr s s' (fun K => AOp P o ts s.tb K) v := by
  unfold xAsrt at h
  split at h
  · rename_i t' v0 hx
    split at h
    · rename_i e
      subst e
      injection h with h; injection h with ha hb; subst ha; subst hb
      exact good_same hs fun K hK => aop_assert ho (hI.cc' ht) hx hK
    · cases h
  · cases h
theorem xInv_sound (hI : I.All P) (hcf : ∀ f args v s', cf f args s = some (v, s') → Good pr s s' (fun K => ACalls P f args s.tb K) v) {name : String} {r : Operand} {xs : List Operand} {tys : Array TypeId} (ho : o.op = .call { callee := .invoke r name, args := xs.toArray, argTypes := tys })
    (h : xInv cf s (ivOf I name) (evV ts r) (xs.map (evV ts)) = some (v, s')) : Good pr s s' (fun K => AOp P o ts s.tb K) v := by
  unfold xInv at h
  split at h
  · rename_i t v0 hx
    split at h
    · rename_i f hf
      obtain ⟨k1, k2, k3⟩ := hcf _ _ _ _ h
      refine ⟨k1, k2, fun K hK => ?_⟩
      have hm := look_mem hf
      unfold ivOf at hm
      rw [List.mem_filterMap] at hm
      obtain ⟨x, hx1, hx2⟩ := hm
      split at hx2
      · rename_i e
        injection hx2 with hx2
        injection hx2 with e1 e2
        have := List.all_eq_true.1 hI.iv x hx1
        simp only [Bool.and_eq_true] at this
        rw [e1, e, e2] at this
        exact aop_invoke ho hx this.1 this.2 (k3 K hK)
      · cases hx2
    · cases h
  · cases h
theorem xB2s_sound (hI : I.All P) (hs : s.Ok) {src dst : Nat} {e : TypeId} {x : Operand} (ho : o.op = .convert src dst x) (hb : look I.bs src = some e) (hd : I.st.contains dst = true) (h : xB2s s (evV ts x) = some (v, s')) : Good pr s s' (fun K => AOp P o ts s.tb K) v := by
  unfold xB2s at h
  split at h
  · rename_i cells n tok hx
    split at h
    · rename_i hn
      split at h
      · rename_i l hl
        injection h with h; injection h with ha hb'; subst ha; subst hb'
        have h1 := List.all_eq_true.1 hI.bs _ (look_mem hb)
        simp only [Bool.and_eq_true] at h1
        obtain ⟨h1, h2⟩ := h1
        have u1 : P.underlying src = some (.slice e) := by
          split at h1
          · rename_i e' he; simp at h1; subst h1; exact he
          · cases h1
        have u2 : P.underlying e = some (.int .u8) := by
          split at h2
          · rename_i he; exact he
          · cases h2
        exact good_same hs fun K hK => aop_bytesToString ho u1 u2 (hI.toOk.st' hd) hx hn hl hK
      · cases h
    · cases h
  · cases h
theorem xMx_sound (hs : s.Ok) {b : Bool} {x y : Operand} {tys : Array TypeId} (ho : o.op = .call { callee := .builtin (if b then .max else .min), args := #[x, y], argTypes := tys }) (h : xMx s b (evV ts x) (evV ts y) = some (v, s')) : Good pr s s' (fun K => AOp P o ts s.tb K) v := by
  unfold xMx at h
  split at h
  · rename_i k a k' c hx hy
    injection h with h; injection h with ha hb; subst ha; subst hb
    exact good_same hs fun K hK => aop_max ho hx hy hK
  · cases h
theorem xrun_sound (hI : I.All P) (hs : s.Ok) (hcf : ∀ f args v s', cf f args s = some (v, s') → Good pr s s' (fun K => ACalls P f args s.tb K) v) {xo : XOp} {os : List Operand} (hc : xcomp I o.op = some (xo, os)) (h : xrun pr cf s xo (os.map (evV ts)) = some (v, s')) : Good pr s s' (fun K => AOp P o ts s.tb K) v := by
  unfold xcomp at hc
  split at hc
  · rename_i ho
    injection hc with hc; injection hc with ha hb; subst ha; subst hb
    injection h with h; injection h with ha hb; subst ha; subst hb
    refine good_new hs fun K hK => aop_makeMap ho fun b hb h0 => ?_
    have := hK b hb h0
    rw [hb] at this ⊢
    exact this
  · rename_i t r ho
    split at hc
    · rename_i q hm
      injection hc with hc; injection hc with ha hb; subst ha; subst hb
      have h' : (match [evV ts r] with | [.lit (.int _ _)] => some (V.mp s.n, s.new (.map [])) | _ => none) = some (v, s') := h
      split at h'
      · rename_i k n hx
        injection hx with hx _
        injection h' with h'; injection h' with ha hb; subst ha; subst hb
        refine good_new hs fun K hK => aop_makeMapR ho (hI.mt' hm) hx fun b hb h0 => ?_
        have := hK b hb h0
        rw [hb] at this ⊢
        exact this
      · cases h'
    · cases hc
  · rename_i t x y c ho
    split at hc
    · rename_i kt et isStr hm
      split at hc
      · rename_i z hz
        injection hc with hc; injection hc with ha hb; subst ha; subst hb
        exact xLook_sound hs ho (hI.mt' hm) (hI.ze _ (look_mem hz)) h
      · cases hc
    · cases hc
  · rename_i t x y z ho
    split at hc
    · rename_i kt et isStr hm
      injection hc with hc; injection hc with ha hb; subst ha; subst hb
      exact xUpd_sound hs (.inl ho) (hI.mt' hm) h
    · cases hc
  · rename_i t x y z ho
    split at hc
    · rename_i kt et isStr hm
      injection hc with hc; injection hc with ha hb; subst ha; subst hb
      exact xUpd_sound hs (.inr ho) (hI.mt' hm) h
    · cases hc
  · rename_i t x ho
    split at hc
    · rename_i m hm
      injection hc with hc; injection hc with ha hb; subst ha; subst hb
      exact xRng_sound hs ho (hI.mt' hm) h
    · cases hc
  · rename_i x ho
    injection hc with hc; injection hc with ha hb; subst ha; subst hb
    exact xNext_sound hs ho h
  · rename_i x ho
    injection hc with hc; injection hc with ha hb; subst ha; subst hb
    exact xEntry_sound hs ho h
  · rename_i t x y ho
    split at hc
    · rename_i e he
      split at hc
      · rename_i z hz
        injection hc with hc; injection hc with ha hb; subst ha; subst hb
        exact xMkSl_sound hI hs ho he hz h
      · cases hc
    · cases hc
  · rename_i t x hh mm ho
    split at hc
    · rename_i e he
      injection hc with hc; injection hc with ha hb; subst ha; subst hb
      exact xSl3_sound hI hs ho he (fun j hj => by injection hj with hj; subst hj; rfl) h
    · cases hc
  · rename_i t x ll hh mm ho
    split at hc
    · rename_i e he
      injection hc with hc; injection hc with ha hb; subst ha; subst hb
      exact xSl3_sound hI hs ho he (fun j hj => natOf_bnd hj) h
    · cases hc
  · rename_i t x lo hi ho
    split at hc
    · rename_i ht
      injection hc with hc; injection hc with ha hb; subst ha; subst hb
      cases lo with
      | none =>
        cases hi with
        | none =>
          have h' : (match evV ts x with | .lit (.string a) => xSstr s (evV ts x) (some 0) (some (bl a).length) | _ => none) = some (v, s') := h
          split at h'
          · rename_i a hx
            exact xSstr_sound hI hs ht ho hx (fun j hj => by injection hj with hj; subst hj; rfl) (fun j hj => by injection hj with hj; subst hj; rw [bl_size]; rfl) h'
          · cases h'
        | some hi =>
          have h' : xSstr s (evV ts x) (some 0) (natOf (evV ts hi)) = some (v, s') := h
          obtain ⟨a, hx⟩ := xstr_lit h'
          exact xSstr_sound hI hs ht ho hx (fun j hj => by injection hj with hj; subst hj; rfl) (fun j hj => natOf_bnd hj) h'
      | some lo =>
        cases hi with
        | none =>
          have h' : (match evV ts x with | .lit (.string a) => xSstr s (evV ts x) (natOf (evV ts lo)) (some (bl a).length) | _ => none) = some (v, s') := h
          split at h'
          · rename_i a hx
            exact xSstr_sound hI hs ht ho hx (fun j hj => natOf_bnd hj) (fun j hj => by injection hj with hj; subst hj; rw [bl_size]; rfl) h'
          · cases h'
        | some hi =>
          have h' : xSstr s (evV ts x) (natOf (evV ts lo)) (natOf (evV ts hi)) = some (v, s') := h
          obtain ⟨a, hx⟩ := xstr_lit h'
          exact xSstr_sound hI hs ht ho hx (fun j hj => natOf_bnd hj) (fun j hj => natOf_bnd hj) h'
    · cases hc
  · rename_i t x y yt ho
    split at hc
    · rename_i he
      injection hc with hc; injection hc with ha hb; subst ha; subst hb
      obtain ⟨e, he⟩ := Option.isSome_iff_exists.1 he
      exact xSlnil_sound hI hs ho (.inl ⟨rfl, rfl⟩) he h
    · cases hc
  · rename_i t x y yt ho
    split at hc
    · rename_i he
      injection hc with hc; injection hc with ha hb; subst ha; subst hb
      obtain ⟨e, he⟩ := Option.isSome_iff_exists.1 he
      exact xSlnil_sound hI hs ho (.inr ⟨rfl, rfl⟩) he h
    · cases hc
  · rename_i f xs ys ho
    injection hc with hc; injection hc with ha hb; subst ha; subst hb
    have h' : some (V.fn (.func f) (((xs.toList ++ ys.toList).map (evV ts)).take xs.toList.length) (((xs.toList ++ ys.toList).map (evV ts)).drop xs.toList.length), s) = some (v, s') := h
    injection h' with h'
    injection h' with ha hb
    subst ha; subst hb
    have e1 : ((xs.toList ++ ys.toList).map (evV ts)).take xs.toList.length = xs.toList.map (evV ts) := by rw [List.map_append, List.take_append_of_le_length (by simp), List.take_of_length_le (by simp)]
    have e2 : ((xs.toList ++ ys.toList).map (evV ts)).drop xs.toList.length = ys.toList.map (evV ts) := by rw [List.map_append, List.drop_append_of_le_length (by simp), List.drop_eq_nil_of_le (by simp), List.nil_append]
    refine good_same hs fun K hK => aop_makeFunc (xs := xs.toList) (ys := ys.toList) (by simpa using ho) ?_
    rw [e1, e2] at hK
    exact hK
  · rename_i t x ho
    split at hc
    · rename_i ht
      injection hc with hc; injection hc with ha hb; subst ha; subst hb
      injection h with h; injection h with ha hb; subst ha; subst hb
      exact good_same hs fun K hK => aop_makeInterface ho (hI.cc' ht) hK
    · cases hc
  · rename_i x xT t c ho
    split at hc
    · rename_i ht
      injection hc with hc; injection hc with ha hb; subst ha; subst hb
      exact xAsrt_sound hI hs ho ht h
    · cases hc
  · rename_i r name args tys ho
    injection hc with hc; injection hc with ha hb; subst ha; subst hb
    exact xInv_sound hI hcf (xs := args.toList) (by simpa using ho) h
  · rename_i src dst x ho
    split at hc
    · rename_i hb
      injection hc with hc; injection hc with ha hb'; subst ha; subst hb'
      obtain ⟨e, he⟩ := Option.isSome_iff_exists.1 hb.1
      exact xB2s_sound hI hs ho he hb.2 h
    · cases hc
  · rename_i args tys ho
    split at hc
    · rename_i x y hxy
      injection hc with hc; injection hc with ha hb; subst ha; subst hb
      have : args = #[x, y] := by apply Array.ext'; simpa using hxy
      subst this
      exact xMx_sound (b := true) (x := x) (y := y) (tys := tys) hs ho h
    · cases hc
  · rename_i args tys ho
    split at hc
    · rename_i x y hxy
      injection hc with hc; injection hc with ha hb; subst ha; subst hb
      have : args = #[x, y] := by apply Array.ext'; simpa using hxy
      subst this
      exact xMx_sound (b := false) (x := x) (y := y) (tys := tys) hs ho h
    · cases hc
  · cases hc
end
end Go.Ae
