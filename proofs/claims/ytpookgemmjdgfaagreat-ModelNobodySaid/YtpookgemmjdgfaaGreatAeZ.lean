/- A part of the proof: a machine on trees that is sound for the model, its tables, and contracts of functions. Conditions: none. -/
import Derived.Test.YtpookgemmjdgfaaGreatAeU
namespace Go.Ae
open Go.RowKit

/-! ### A machine for what is told whole: the heap is a list of objects, the newest first -/
structure Hp where
  n : Nat
  l : List (Option AObj)
def Hp.at (s : Hp) (b : Nat) : Option AObj := if b < s.n then (s.l[s.n - 1 - b]?).join else none
def Hp.tb (s : Hp) : Tb := ⟨s.at, s.n⟩
def Hp.new (s : Hp) (o : AObj) : Hp := ⟨s.n + 1, some o :: s.l⟩
def Hp.put (s : Hp) (b : Nat) (o : Option AObj) : Hp := ⟨s.n, s.l.set (s.n - 1 - b) o⟩
def Hp.Ok (s : Hp) : Prop := s.l.length = s.n
theorem Tb.ext' {T T' : Tb} (h1 : ∀ b, T b = T' b) (h2 : T.lim = T'.lim) : T = T' := by
  cases T; cases T'
  simp only at h2
  subst h2
  congr 1
  exact funext h1
theorem Hp.new_ok {s : Hp} (h : s.Ok) (o : AObj) : (s.new o).Ok := by unfold Hp.Ok Hp.new at *; simp [h]
theorem Hp.put_ok {s : Hp} (h : s.Ok) (b : Nat) (o : Option AObj) : (s.put b o).Ok := by unfold Hp.Ok Hp.put at *; simp [h]
theorem Hp.new_at (s : Hp) (o : AObj) (b : Nat) : (s.new o).at b = if b = s.n then some o else s.at b := by
  unfold Hp.at Hp.new
  simp only
  by_cases h : b = s.n
  · subst h; simp
  · rw [if_neg h]
    by_cases h2 : b < s.n
    · rw [if_pos (by omega), if_pos h2, show s.n + 1 - 1 - b = (s.n - 1 - b) + 1 by omega, List.getElem?_cons_succ]
    · rw [if_neg (by omega), if_neg h2]
theorem Hp.put_at {s : Hp} (hs : s.Ok) {b : Nat} (hb : b < s.n) (o : Option AObj) (x : Nat) : (s.put b o).at x = if x = b then o else s.at x := by
  unfold Hp.at Hp.put
  simp only
  unfold Hp.Ok at hs
  by_cases h2 : x < s.n
  · rw [if_pos h2, if_pos h2, List.getElem?_set]
    by_cases h : x = b
    · subst h; rw [if_pos rfl, if_pos rfl, if_pos (by omega)]; rfl
    · rw [if_neg (by omega), if_neg h]
  · rw [if_neg h2, if_neg h2, if_neg (by omega)]
theorem Hp.new_tb (s : Hp) (o : AObj) : (s.new o).tb = s.tb.set s.n o :=
  Tb.ext' (fun b => (s.new_at o b)) (show s.n + 1 = max s.n (s.n + 1) by omega)
theorem Hp.put_tb {s : Hp} (hs : s.Ok) {b : Nat} (hb : b < s.n) (o : AObj) : (s.put b (some o)).tb = s.tb.set b o :=
  Tb.ext' (fun x => Hp.put_at hs hb _ x) (show s.n = max s.n (b + 1) by omega)
theorem Hp.del_tb {s : Hp} (hs : s.Ok) {b : Nat} (hb : b < s.n) : (s.put b none).tb = s.tb.del b :=
  Tb.ext' (fun x => Hp.put_at hs hb _ x) rfl
theorem Hp.at_lt {s : Hp} {b : Nat} {o : AObj} (h : s.at b = some o) : b < s.n := by
  unfold Hp.at at h
  split at h
  · assumption
  · cases h
/-- What is protected stays. -/
def Hp.Le (pr : List Nat) (s s' : Hp) : Prop := s.n ≤ s'.n ∧ ∀ b, b ∈ pr → b < s.n → s'.at b = s.at b
theorem Hp.Le.refl (pr : List Nat) (s : Hp) : Hp.Le pr s s := ⟨Nat.le_refl _, fun _ _ _ => rfl⟩
theorem Hp.Le.trans {pr : List Nat} {s s' s'' : Hp} (h : Hp.Le pr s s') (k : Hp.Le pr s' s'') : Hp.Le pr s s'' :=
  ⟨Nat.le_trans h.1 k.1, fun b hb hl => (k.2 b hb (Nat.lt_of_lt_of_le hl h.1)).trans (h.2 b hb hl)⟩
theorem Hp.Le.sub {pr pr' : List Nat} {s s' : Hp} (hs : ∀ b, b ∈ pr' → b ∈ pr) (h : Hp.Le pr s s') : Hp.Le pr' s s' := ⟨h.1, fun b hb => h.2 b (hs b hb)⟩
theorem Hp.Le.new (pr : List Nat) (s : Hp) (o : AObj) : Hp.Le pr s (s.new o) := ⟨Nat.le_succ _, fun b _ hl => by rw [Hp.new_at, if_neg (by omega)]⟩
theorem Hp.Le.put {pr : List Nat} {s : Hp} (hs : s.Ok) {b : Nat} (hb : b < s.n) (hp : pr.contains b = false) (o : Option AObj) : Hp.Le pr s (s.put b o) :=
  ⟨Nat.le_refl _, fun x hx _ => by
    rw [Hp.put_at hs hb, if_neg]
    intro e
    subst e
    simp at hp
    exact hp hx⟩

/-! ### Operations that only read -/
def bl (a : ByteArray) : List UInt8 := a.data.toList
section
variable (I : TI) (rd : Nat → Option AObj) (ts : List V)
def iokB (op : BinOp) (k k' : IntKind) (b : Int) : Bool :=
  match op with
  | .quo | .rem => k == k' && b != 0
  | .shl | .shr => decide (0 ≤ b)
  | _ => k == k'
def eBin (op : BinOp) (t : TypeId) (x y : Operand) : Option V :=
  match evV ts x, evV ts y with
  | .lit (.int k a), .lit (.int k' b) => if iokB op k k' b then some (.lit (ival op k a b)) else none
  | .lit (.bool a), .lit (.bool b) => if I.bo.contains t then (match op with | .eql => some (.lit (.bool (a == b))) | .neq => some (.lit (.bool (!(a == b)))) | _ => none) else none
  | .lit (.string a), .lit (.string b) =>
    match op with
    | .eql => some (.lit (.bool (bl a == bl b)))
    | .neq => some (.lit (.bool (!(bl a == bl b))))
    | .lss => some (.lit (.bool (Op.bytesLess (bl a) (bl b))))
    | .add => if (bl a).length + (bl b).length ≤ 9223372036854775807 then some (.lit (.string ⟨(bl a ++ bl b).toArray⟩)) else none
    | _ => none
  | .ptr _ _, .lit (.pointer none) => if I.pt.contains t then (match op with | .eql => some (.lit (.bool false)) | .neq => some (.lit (.bool true)) | _ => none) else none
  | .lit (.pointer none), .lit (.pointer none) => if I.pt.contains t then (match op with | .eql => some (.lit (.bool true)) | .neq => some (.lit (.bool false)) | _ => none) else none
  | _, _ => none
def eUn (op : UnOp) (x : Operand) : Option V :=
  match op, evV ts x with
  | .not, .lit (.bool b) => some (.lit (.bool (!b)))
  | .neg, .lit (.int k n) => some (.lit (.int k (k.wrap (0 - n))))
  | .xor, .lit (.int k n) => some (.lit (.int k (ibits .xor k (if k.signed then -1 else k.max) n)))
  | _, _ => none
def eConv (src dst : TypeId) (x : Operand) : Option V :=
  match evV ts x, look I.ik src, look I.ik dst with
  | .lit (.int _ n), some _, some k => some (.lit (.int k (k.wrap n)))
  | _, _, _ => none
def eRead (t : TypeId) (cells : List V) (off : Nat) : Option V :=
  if I.sc.contains t then cells[off]?
  else match look I.ag t with
    | some n => if off + n ≤ cells.length then some (.agg ((cells.drop off).take n)) else none
    | none => none
def eLoad (t : TypeId) (x : Operand) : Option V :=
  match evV ts x with
  | .ep cells off => eRead I t cells off
  | .ptr b off => (match rd b with | some (.cells cs) => eRead I t cs off | _ => none)
  | _ => none
def eField (s : TypeId) (x : Operand) (f : Nat) : Option V :=
  match evV ts x, look2 I.fd s f with
  | .ep cells off, some fo => some (.ep cells (off + fo))
  | .ptr b off, some fo => some (.ptr b (off + fo))
  | _, _ => none
def eIndexAddr (t : TypeId) (x y : Operand) : Option V :=
  match evV ts x, evV ts y with
  | .sl cells n _, .lit (.int _ j) => (match look I.sl t with | some e => if 0 ≤ j ∧ j < n then some (.ep cells (j.toNat * e.2.1)) else none | none => none)
  | .ms b off n _, .lit (.int _ j) => (match look I.sl t with | some e => if 0 ≤ j ∧ j < n then some (.ptr b (off + j.toNat * e.2.1)) else none | none => none)
  | .ptr b off, .lit (.int _ j) => (match look I.ar t with | some e => if 0 ≤ j ∧ j < e.1 then some (.ptr b (off + j.toNat * e.2.2)) else none | none => none)
  | .ep cells off, .lit (.int _ j) => (match look I.ar t with | some e => if 0 ≤ j ∧ j < e.1 then some (.ep cells (off + j.toNat * e.2.2)) else none | none => none)
  | _, _ => none
def eIndex (t : TypeId) (x y : Operand) : Option V :=
  match evV ts x, evV ts y with
  | .lit (.string s), .lit (.int _ j) => if I.st.contains t = true ∧ 0 ≤ j then (match (bl s)[j.toNat]? with | some c => some (.lit (.int .u8 c.toNat)) | none => none) else none
  | _, _ => none
def eNil (x : Operand) : Option V :=
  match evV ts x with
  | .ptr b off => some (.ptr b off)
  | .ep cells off => some (.ep cells off)
  | .fn (.func f) xs ys => some (.fn (.func f) xs ys)
  | _ => none
def eSlice (t : TypeId) (x : Operand) (lo hi mx : Option Operand) : Option V :=
  match evV ts x, mx with
  | .sl cells n _, none => (match look I.sl t with
    | some e => (match bndV ts lo 0, bndV ts hi n with
      | some l, some h => if cells.length = n * e.2.1 ∧ l ≤ h ∧ h ≤ n then some (.sl ((cells.drop (l * e.2.1)).take ((h - l) * e.2.1)) (h - l) .no) else none
      | _, _ => none)
    | none => none)
  | .ms b off n ex, none => (match look I.sl t with
    | some e => (match bndV ts lo 0, bndV ts hi n with
      | some l, some h => if l ≤ h ∧ h ≤ n ∧ (l < n ∨ l = 0) then some (.ms b (off + l * e.2.1) (h - l) (ex && h == n)) else none
      | _, _ => none)
    | none => none)
  | _, _ => none
def eBuild (t : TypeId) (ps : List (Nat × Operand)) : Option V :=
  match look I.pl t, look I.ze t with
  | some pl, some z => if ps.all fun p => (evV ts p.2).okc then (match vfill (pl[·]?) (constV z).cells (ps.map fun p => (p.1, evV ts p.2)) with | some cells => some (.agg cells) | none => none) else none
  | _, _ => none
def eBuildSlice (t : TypeId) (n : Nat) (ps : List (Nat × Operand)) : Option V :=
  match look I.sl t with
  | none => none
  | some e =>
    match ps with
    | [(0, x)] => if n = 1 then (if (evV ts x).okc = true ∧ (evV ts x).cells.length = e.2.1 ∧ e.2.1 ≤ 16777216 then some (.sl (evV ts x).er.cells 1 .exact) else none) else none
    | [] => if n = 0 then some (.sl [] 0 .exact) else none
    | _ =>
      match look I.ze e.1 with
      | some z => if 0 < n ∧ n * e.2.1 ≤ 16777216 ∧ (ps.all fun p => (evV ts p.2).okc) = true then (match vfill (fun i => some (i * e.2.1, e.2.1)) ((List.range (n * e.2.1)).map fun j => ((constV z).cells.getD (j % e.2.1) .any)) (ps.map fun p => (p.1, evV ts p.2)) with | some cells => some (.sl cells n .exact) | none => none) else none
      | none => none
def eLen (t : TypeId) (x : Operand) : Option V :=
  match evV ts x with
  | .sl _ n _ => if (look I.sl t).isSome then some (.lit (.int .i64 n)) else none
  | .ms _ _ n _ => if (look I.sl t).isSome then some (.lit (.int .i64 n)) else none
  | .lit (.string s) => if I.st.contains t then some (.lit (.int .i64 (bl s).length)) else none
  | _ => none
def eRd (o : Oper) : Option V :=
  match o.op with
  | .move x | .assign x => some (evV ts x)
  | .pick c x y => (match evV ts c with | .lit (.bool b) => some (if b then evV ts x else evV ts y) | _ => none)
  | .extract x i => (match evV ts x with | .tup vs => vs[i]? | _ => none)
  | .binOp op t x y _ => eBin I ts op t x y
  | .unOp op _ x => eUn ts op x
  | .convert src dst x => eConv I ts src dst x
  | .load t x => eLoad I rd ts t x
  | .fieldAddr s x f => eField I ts s x f
  | .indexAddr t x y => eIndexAddr I ts t x y
  | .index t x y => eIndex I ts t x y
  | .nilCheck x => eNil ts x
  | .slice t x lo hi mx => eSlice I ts t x lo hi mx
  | .buildSlice t n ps => eBuildSlice I ts t n ps.toList
  | .build t ps => eBuild I ts t ps.toList
  | .call { callee := .builtin .len, args, argTypes } => (match args.toList, argTypes.toList with | [x], [t] => eLen I ts t x | _, _ => none)
  | _ => none
end
end Go.Ae
