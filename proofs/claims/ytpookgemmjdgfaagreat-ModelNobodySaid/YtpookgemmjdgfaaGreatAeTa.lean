/- A part of the proof: a machine on trees that is sound for the model, its tables, and contracts of functions. Conditions: none. -/
import Derived.Test.YtpookgemmjdgfaaGreatAeT
namespace Go.Ae
open Go.RowKit
noncomputable section

/-! ### Instructions: operations whose types' facts are looked up beforehand -/
inductive Src where
  | tmp (i : Nat)
  | k (v : V)
def Src.of : Operand → Src
  | .tmp i => .tmp i
  | .const v => .k (constV v)
  | .global _ => .k .any
  | .func f => .k (.fn (.func f) [] [])
def Src.ev (e : Env) (x : Src) : V := Src.rec (fun i => e.at i) (fun v => v) x
theorem Src.ev_of {e : Env} (h : e.Ok) (x : Operand) : evV e.toL x = (Src.of x).ev e := by
  cases x with
  | tmp i => exact Env.ev_tmp h i
  | const v => rfl
  | global g => rfl
  | func f => rfl
inductive IOp where
  | mv (x : Src)
  | pick (c x y : Src)
  | ext (x : Src) (i : Nat)
  | bin (op : BinOp) (b p : Bool) (x y : Src)
  | un (op : UnOp) (x : Src)
  | conv (k : IntKind) (x : Src)
  | ld (sc : Bool) (n : Nat) (x : Src)
  | st (n : Nat) (x y : Src)
  | al (cells : List V)
  | bx (x : Src)
  | fld (off : Nat) (x : Src)
  | ixs (sz : Nat) (x y : Src)
  | ixa (len sz : Nat) (x y : Src)
  | ix (x y : Src)
  | nl (x : Src)
  | sli (sz : Nat) (x : Src) (lo hi : Option Src)
  | bld (pl : List (Nat × Nat)) (z : List V) (ps : List (Nat × Src))
  | bsl1 (sz : Nat) (x : Src)
  | bsl0
  | bsl (sz n : Nat) (z : List V) (ps : List (Nat × Src))
  | len (sl st : Bool) (x : Src)
  | app (sz bytes : Nat) (x y : Src)
  | call (g : Src) (xs : List Src)
  | xo (o : XOp) (xs : List Src)
  | bad
section
variable (e : Env)
def fBin (b p : Bool) (op : BinOp) (x y : V) : Option V :=
  match x, y with
  | .lit (.int k a), .lit (.int k' c) => if iokB op k k' c then some (.lit (ival op k a c)) else none
  | .lit (.bool a), .lit (.bool c) => if b then (match op with | .eql => some (.lit (.bool (a == c))) | .neq => some (.lit (.bool (!(a == c)))) | _ => none) else none
  | .lit (.string a), .lit (.string c) =>
    match op with
    | .eql => some (.lit (.bool (bl a == bl c)))
    | .neq => some (.lit (.bool (!(bl a == bl c))))
    | .lss => some (.lit (.bool (Op.bytesLess (bl a) (bl c))))
    | .add => if (bl a).length + (bl c).length ≤ 9223372036854775807 then some (.lit (.string ⟨(bl a ++ bl c).toArray⟩)) else none
    | _ => none
  | .ptr _ _, .lit (.pointer none) => if p then (match op with | .eql => some (.lit (.bool false)) | .neq => some (.lit (.bool true)) | _ => none) else none
  | .lit (.pointer none), .lit (.pointer none) => if p then (match op with | .eql => some (.lit (.bool true)) | .neq => some (.lit (.bool false)) | _ => none) else none
  | _, _ => none
def fUn (op : UnOp) (x : V) : Option V :=
  match op, x with
  | .not, .lit (.bool b) => some (.lit (.bool (!b)))
  | .neg, .lit (.int k n) => some (.lit (.int k (k.wrap (0 - n))))
  | .xor, .lit (.int k n) => some (.lit (.int k (ibits .xor k (if k.signed then -1 else k.max) n)))
  | _, _ => none
def fConv (k : IntKind) (x : V) : Option V := match x with | .lit (.int _ n) => some (.lit (.int k (k.wrap n))) | _ => none
def fRead (sc : Bool) (n : Nat) (cells : List V) (off : Nat) : Option V :=
  if sc then cells[off]? else if off + n ≤ cells.length then some (.agg ((cells.drop off).take n)) else none
def fLoad (rd : Nat → Option AObj) (sc : Bool) (n : Nat) (x : V) : Option V :=
  match x with
  | .ep cells off => fRead sc n cells off
  | .ptr b off => (match rd b with | some (.cells cs) => fRead sc n cs off | _ => none)
  | _ => none
def fField (fo : Nat) (x : V) : Option V :=
  match x with
  | .ep cells off => some (.ep cells (off + fo))
  | .ptr b off => some (.ptr b (off + fo))
  | _ => none
def fIxs (sz : Nat) (x y : V) : Option V :=
  match x, y with
  | .sl cells n _, .lit (.int _ j) => if 0 ≤ j ∧ j < n then some (.ep cells (j.toNat * sz)) else none
  | .ms b off n _, .lit (.int _ j) => if 0 ≤ j ∧ j < n then some (.ptr b (off + j.toNat * sz)) else none
  | _, _ => none
def fIxa (len sz : Nat) (x y : V) : Option V :=
  match x, y with
  | .ptr b off, .lit (.int _ j) => if 0 ≤ j ∧ j < len then some (.ptr b (off + j.toNat * sz)) else none
  | .ep cells off, .lit (.int _ j) => if 0 ≤ j ∧ j < len then some (.ep cells (off + j.toNat * sz)) else none
  | _, _ => none
def fIx (x y : V) : Option V :=
  match x, y with
  | .lit (.string s), .lit (.int _ j) => if 0 ≤ j then (match (bl s)[j.toNat]? with | some c => some (.lit (.int .u8 c.toNat)) | none => none) else none
  | _, _ => none
def fNil (x : V) : Option V :=
  match x with
  | .ptr b off => some (.ptr b off)
  | .ep cells off => some (.ep cells off)
  | .fn (.func f) xs ys => some (.fn (.func f) xs ys)
  | _ => none
def fBnd (x : Option V) (d : Nat) : Option Nat :=
  match x with
  | none => some d
  | some v => (match v with | .lit (.int _ j) => if 0 ≤ j then some j.toNat else none | _ => none)
def fSlice (sz : Nat) (x : V) (lo hi : Option V) : Option V :=
  match x with
  | .sl cells n _ => (match fBnd lo 0, fBnd hi n with
      | some l, some h => if cells.length = n * sz ∧ l ≤ h ∧ h ≤ n then some (.sl ((cells.drop (l * sz)).take ((h - l) * sz)) (h - l) .no) else none
      | _, _ => none)
  | .ms b off n ex => (match fBnd lo 0, fBnd hi n with
      | some l, some h => if l ≤ h ∧ h ≤ n ∧ (l < n ∨ l = 0) then some (.ms b (off + l * sz) (h - l) (ex && h == n)) else none
      | _, _ => none)
  | _ => none
def fBuild (pl : List (Nat × Nat)) (z : List V) (ps : List (Nat × V)) : Option V :=
  if ps.all fun p => p.2.okc then (match vfill (pl[·]?) z ps with | some cells => some (.agg cells) | none => none) else none
def fBsl1 (sz : Nat) (x : V) : Option V := if x.okc = true ∧ x.cells.length = sz ∧ sz ≤ 16777216 then some (.sl x.er.cells 1 .exact) else none
def fBsl (sz n : Nat) (z : List V) (ps : List (Nat × V)) : Option V :=
  if 0 < n ∧ n * sz ≤ 16777216 ∧ (ps.all fun p => p.2.okc) = true then (match vfill (fun i => some (i * sz, sz)) ((List.range (n * sz)).map fun j => (z.getD (j % sz) .any)) ps with | some cells => some (.sl cells n .exact) | none => none) else none
def fLen (sl st : Bool) (x : V) : Option V :=
  match x with
  | .sl _ n _ => if sl then some (.lit (.int .i64 n)) else none
  | .ms _ _ n _ => if sl then some (.lit (.int .i64 n)) else none
  | .lit (.string s) => if st then some (.lit (.int .i64 (bl s).length)) else none
  | _ => none
def fRd (e : Env) (rd : Nat → Option AObj) (i : IOp) : Option V :=
  match i with
  | .mv x => some (x.ev e)
  | .pick c x y => (match c.ev e with | .lit (.bool b) => some (if b then x.ev e else y.ev e) | _ => none)
  | .ext x i => (match x.ev e with | .tup vs => vs[i]? | _ => none)
  | .bin op b p x y => fBin b p op (x.ev e) (y.ev e)
  | .un op x => fUn op (x.ev e)
  | .conv k x => fConv k (x.ev e)
  | .ld sc n x => fLoad rd sc n (x.ev e)
  | .fld off x => fField off (x.ev e)
  | .ixs sz x y => fIxs sz (x.ev e) (y.ev e)
  | .ixa l sz x y => fIxa l sz (x.ev e) (y.ev e)
  | .ix x y => fIx (x.ev e) (y.ev e)
  | .nl x => fNil (x.ev e)
  | .sli sz x lo hi => fSlice sz (x.ev e) (lo.map (Src.ev e)) (hi.map (Src.ev e))
  | .bld pl z ps => fBuild pl z (ps.map fun p => (p.1, p.2.ev e))
  | .bsl1 sz x => fBsl1 sz (x.ev e)
  | .bsl0 => some (.sl [] 0 .exact)
  | .bsl sz n z ps => fBsl sz n z (ps.map fun p => (p.1, p.2.ev e))
  | .len sl st x => fLen sl st (x.ev e)
  | _ => none
/-- The instruction of an operation. -/
def comp (I : TI) (o : Op) : Option IOp :=
  match o with
  | .move x | .assign x => some (.mv (.of x))
  | .pick c x y => some (.pick (.of c) (.of x) (.of y))
  | .extract x i => some (.ext (.of x) i)
  | .binOp op t x y _ => some (.bin op (I.bo.contains t) (I.pt.contains t) (.of x) (.of y))
  | .unOp op _ x => some (.un op (.of x))
  | .convert src dst x => (match look I.ik src, look I.ik dst with | some _, some k => some (.conv k (.of x)) | _, _ => none)
  | .load t x => if I.sc.contains t then some (.ld true 0 (.of x)) else (match look I.ag t with | some n => some (.ld false n (.of x)) | none => none)
  | .store t x y => (match szV I t with | some n => some (.st n (.of x) (.of y)) | none => none)
  | .alloc t => (match look I.ze t with | some z => some (.al (constV z).cells) | none => none)
  | .box _ x => some (.bx (.of x))
  | .fieldAddr s x f => (match look2 I.fd s f with | some fo => some (.fld fo (.of x)) | none => none)
  | .indexAddr t x y => (match look I.sl t, look I.ar t with
    | some e, none => some (.ixs e.2.1 (.of x) (.of y))
    | none, some e => some (.ixa e.1 e.2.2 (.of x) (.of y))
    | _, _ => none)
  | .index t x y => if I.st.contains t then some (.ix (.of x) (.of y)) else none
  | .nilCheck x => some (.nl (.of x))
  | .slice t x lo hi none => (match look I.sl t with | some e => some (.sli e.2.1 (.of x) (lo.map .of) (hi.map .of)) | none => none)
  | .build t ps => (match look I.pl t, look I.ze t with | some pl, some z => some (.bld pl (constV z).cells (ps.toList.map fun p => (p.1, .of p.2))) | _, _ => none)
  | .buildSlice t n ps => (match look I.sl t with
    | none => none
    | some e =>
      match ps.toList with
      | [(0, x)] => if n = 1 then some (.bsl1 e.2.1 (.of x)) else none
      | [] => if n = 0 then some .bsl0 else none
      | _ => (match look I.ze e.1 with | some z => some (.bsl e.2.1 n (constV z).cells (ps.toList.map fun p => (p.1, .of p.2))) | none => none))
  | .call { callee := .builtin .len, args, argTypes } => (match args.toList, argTypes.toList with | [x], [t] => some (.len (look I.sl t).isSome (I.st.contains t) (.of x)) | _, _ => none)
  | .call { callee := .builtin .append, args, argTypes } => (match args.toList, argTypes.toList with | [x, y], [t, t'] => if t = t' then (match look I.sl t with | some e => some (.app e.2.1 e.2.2 (.of x) (.of y)) | none => none) else none | _, _ => none)
  | .call { callee := .value g, args, .. } => some (.call (.of g) (args.toList.map .of))
  | _ => none
end
end
end Go.Ae
