/- A part of the proof: a machine on trees that is sound for the model, its tables, and contracts of functions. Conditions: none. -/
import Derived.Test.YtpookgemmjdgfaaGreatAeH
namespace Go.Ae
open Go.RowKit

/-! ### A reckoner of what is to be shown -/
/-- The key's type. -/
def keyOk (P : Program) (t : TypeId) (isStr : Bool) : Bool :=
  match P.underlying t with
  | some (.int _) => !isStr
  | some .string => isStr
  | _ => false
def mapB (P : Program) (t kt et : TypeId) (isStr : Bool) : Bool :=
  (match P.underlying t with | some (.map k e) => k == kt && e == et | _ => false) && keyOk P kt isStr
def concB (P : Program) (t : TypeId) : Bool := match P.underlying t with | some (.interface _) => false | some _ => true | none => false
def invB (P : Program) (t : TypeId) (name : String) (f : FuncId) : Bool :=
  match P.info? t with
  | some i => (match i.methods.find? (·.name == name) with
    | some m => m.path.isEmpty && (match m.func with | some (g, p) => g == f && (match P.underlying t with | some (.pointer _) => p | some _ => !p | none => false) | none => false)
    | none => false)
  | none => false
structure TI where
  sc : List TypeId                            -- types of one cell
  ag : List (TypeId × Nat)                    -- structs and arrays, and their cells
  fd : List ((TypeId × Nat) × Nat)            -- a struct's fields: where they lie
  sl : List (TypeId × TypeId × Nat × Nat)     -- slices: element, its cells, its bytes
  ar : List (TypeId × Nat × TypeId × Nat)     -- arrays: length, element, its cells
  ik : List (TypeId × IntKind)                -- whole numbers
  st : List TypeId                            -- strings
  ze : List (TypeId × Value)                  -- zeros
  fn : List FuncId                            -- functions with a body
  bo : List TypeId                            -- bools
  pt : List TypeId                            -- pointers
  pl : List (TypeId × List (Nat × Nat))       -- structs' fields: where, and how many cells
  mt : List (TypeId × TypeId × TypeId × Bool) := []   -- maps: key, element, are keys strings
  cc : List TypeId := []                      -- types that are no interface
  iv : List ((TypeId × String) × FuncId) := []  -- methods
  bs : List (TypeId × TypeId) := []           -- slices of bytes

def slB (P : Program) (t e : TypeId) (sz bytes : Nat) : Bool :=
  (match P.underlying t with | some (.slice e') => e' == e | _ => false) && (match P.info? e with | some i => i.size == sz && i.bytes == bytes && (match i.zero with | some z => z.cells.size == sz | none => false) | none => false) && decide (0 < sz)
theorem slB_ty {P : Program} {t e : TypeId} {sz bytes : Nat} (h : slB P t e sz bytes = true) : SlTy P t e sz bytes := by
  unfold slB at h
  simp only [Bool.and_eq_true, decide_eq_true_eq] at h
  obtain ⟨⟨h1, h2⟩, h3⟩ := h
  refine ⟨?_, ?_, h3⟩
  · split at h1
    · rename_i e' he; simp at h1; subst h1; exact he
    · cases h1
  · split at h2
    · rename_i i hi
      simp only [Bool.and_eq_true] at h2
      obtain ⟨⟨h4, h5⟩, h6⟩ := h2
      split at h6
      · rename_i z hz
        simp at h4 h5 h6
        exact ⟨i, z, hi, hz, h4, h5, h6⟩
      · cases h6
    · cases h2

def plB (P : Program) (t : TypeId) (pl : List (Nat × Nat)) : Bool :=
  match P.underlying t with
  | some (.struct fs) => fs.toList.map (fun f => (f.offset, ((P.info? f.type).map (·.size)))) == pl.map fun x => (x.1, some x.2)
  | _ => false
structure TI.Ok (P : Program) (I : TI) : Prop where
  sc : (I.sc.all fun t => scB P t) = true
  ag : (I.ag.all fun x => agB P x.1 && szB P x.1 x.2) = true
  fd : (I.fd.all fun x => fdB P x.1.1 x.1.2 x.2) = true
  sl : (I.sl.all fun x => slB P x.1 x.2.1 x.2.2.1 x.2.2.2) = true
  ar : (I.ar.all fun x => arB P x.1 x.2.1 x.2.2.1 x.2.2.2) = true
  ik : (I.ik.all fun x => inB P x.1 x.1 x.2) = true
  st : (I.st.all fun t => match P.underlying t with | some .string => true | _ => false) = true
  ze : ∀ x, x ∈ I.ze → zeB P x.1 x.2
  fn : (I.fn.all fun f => fnB P f) = true
  bo : (I.bo.all fun t => match P.underlying t with | some .bool => true | _ => false) = true
  pl : (I.pl.all fun x => plB P x.1 x.2) = true
  pt : (I.pt.all fun t => match P.underlying t with | some (.pointer _) => true | _ => false) = true

def look {α : Type} : List (Nat × α) → Nat → Option α
  | [], _ => none
  | (k, v) :: r, n => if k = n then some v else look r n
def look2 {α : Type} : List ((Nat × Nat) × α) → Nat → Nat → Option α
  | [], _, _ => none
  | (k, v) :: r, n, m => if k.1 = n ∧ k.2 = m then some v else look2 r n m
theorem look_mem {α : Type} {l : List (Nat × α)} {n : Nat} {v : α} (h : look l n = some v) : (n, v) ∈ l := by
  induction l with
  | nil => cases h
  | cons x r ih =>
    unfold look at h
    split at h
    · rename_i e; injection h with h; subst h; subst e; exact List.mem_cons_self
    · exact List.mem_cons_of_mem _ (ih h)
theorem look2_mem {α : Type} {l : List ((Nat × Nat) × α)} {n m : Nat} {v : α} (h : look2 l n m = some v) : ((n, m), v) ∈ l := by
  induction l with
  | nil => cases h
  | cons x r ih =>
    obtain ⟨⟨a, b⟩, c⟩ := x
    unfold look2 at h
    split at h
    · rename_i e; obtain ⟨e1, e2⟩ := e; injection h with h; simp only at e1 e2; subst h; subst e1; subst e2; exact List.mem_cons_self
    · exact List.mem_cons_of_mem _ (ih h)

section
variable {P : Program} {I : TI}
theorem TI.Ok.sl' (h : I.Ok P) {t : Nat} {x : TypeId × Nat × Nat} (hl : look I.sl t = some x) : SlTy P t x.1 x.2.1 x.2.2 :=
  slB_ty (by simpa using List.all_eq_true.1 h.sl _ (look_mem hl))
theorem TI.Ok.ag' (h : I.Ok P) {t n : Nat} (hl : look I.ag t = some n) : agB P t = true ∧ szB P t n = true := by
  simpa using List.all_eq_true.1 h.ag _ (look_mem hl)
theorem TI.Ok.fd' (h : I.Ok P) {t f n : Nat} (hl : look2 I.fd t f = some n) : fdB P t f n = true := by
  simpa using List.all_eq_true.1 h.fd _ (look2_mem hl)
theorem TI.Ok.ar' (h : I.Ok P) {t : Nat} {x : Nat × TypeId × Nat} (hl : look I.ar t = some x) : arB P t x.1 x.2.1 x.2.2 = true := by
  simpa using List.all_eq_true.1 h.ar _ (look_mem hl)
theorem TI.Ok.sc' (h : I.Ok P) {t : Nat} (hl : I.sc.contains t = true) : scB P t = true :=
  List.all_eq_true.1 h.sc t (by simpa using hl)
theorem TI.Ok.fn' (h : I.Ok P) {t : Nat} (hl : I.fn.contains t = true) : fnB P t = true :=
  List.all_eq_true.1 h.fn t (by simpa using hl)
theorem TI.Ok.st' (h : I.Ok P) {t : Nat} (hl : I.st.contains t = true) : P.underlying t = some .string := by
  have := List.all_eq_true.1 h.st t (by simpa using hl)
  split at this
  · rename_i e; exact e
  · cases this
theorem TI.Ok.bo' (h : I.Ok P) {t : Nat} (hl : I.bo.contains t = true) : P.underlying t = some .bool := by
  have := List.all_eq_true.1 h.bo t (by simpa using hl)
  split at this
  · rename_i e; exact e
  · cases this
theorem TI.Ok.pt' (h : I.Ok P) {t : Nat} (hl : I.pt.contains t = true) : ∃ e, P.underlying t = some (.pointer e) := by
  have := List.all_eq_true.1 h.pt t (by simpa using hl)
  split at this
  · rename_i e he; exact ⟨e, he⟩
  · cases this
theorem TI.Ok.pl' (h : I.Ok P) {t : Nat} {l : List (Nat × Nat)} (hl : look I.pl t = some l) : plB P t l = true := by
  simpa using List.all_eq_true.1 h.pl _ (look_mem hl)
theorem TI.Ok.ik' (h : I.Ok P) {t : Nat} {k : IntKind} (hl : look I.ik t = some k) : P.underlying t = some (.int k) := by
  have := List.all_eq_true.1 h.ik _ (look_mem hl)
  unfold inB at this
  simp only [Bool.and_eq_true] at this
  have h2 := this.2
  split at h2
  · rename_i k' hk; simp at h2; rw [hk, h2]
  · cases h2
end

/-- Whole numbers. -/
def ibits (op : BinOp) (k : IntKind) (a b : Int) : Int :=
  match op with
  | .and => k.wrap ((BitVec.ofInt k.bits a &&& BitVec.ofInt k.bits b).toNat : Int)
  | .or => k.wrap ((BitVec.ofInt k.bits a ||| BitVec.ofInt k.bits b).toNat : Int)
  | .xor => k.wrap ((BitVec.ofInt k.bits a ^^^ BitVec.ofInt k.bits b).toNat : Int)
  | _ => k.wrap ((BitVec.ofInt k.bits a &&& ~~~BitVec.ofInt k.bits b).toNat : Int)
def shN (k : IntKind) (b : Int) : Nat := min b.toNat k.bits
def ival (op : BinOp) (k : IntKind) (a b : Int) : Value :=
  match op with
  | .add => .int k (k.wrap (a + b))
  | .sub => .int k (k.wrap (a - b))
  | .mul => .int k (k.wrap (a * b))
  | .quo => .int k (k.wrap (a.tdiv b))
  | .rem => .int k (a.tmod b)
  | .shl => .int k (k.wrap (a * 2 ^ shN k b))
  | .shr => .int k (a.fdiv (2 ^ shN k b))
  | .eql => .bool (a == b)
  | .neq => .bool (a != b)
  | .lss => .bool (a < b)
  | .leq => .bool (a ≤ b)
  | .gtr => .bool (a > b)
  | .geq => .bool (a ≥ b)
  | op => .int k (ibits op k a b)
def iok (op : BinOp) (k k' : IntKind) (b : Int) : Prop :=
  match op with
  | .quo | .rem => k = k' ∧ b ≠ 0
  | .shl | .shr => 0 ≤ b
  | _ => k = k'
theorem ival_flat (op : BinOp) (k : IntKind) (a b : Int) : Value.flat (ival op k a b) = true := by cases op <;> rfl
theorem bin_int (op : BinOp) (t : TypeId) (k k' : IntKind) (a b : Int) (h : iok op k k' b) : Go.binOp op t (.int k a) (.int k' b) = pure (ival op k a b) := by
  cases op <;> simp only [iok] at h <;> first
    | (subst h; simp [Go.binOp, Op.intArith, Op.intBits, Op.intCmp, ival, ibits]; done)
    | (obtain ⟨rfl, h⟩ := h; simp [Go.binOp, Op.intDiv, ival, h]; done)
    | (have h' : ¬ b < 0 := by omega
       simp [Go.binOp, Op.shift, ival, shN, h']; done)
theorem guard_int (op : BinOp) (t : TypeId) (x y : Operand) (k k' : IntKind) (a b : Int) : eqGuard op t x y (.int k a) (.int k' b) = pure () := by
  cases op <;> rfl
end Go.Ae
