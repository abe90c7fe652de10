/- A part of the proof: a machine on trees that is sound for the model, its tables, and contracts of functions. Conditions: none. -/
import Derived.Test.YtpookgemmjdgfaaGreatAeTg
namespace Go.Ae
open Go.RowKit
noncomputable section

/-! ### Code of instructions -/
inductive ICode where
  | row (ls : List ILine)
  | draw (ld : Bool) (rs : List Nat) (fl : List (Bool × Bool × ILine))
  | seq (x y : ICode)
  | blk (id : Nat) (c : ICode)
  | loop (c : ICode)
  | cond (c : Src) (x y : ICode)
  | ret
  | skip
  | exit (id : Nat)
  | bad
inductive IRes where
  | tmp (x : Src)
  | cell (x : Src) (sc : Bool) (n : Nat)
structure FnI where
  c : ICode
  rs : List IRes
  n : Nat
/-- Does an instruction read the heap? -/
def IOp.isLd : IOp → Bool
  | .ld _ _ _ => true
  | _ => false
/-- Where the addresses come from that the first takes read at (a guess: nothing rests on it). -/
def rootOf (fl : List (Bool × Bool × ILine)) : Nat → Nat → Option Nat
  | 0, _ => none
  | k + 1, i =>
    match fl.find? (fun x => x.2.2.d == some i) with
    | none => some i
    | some x =>
      match x.2.2.i with
      | .mv (.tmp j) => rootOf fl k j
      | .nl (.tmp j) => rootOf fl k j
      | .fld _ (.tmp j) => rootOf fl k j
      | _ => none
def rootsOf (fl : List (Bool × Bool × ILine)) : List Nat := fl.filterMap fun x => if x.1 then (match x.2.2.i with | .ld _ _ (.tmp i) => rootOf fl 20 i | _ => none) else none
def compC (I : TI) (D : Nat → Option (List (Nat × Bool) × List Nat)) (n : Nat) : Code → Option ICode
  | .region id ops draw =>
    if draw then
      match D id with
      | none => some .bad
      | some (ord, L) =>
        if ordOk ops L ord (Array.replicate ops.size false) = true ∧ ord.length ≤ ops.size then
          match compDs I n ops L ord with
          | some fl => some (.draw (fl.any fun x => x.1 && x.2.2.i.isLd) (rootsOf fl) fl)
          | none => some .bad
        else some .bad
    else match compLs I n ops ops.toList with | some ls => some (.row ls) | none => none
  | .seq x y => (match compC I D n x, compC I D n y with | some a, some b => some (.seq a b) | _, _ => none)
  | .block id c => (match compC I D n c with | some a => some (.blk id a) | none => none)
  | .loop c => (match compC I D n c with | some a => some (.loop a) | none => none)
  | .cond c x y => (match compC I D n x, compC I D n y with | some a, some b => some (.cond (.of c) a b) | _, _ => none)
  | .ret => some .ret
  | .skip => some .skip
  | .exit id => some (.exit id)
  | _ => some .bad
/-- Which labels the first takes look at (a guess: nothing rests on it). -/
def fBases (fl : List (Bool × Bool × ILine)) : Env → Hp → List Nat :=
  List.rec (fun _ _ => []) (fun x _ ih e s =>
    match x.1 with
    | false => ih e s
    | true =>
      match fgstep x.2.2.g ((fRd e s.at x.2.2.i).map fun v => (v, s)) e s with
      | some (v, _) =>
        (match x.2.2.i with
        | .ld _ _ y => (match y.ev e with | .ptr b _ => b :: ih (e.putO x.2.2.d v) s | _ => ih (e.putO x.2.2.d v) s)
        | _ => ih (e.putO x.2.2.d v) s)
      | none => ih e s) fl
def fBase (rs : List Nat) (fl : List (Bool × Bool × ILine)) (e : Env) (s : Hp) : List Nat := (rs.filterMap fun i => match e.at i with | .ptr b _ => some b | _ => none) ++ fBases fl e s
def fRnds (body : Env → Hp → Option (Exit × Env × Hp)) (N : Nat) : Env → Hp → Option (Exit × Env × Hp) :=
  Nat.rec (fun _ _ => none) (fun _ ih e s =>
    match body e s with
    | none => none
    | some (x, e', s') => (match x with | .normal => ih e' s' | x => some (x, e', s'))) N
def fRes (e : Env) (s : Hp) : IRes → Option V
  | .tmp x => some (x.ev e)
  | .cell x sc n => (match x.ev e with | .ptr b off => (match s.at b with | some (.cells cs) => fRead sc n cs off | _ => none) | _ => none)
def fRess (e : Env) (s : Hp) (rs : List IRes) : Option (List V) :=
  List.rec (some []) (fun r _ ih => match fRes e s r, ih with | some v, some vs => some (v :: vs) | _, _ => none) rs
/-- The first slots. -/
def Env.args (n : Nat) (vs : List V) : Env := ⟨n, List.rec (fun _ t => t) (fun v _ ih i t => ih (i + 1) (t.set v i)) vs 0 .nil⟩
def fCallF (F : Tr FnI) (M : FuncId → List V → Option V) (rn : List Nat → ICode → Env → Hp → Option (Exit × Env × Hp)) (pr : List Nat) (f : FuncId) (args : List V) (s : Hp) : Option (V × Hp) :=
  match M f args with
  | some v => some (v, s)
  | none =>
    match F.get f with
    | none => none
    | some fi =>
      if args.length ≤ fi.n then
        match rn pr fi.c (Env.args fi.n args) s with
        | none => none
        | some (x, e', s') =>
          match x with
          | .normal | .ret => (match fRess e' s' fi.rs with | some vs => some (oneV vs, s') | none => none)
          | _ => none
      else none
def frun (F : Tr FnI) (M : FuncId → List V → Option V) (N : Nat) (k : Nat) : List Nat → ICode → Env → Hp → Option (Exit × Env × Hp) :=
  Nat.rec (fun _ _ _ _ => none) (fun _ ih pr c e s =>
    match c with
    | .row ls => (match fOps pr (fCallF F M ih pr) ls e s with | some (e', s') => some (.normal, e', s') | none => none)
    | .draw ld rs fl =>
      if ld then
        (if (fBase rs fl e s).all (fun b => decide (b < s.n)) = true then
          (match fD pr (fBase rs fl e s) (fCallF F M ih) fl false e s with | some (e', s') => some (.normal, e', s') | none => none)
        else none)
      else (match fD pr [] (fCallF F M ih) fl false e s with | some (e', s') => some (.normal, e', s') | none => none)
    | .seq x y => (match ih pr x e s with | none => none | some (r, e', s') => (match r with | .normal => ih pr y e' s' | r => some (r, e', s')))
    | .blk id c => (match ih pr c e s with | none => none | some (r, e', s') => (match r with | .exit id' => some (if id' = id then .normal else .exit id', e', s') | r => some (r, e', s')))
    | .loop c => fRnds (ih pr c) N e s
    | .cond c x y => (match c.ev e with | .lit (.bool b) => Bool.rec (ih pr y e s) (ih pr x e s) b | _ => none)
    | .ret => some (.ret, e, s)
    | .skip => some (.normal, e, s)
    | .exit id => some (.exit id, e, s)
    | .bad => none) k
end
end Go.Ae
