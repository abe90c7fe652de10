/- A part of the proof: a machine on trees that is sound for the model, its tables, and contracts of functions. Conditions: none. -/
import Derived.Test.YtpookgemmjdgfaaGreatAeZc
namespace Go.Ae
open Go.RowKit
noncomputable section

/-! ### Tables that the kernel reads fast: binary tries, by recursors -/
inductive Tr (α : Type) where
  | nil
  | node (v : Option α) (l r : Tr α)
def Tr.get {α : Type} (t : Tr α) : Nat → Option α :=
  Tr.rec (fun _ => none) (fun v _ _ gl gr n => Bool.rec (Bool.rec (gl (Nat.div n 2)) (gr (Nat.div n 2)) (Nat.beq (Nat.mod n 2) 1)) v (Nat.beq n 0)) t
def Tr.one {α : Type} (v : α) (fuel : Nat) : Nat → Tr α :=
  Nat.rec (fun _ => .nil) (fun _ ih n => Bool.rec (Bool.rec (.node none (ih (Nat.div n 2)) .nil) (.node none .nil (ih (Nat.div n 2))) (Nat.beq (Nat.mod n 2) 1)) (.node (some v) .nil .nil) (Nat.beq n 0)) fuel
def Tr.set {α : Type} (v : α) (t : Tr α) : Nat → Tr α :=
  Tr.rec (fun n => Tr.one v (Nat.succ n) n) (fun x l r gl gr n => Bool.rec (Bool.rec (.node x (gl (Nat.div n 2)) r) (.node x l (gr (Nat.div n 2))) (Nat.beq (Nat.mod n 2) 1)) (.node (some v) l r) (Nat.beq n 0)) t
section
variable {α : Type}
theorem brec {β : Type} (b : Bool) (x y : β) : (Bool.rec x y b : β) = if b = true then y else x := by cases b <;> rfl
theorem Tr.get_nil (n : Nat) : (Tr.nil : Tr α).get n = none := rfl
theorem Tr.get_node (v : Option α) (l r : Tr α) (n : Nat) : (Tr.node v l r).get n = if n = 0 then v else if n % 2 = 1 then r.get (n / 2) else l.get (n / 2) := by
  show (Bool.rec (Bool.rec (l.get (Nat.div n 2)) (r.get (Nat.div n 2)) (Nat.beq (Nat.mod n 2) 1)) v (Nat.beq n 0) : Option α) = _
  rw [brec, brec]
  simp only [Nat.beq_eq]
  rfl
theorem Tr.one_succ (v : α) (f n : Nat) : Tr.one v (f + 1) n = if n = 0 then .node (some v) .nil .nil else if n % 2 = 1 then .node none .nil (Tr.one v f (n / 2)) else .node none (Tr.one v f (n / 2)) .nil := by
  show (Bool.rec (Bool.rec (.node none (Tr.one v f (Nat.div n 2)) .nil) (.node none .nil (Tr.one v f (Nat.div n 2))) (Nat.beq (Nat.mod n 2) 1)) (.node (some v) .nil .nil) (Nat.beq n 0) : Tr α) = _
  rw [brec, brec]
  simp only [Nat.beq_eq]
  rfl
theorem Tr.set_nil (v : α) (n : Nat) : Tr.set v .nil n = Tr.one v (n + 1) n := rfl
theorem Tr.set_node (v : α) (x : Option α) (l r : Tr α) (n : Nat) : Tr.set v (.node x l r) n = if n = 0 then .node (some v) l r else if n % 2 = 1 then .node x l (Tr.set v r (n / 2)) else .node x (Tr.set v l (n / 2)) r := by
  show (Bool.rec (Bool.rec (.node x (Tr.set v l (Nat.div n 2)) r) (.node x l (Tr.set v r (Nat.div n 2))) (Nat.beq (Nat.mod n 2) 1)) (.node (some v) l r) (Nat.beq n 0) : Tr α) = _
  rw [brec, brec]
  simp only [Nat.beq_eq]
  rfl
theorem Tr.get_one (v : α) : ∀ (f n m : Nat), n < f → (Tr.one v f n).get m = if m = n then some v else none := by
  intro f
  induction f with
  | zero => intro n m h; omega
  | succ f ih =>
    intro n m h
    rw [Tr.one_succ]
    by_cases h0 : n = 0
    · subst h0
      rw [if_pos rfl, Tr.get_node]
      split
      · rfl
      · split <;> rfl
    · rw [if_neg h0]
      by_cases h1 : n % 2 = 1
      · rw [if_pos h1, Tr.get_node]
        by_cases m0 : m = 0
        · rw [if_pos m0, if_neg (by omega)]
        · rw [if_neg m0]
          by_cases m1 : m % 2 = 1
          · rw [if_pos m1, ih _ _ (by omega)]
            by_cases e : m = n
            · rw [if_pos e, if_pos (by omega)]
            · rw [if_neg e, if_neg (by omega)]
          · rw [if_neg m1, if_neg (by omega)]; rfl
      · rw [if_neg h1, Tr.get_node]
        by_cases m0 : m = 0
        · rw [if_pos m0, if_neg (by omega)]
        · rw [if_neg m0]
          by_cases m1 : m % 2 = 1
          · rw [if_pos m1, if_neg (by omega)]; rfl
          · rw [if_neg m1, ih _ _ (by omega)]
            by_cases e : m = n
            · rw [if_pos e, if_pos (by omega)]
            · rw [if_neg e, if_neg (by omega)]
theorem Tr.get_set (v : α) : ∀ (t : Tr α) (n m : Nat), (Tr.set v t n).get m = if m = n then some v else t.get m := by
  intro t
  induction t with
  | nil => intro n m; rw [Tr.set_nil, Tr.get_one v _ _ _ (by omega)]; rfl
  | node x l r ihl ihr =>
    intro n m
    rw [Tr.set_node]
    by_cases h0 : n = 0
    · subst h0
      rw [if_pos rfl, Tr.get_node, Tr.get_node]
      by_cases m0 : m = 0
      · simp [m0]
      · simp [m0]
    · rw [if_neg h0]
      by_cases h1 : n % 2 = 1
      · rw [if_pos h1, Tr.get_node, Tr.get_node]
        by_cases m0 : m = 0
        · rw [if_pos m0, if_pos m0, if_neg (by omega)]
        · rw [if_neg m0, if_neg m0]
          by_cases m1 : m % 2 = 1
          · rw [if_pos m1, if_pos m1, ihr]
            by_cases e : m = n
            · rw [if_pos e, if_pos (by omega)]
            · rw [if_neg e, if_neg (by omega)]
          · rw [if_neg m1, if_neg m1, if_neg (by omega)]
      · rw [if_neg h1, Tr.get_node, Tr.get_node]
        by_cases m0 : m = 0
        · rw [if_pos m0, if_pos m0, if_neg (by omega)]
        · rw [if_neg m0, if_neg m0]
          by_cases m1 : m % 2 = 1
          · rw [if_pos m1, if_pos m1, if_neg (by omega)]
          · rw [if_neg m1, if_neg m1, ihl]
            by_cases e : m = n
            · rw [if_pos e, if_pos (by omega)]
            · rw [if_neg e, if_neg (by omega)]
end

/-! ### Slots -/
structure Env where
  n : Nat
  t : Tr V
def Env.at (e : Env) (i : Nat) : V := Option.rec (.tup []) (fun v => v) (e.t.get i)
def Env.put (e : Env) (i : Nat) (v : V) : Env := ⟨e.n, e.t.set v i⟩
def Env.toL (e : Env) : List V := (List.range e.n).map e.at
/-- Nothing lies behind the last slot. -/
def Env.Ok (e : Env) : Prop := ∀ i, e.n ≤ i → e.t.get i = none
theorem Env.len (e : Env) : e.toL.length = e.n := by simp [Env.toL]
theorem Env.ev_tmp {e : Env} (h : e.Ok) (i : Nat) : evV e.toL (.tmp i) = e.at i := by
  show e.toL.getD i (.tup []) = _
  rw [List.getD_eq_getElem?_getD]
  unfold Env.toL
  by_cases hi : i < e.n
  · rw [List.getElem?_map, List.getElem?_range hi]; rfl
  · rw [List.getElem?_eq_none (by simpa using hi)]
    unfold Env.at
    rw [h i (by omega)]
    rfl
theorem Env.put_toL {e : Env} {i : Nat} (hi : i < e.n) (v : V) : (e.put i v).toL = e.toL.set i v := by
  apply List.ext_getElem?
  intro j
  rw [List.getElem?_set]
  unfold Env.toL Env.put Env.at
  simp only
  by_cases hj : j < e.n
  · rw [List.getElem?_map, List.getElem?_range hj, List.getElem?_map, List.getElem?_range hj]
    simp only [Option.map_some, Tr.get_set, List.length_map, List.length_range]
    by_cases e1 : i = j
    · subst e1; simp [hi]
    · rw [if_neg e1, if_neg (fun h => e1 h.symm)]
  · rw [List.getElem?_eq_none (by simpa using hj), List.getElem?_eq_none (by simpa using hj)]
    split
    · rename_i e1; subst e1; exact (hj hi).elim
    · rfl
theorem Env.put_ok {e : Env} (h : e.Ok) {i : Nat} (hi : i < e.n) (v : V) : (e.put i v).Ok := by
  intro j hj
  show (e.t.set v i).get j = none
  have hj' : e.n ≤ j := hj
  rw [Tr.get_set, if_neg (by omega)]
  exact h j hj'
end
end Go.Ae
