/- A part of the proof: a machine on trees that is sound for the model, its tables, and contracts of functions. Conditions: none. -/
import Derived.WalkKit
import Derived.LoopN
import Derived.Maps.AppendAt
import Derived.Laws.MakeOwn
namespace Go.Ae
open Go.RowKit

/-- What an immutable slice may be appended to by. -/
inductive Tok where
  | no
  | exact
  | own (id sz : Nat)
  | nil
  deriving DecidableEq

/-- Values as trees: what cannot change any more is told whole. -/
inductive V where
  | any
  | lit (v : Value)
  | sl (cells : List V) (n : Nat) (tok : Tok)
  | ep (cells : List V) (off : Nat)
  | ptr (b off : Nat)
  | ms (b off n : Nat) (ex : Bool)
  | mp (b : Nat)
  | fn (f : Fn) (first captured : List V)
  | ifc (t : TypeId) (v : V)
  | agg (cells : List V)
  | tup (vs : List V)
  deriving Inhabited

/-- Objects that can change. -/
inductive AObj where
  | cells (cs : List V)
  | row
  | map (es : List (V × V))
  | iter (m since : Nat) (seen : List Nat) (last : Nat)

/-- The labels, and a bound of those that are used. -/
structure Tb where
  f : Nat → Option AObj
  lim : Nat
instance : CoeFun Tb fun _ => Nat → Option AObj := ⟨Tb.f⟩
def Tb.set (T : Tb) (b : Nat) (o : AObj) : Tb := ⟨fun x => if x = b then some o else T x, max T.lim (b + 1)⟩
def Tb.del (T : Tb) (b : Nat) : Tb := ⟨fun x => if x = b then none else T x, T.lim⟩
def Tb.up (T : Tb) (m : Nat) : Tb := ⟨T.f, max T.lim m⟩
def Tb.Sub (T' T : Tb) : Prop := (∀ b o, T' b = some o → T b = some o) ∧ T.lim ≤ T'.lim
theorem Tb.set_at (T : Tb) (b x : Nat) (o : AObj) : T.set b o x = if x = b then some o else T x := rfl
theorem Tb.del_at (T : Tb) (b x : Nat) : T.del b x = if x = b then none else T x := rfl
theorem Tb.up_at (T : Tb) (m x : Nat) : T.up m x = T x := rfl

/-- The ghost: of each block how many cells stay as they are, and who may append; where labels lie; which labels are used. -/
structure Gh where
  st : Nat → Option (Nat × Option Nat)
  at_ : Nat → Option Nat
  N : Nat

def Stb (G : Gh) (g o : Nat) : Prop := ∃ n own, G.st g = some (n, own) ∧ o < n

def Value.flat : Value → Bool
  | .bool _ | .int .. | .float .. | .complex .. | .string _ | .pointer none | .map none | .chan none | .nilFunc | .nilIface => true
  | _ => false

def TokOk (G : Gh) (w : World) (t : Tok) (a : Option Addr) (n cells cap : Nat) : Prop :=
  match t with
  | .no => True
  | .exact => cap = n
  | .nil => a = none
  | .own id sz => cap = n ∨ ∃ g, a = some ⟨g, 0, none⟩ ∧ id < G.N ∧ G.at_ id = some g ∧ cells = n * sz ∧
      (∀ m, G.st g = some (m, some id) → cells = m) ∧ ∃ (cs : Array Value) (e : TypeId) (fr : Nat × Nat), w.heap[g]? = some (Obj.cells cs e fr) ∧ cap * sz ≤ cs.size

inductive VRel (G : Gh) (w : World) : V → Value → Prop where
  | any (u : Value) : VRel G w .any u
  | lit (u : Value) : Value.flat u = true → VRel G w (.lit u) u
  | sl (cells : List V) (n : Nat) (tok : Tok) (a : Option Addr) (c : Nat) (u : Nat → Value) :
      n ≤ c → c ≤ maxLen → (a = none → cells = [] ∧ n = 0 ∧ c = 0) →
      (∀ ad, a = some ad → ∀ i, i < cells.length → Stb G ad.block (ad.off + i) ∧ w.cell? (ad.add i) = some (u i)) →
      (∀ (i : Nat) (x : V), cells[i]? = some x → VRel G w x (u i)) → TokOk G w tok a n cells.length c →
      VRel G w (.sl cells n tok) (.slice a n c)
  | ep (cells : List V) (off : Nat) (ad : Addr) (u : Nat → Value) :
      (∀ i, i < cells.length → Stb G ad.block (ad.off + i) ∧ w.cell? (ad.add i) = some (u i)) →
      (∀ (i : Nat) (x : V), cells[i]? = some x → VRel G w x (u i)) → VRel G w (.ep cells off) (.pointer (some (ad.add off)))
  | ptr (b off g : Nat) : b < G.N → G.at_ b = some g → VRel G w (.ptr b off) (.pointer (some ⟨g, off, none⟩))
  | ms (b off n g c : Nat) (ex : Bool) : b < G.N → G.at_ b = some g → n ≤ c → c ≤ maxLen → (ex = true → c = n) →
      VRel G w (.ms b off n ex) (.slice (some ⟨g, off, none⟩) n c)
  | mp (b g : Nat) : b < G.N → G.at_ b = some g → VRel G w (.mp b) (.map (some g))
  | fn (f : Fn) (xs ys : List V) (us vs : List Value) : us.length = xs.length → vs.length = ys.length →
      (∀ (i : Nat) (x : V) (u : Value), xs[i]? = some x → us[i]? = some u → VRel G w x u) → (∀ (i : Nat) (x : V) (u : Value), ys[i]? = some x → vs[i]? = some u → VRel G w x u) →
      VRel G w (.fn f xs ys) (.func f us.toArray vs.toArray)
  | ifc (t : TypeId) (x : V) (u : Value) : VRel G w x u → VRel G w (.ifc t x) (.iface t u)
  | agg (xs : List V) (us : List Value) : us.length = xs.length → (∀ (i : Nat) (x : V) (u : Value), xs[i]? = some x → us[i]? = some u → VRel G w x u) → VRel G w (.agg xs) (.agg us.toArray)
  | tup (xs : List V) (us : List Value) : us.length = xs.length → (∀ (i : Nat) (x : V) (u : Value), xs[i]? = some x → us[i]? = some u → VRel G w x u) → VRel G w (.tup xs) (.tuple us.toArray)

/-- What is later: stable cells stay, labels stay. -/
structure Le (G : Gh) (w : World) (G' : Gh) (w' : World) : Prop where
  N : G.N ≤ G'.N
  at_ : ∀ b, b < G.N → G'.at_ b = G.at_ b
  st : ∀ g n own, G.st g = some (n, own) → ∃ n' own', G'.st g = some (n', own') ∧ n ≤ n' ∧ ∀ i, i < n → w'.cell? ⟨g, i, none⟩ = w.cell? ⟨g, i, none⟩
  own : ∀ g m id, id < G.N → G'.st g = some (m, some id) → G.st g = some (m, some id)
  shape : ∀ (g : Nat) (cs : Array Value) (e : TypeId) (fr : Nat × Nat), w.heap[g]? = some (Obj.cells cs e fr) → ∃ (cs' : Array Value) (fr' : Nat × Nat), w'.heap[g]? = some (Obj.cells cs' e fr') ∧ cs'.size = cs.size
  size : w.heap.size ≤ w'.heap.size
  keep : ∀ g, g < w.heap.size → (∀ n id, G.st g ≠ some (n, some id)) → G'.st g = G.st g

theorem Le.refl (G : Gh) (w : World) : Le G w G w :=
  ⟨Nat.le_refl _, fun _ _ => rfl, fun _ n own h => ⟨n, own, h, Nat.le_refl _, fun _ _ => rfl⟩, fun _ _ _ _ h => h, fun _ cs _ fr h => ⟨cs, fr, h, rfl⟩, Nat.le_refl _, fun _ _ _ => rfl⟩

theorem Le.trans {G G' G'' : Gh} {w w' w'' : World} (h : Le G w G' w') (k : Le G' w' G'' w'') : Le G w G'' w'' := by
  refine ⟨Nat.le_trans h.N k.N, fun b hb => (k.at_ b (Nat.lt_of_lt_of_le hb h.N)).trans (h.at_ b hb), ?_, ?_, ?_, Nat.le_trans h.size k.size, fun g hg hn => ?_⟩
  · intro g n own hs
    obtain ⟨n1, o1, h1, hn1, hc1⟩ := h.st g n own hs
    obtain ⟨n2, o2, h2, hn2, hc2⟩ := k.st g n1 o1 h1
    exact ⟨n2, o2, h2, Nat.le_trans hn1 hn2, fun i hi => (hc2 i (Nat.lt_of_lt_of_le hi hn1)).trans (hc1 i hi)⟩
  · intro g m id hid hs
    exact h.own g m id hid (k.own g m id (Nat.lt_of_lt_of_le hid h.N) hs)
  · intro g cs e fr hc
    obtain ⟨cs1, fr1, h1, hz1⟩ := h.shape g cs e fr hc
    obtain ⟨cs2, fr2, h2, hz2⟩ := k.shape g cs1 e fr1 h1
    exact ⟨cs2, fr2, h2, hz2.trans hz1⟩
  · have h1 := h.keep g hg hn
    exact (k.keep g (Nat.lt_of_lt_of_le hg h.size) (fun n id => by rw [h1]; exact hn n id)).trans h1

theorem Stb.mono {G G' : Gh} {w w' : World} (h : Le G w G' w') {g o : Nat} (hs : Stb G g o) : Stb G' g o := by
  obtain ⟨n, own, h1, h2⟩ := hs
  obtain ⟨n', own', h3, h4, _⟩ := h.st g n own h1
  exact ⟨n', own', h3, Nat.lt_of_lt_of_le h2 h4⟩

theorem cell_add (w : World) (ad : Addr) (i : Nat) (u : Value) (h : w.cell? (ad.add i) = some u) : ad.add i = ⟨ad.block, ad.off + i, none⟩ := by
  unfold Addr.add at h ⊢
  by_cases hi : i = 0
  · subst hi
    simp only [if_true] at h ⊢
    unfold World.cell? at h
    split at h
    · split at h
      · cases h
      · rename_i hs
        cases ad
        simp_all
    · cases h
  · rw [if_neg hi]

theorem Stb.cell {G G' : Gh} {w w' : World} (h : Le G w G' w') {ad : Addr} {i : Nat} {u : Value} (hs : Stb G ad.block (ad.off + i)) (hc : w.cell? (ad.add i) = some u) :
    w'.cell? (ad.add i) = some u := by
  have e := cell_add w ad i u hc
  obtain ⟨n, own, h1, h2⟩ := hs
  obtain ⟨_, _, _, _, h5⟩ := h.st _ n own h1
  rw [e] at hc ⊢
  exact (h5 _ h2).trans hc

theorem TokOk.mono {G G' : Gh} {w w' : World} (h : Le G w G' w') {t : Tok} {a : Option Addr} {n cells c : Nat} (ht : TokOk G w t a n cells c) : TokOk G' w' t a n cells c := by
  cases t with
  | no => trivial
  | exact => exact ht
  | nil => exact ht
  | own id sz =>
    rcases ht with ht | ⟨g, h1, h2, h3, h3'', h4, cs, e, fr, h5, h6⟩
    · exact .inl ht
    · obtain ⟨cs', fr', h7, h8⟩ := h.shape _ _ _ _ h5
      exact .inr ⟨g, h1, Nat.lt_of_lt_of_le h2 h.N, (h.at_ _ h2).trans h3, h3'', fun m hm => h4 m (h.own _ _ _ h2 hm), cs', e, fr', h7, by omega⟩

theorem VRel.mono {G G' : Gh} {w w' : World} (h : Le G w G' w') {v : V} {u : Value} (hv : VRel G w v u) : VRel G' w' v u := by
  induction hv with
  | any u => exact .any u
  | lit u hu => exact .lit u hu
  | sl cells n tok a c u h1 h2 h3 h4 _ h6 ih => exact .sl cells n tok a c u h1 h2 h3 (fun ad ha i hi => ⟨(h4 ad ha i hi).1.mono h, (h4 ad ha i hi).1.cell h (h4 ad ha i hi).2⟩) ih (h6.mono h)
  | ep cells off ad u h4 _ ih => exact .ep cells off ad u (fun i hi => ⟨(h4 i hi).1.mono h, (h4 i hi).1.cell h (h4 i hi).2⟩) ih
  | ptr b off g h1 h2 => exact .ptr b off g (Nat.lt_of_lt_of_le h1 h.N) ((h.at_ _ h1).trans h2)
  | ms b off n g c ex h1 h2 h3 h4 h5 => exact .ms b off n g c ex (Nat.lt_of_lt_of_le h1 h.N) ((h.at_ _ h1).trans h2) h3 h4 h5
  | mp b g h1 h2 => exact .mp b g (Nat.lt_of_lt_of_le h1 h.N) ((h.at_ _ h1).trans h2)
  | fn f xs ys us vs h1 h2 _ _ ih1 ih2 => exact .fn f xs ys us vs h1 h2 ih1 ih2
  | ifc t x u _ ih => exact .ifc t x u ih
  | agg xs us h1 _ ih => exact .agg xs us h1 ih
  | tup xs us h1 _ ih => exact .tup xs us h1 ih

/-- A list of values. -/
def LRel (G : Gh) (w : World) (xs : List V) (us : List Value) : Prop := us.length = xs.length ∧ ∀ (i : Nat) (x : V) (u : Value), xs[i]? = some x → us[i]? = some u → VRel G w x u
theorem LRel.mono {G G' : Gh} {w w' : World} (h : Le G w G' w') {xs : List V} {us : List Value} (hl : LRel G w xs us) : LRel G' w' xs us := ⟨hl.1, fun i x u hx hu => (hl.2 i x u hx hu).mono h⟩
theorem LRel.get {G : Gh} {w : World} {xs : List V} {us : List Value} (hl : LRel G w xs us) {i : Nat} {x : V} (hx : xs[i]? = some x) : ∃ u, us[i]? = some u ∧ VRel G w x u := by
  have hi : i < us.length := by rw [hl.1]; exact (List.getElem?_eq_some_iff.1 hx).1
  exact ⟨us[i], List.getElem?_eq_getElem hi, hl.2 i x _ hx (List.getElem?_eq_getElem hi)⟩
theorem LRel.nil {G : Gh} {w : World} : LRel G w [] [] := ⟨rfl, fun i x u h _ => by simp at h⟩
theorem LRel.cons {G : Gh} {w : World} {x : V} {u : Value} {xs : List V} {us : List Value} (h : VRel G w x u) (hl : LRel G w xs us) : LRel G w (x :: xs) (u :: us) := by
  refine ⟨by simp [hl.1], fun i y v hy hv => ?_⟩
  cases i with
  | zero => simp at hy hv; subst hy; subst hv; exact h
  | succ i => exact hl.2 i y v (by simpa using hy) (by simpa using hv)
theorem LRel.append {G : Gh} {w : World} {xs ys : List V} {us vs : List Value} (h : LRel G w xs us) (k : LRel G w ys vs) : LRel G w (xs ++ ys) (us ++ vs) := by
  refine ⟨by simp [h.1, k.1], fun i y v hy hv => ?_⟩
  by_cases hi : i < xs.length
  · rw [List.getElem?_append_left hi] at hy
    rw [List.getElem?_append_left (by rw [h.1]; exact hi)] at hv
    exact h.2 i y v hy hv
  · rw [List.getElem?_append_right (by omega)] at hy
    rw [List.getElem?_append_right (by rw [h.1]; omega), h.1] at hv
    exact k.2 _ y v hy hv
theorem LRel.set {G : Gh} {w : World} {x : V} {u : Value} {xs : List V} {us : List Value} (hl : LRel G w xs us) (i : Nat) (h : VRel G w x u) : LRel G w (xs.set i x) (us.set i u) := by
  refine ⟨by simp [hl.1], fun j y v hy hv => ?_⟩
  rw [List.getElem?_set] at hy hv
  by_cases hij : i = j
  · subst hij
    simp only [if_true] at hy hv
    split at hy
    · split at hv
      · simp at hy hv; subst hy; subst hv; exact h
      · cases hv
    · cases hy
  · rw [if_neg hij] at hy hv
    exact hl.2 j y v hy hv

/-- What is told of the changing objects. -/
def ObjRel (B : Nat → Prop) (G : Gh) (w : World) (b : Nat) : AObj → Prop
  | .cells cs => ∃ (g : Nat) (cur : Array Value) (e : TypeId), G.at_ b = some g ∧ ¬ B g ∧ G.st g = none ∧ w.heap[g]? = some (Obj.cells cur e (0, 0)) ∧ LRel G w cs cur.toList
  | .row => G.at_ b = none ∨ ∃ g n, G.at_ b = some g ∧ G.st g = some (n, some b)
  | .map es => ∃ (g : Nat) (us : Array MapEntry) (clock : Nat), G.at_ b = some g ∧ ¬ B g ∧ G.st g = none ∧ w.heap[g]? = some (Obj.map us clock) ∧
      (LRel G w (es.map (·.1)) (us.toList.map (·.key)) ∧ clock = us.size ∧ ∀ (i : Nat) (x : MapEntry), us.toList[i]? = some x → x.born = i) ∧ LRel G w (es.map (·.2)) (us.toList.map (·.val))
  | .iter m since seen last => ∃ (g gm : Nat), G.at_ b = some g ∧ ¬ B g ∧ G.st g = none ∧ w.heap[g]? = some (Obj.mapIter (some gm) since seen.toArray last) ∧ m < G.N ∧ G.at_ m = some gm

/-- What is protected stays as it was. -/
structure Kept (B : Nat → Prop) (w0 w : World) : Prop where
  os : w.os = w0.os
  tape : w.tape = w0.tape
  output : w.output = w0.output
  size : w0.heap.size ≤ w.heap.size
  block : ∀ k, B k → w.heap[k]? = w0.heap[k]?
theorem Kept.refl (B : Nat → Prop) (w : World) : Kept B w w := ⟨rfl, rfl, rfl, Nat.le_refl _, fun _ _ => rfl⟩
theorem Kept.trans {B : Nat → Prop} {a b c : World} (h : Kept B a b) (k : Kept B b c) : Kept B a c :=
  ⟨k.os.trans h.os, k.tape.trans h.tape, k.output.trans h.output, Nat.le_trans h.size k.size, fun n hn => (k.block n hn).trans (h.block n hn)⟩
theorem Kept.mono {B B' : Nat → Prop} {w w' : World} (h : Kept B w w') (hB : ∀ k, B' k → B k) : Kept B' w w' := ⟨h.os, h.tape, h.output, h.size, fun k hk => h.block k (hB k hk)⟩
theorem Kept.alloc {B : Nat → Prop} {a w : World} (h : Kept B a w) (hB : ∀ k, B k → k < w.heap.size) (o : Obj) : Kept B a (w.alloc o) :=
  h.trans ⟨rfl, rfl, rfl, by simp, fun k hk => Below.heap_alloc w o k (hB k hk)⟩
theorem Kept.below {w0 w : World} (h : Kept (· < w0.heap.size) w0 w) : Below w0.heap.size w0 w := ⟨h.os, h.tape, h.output, h.size, h.block⟩
structure Rel (B : Nat → Prop) (w0 : World) (G : Gh) (w : World) (T : Tb) : Prop where
  below : Kept B w0 w
  hB : ∀ k, B k → k < w.heap.size
  st_lt : ∀ g x, G.st g = some x → g < w.heap.size
  st_own : ∀ g n id, G.st g = some (n, some id) → ¬ B g ∧ id < G.N ∧ G.at_ id = some g ∧ ∃ (cur : Array Value) (e : TypeId), w.heap[g]? = some (Obj.cells cur e (0, 0)) ∧ n ≤ cur.size
  at_lt : ∀ b g, G.at_ b = some g → b < G.N ∧ g < w.heap.size
  obj : ∀ b o, T b = some o → ObjRel B G w b o
  objlt : ∀ b o, T b = some o → b < G.N
  lim : G.N ≤ T.lim
  inj : ∀ b c g, (∃ o, T b = some o) → (∃ o, T c = some o) → G.at_ b = some g → G.at_ c = some g → b = c

/-- The calls, told of trees. -/
def ACalls (P : Program) (f : FuncId) (args : List V) (T : Tb) (Q : V → Tb → Prop) : Prop :=
  ∀ (B : Nat → Prop) (w0 : World) (G : Gh) (w : World) (us : List Value), Rel B w0 G w T → LRel G w args us →
    Calls P f us.toArray w fun e w' => ∃ u v G' T', e = .returned u ∧ Le G w G' w' ∧ VRel G' w' v u ∧ Rel B w0 G' w' T' ∧ Q v T'

theorem ACalls.mono {P : Program} {f : FuncId} {args : List V} {T : Tb} {Q Q' : V → Tb → Prop} (h : ACalls P f args T Q) (hq : ∀ v T', Q v T' → Q' v T') : ACalls P f args T Q' :=
  fun B w0 G w us hr hl => (h B w0 G w us hr hl).mono fun _ _ ⟨u, v, G', T', h1, h2, h3, h4, h5⟩ => ⟨u, v, G', T', h1, h2, h3, h4, hq _ _ h5⟩

/-- Code, told of trees. -/
def AWP (P : Program) (c : Code) (Q : Exit → List V → Tb → Prop) (ts : List V) (T : Tb) : Prop :=
  ∀ (B : Nat → Prop) (w0 : World) (G : Gh) (w : World) (a : Act), Rel B w0 G w T → LRel G w ts a.tmps.toList → a.defers = [] →
    c.wp P (fun e a' w' => ∃ G' ts' T', Le G w G' w' ∧ Rel B w0 G' w' T' ∧ LRel G' w' ts' a'.tmps.toList ∧ a'.defers = [] ∧ Q e ts' T') a w

theorem AWP.mono {P : Program} {c : Code} {Q Q' : Exit → List V → Tb → Prop} {ts : List V} {T : Tb} (h : AWP P c Q ts T) (hq : ∀ e ts T, Q e ts T → Q' e ts T) : AWP P c Q' ts T :=
  fun B w0 G w a hr hl hd => Code.wp_mono (fun _ _ _ ⟨G', ts', T', h1, h2, h3, h4, h5⟩ => ⟨G', ts', T', h1, h2, h3, h4, hq _ _ _ h5⟩) (h B w0 G w a hr hl hd)

/-! ### Control -/
section
variable {P : Program} {Q : Exit → List V → Tb → Prop} {ts : List V} {T : Tb}

def AThen (K : List V → Tb → Prop) (Q : Exit → List V → Tb → Prop) : Exit → List V → Tb → Prop
  | .normal, ts, T => K ts T
  | e, ts, T => Q e ts T
def AIn (id : Nat) (Q : Exit → List V → Tb → Prop) : Exit → List V → Tb → Prop
  | .exit id', ts, T => if id' = id then Q .normal ts T else Q (.exit id') ts T
  | e, ts, T => Q e ts T

theorem awp_skip (h : Q .normal ts T) : AWP P .skip Q ts T := fun _ _ G _ _ hr hl hd => wp_skip ⟨G, ts, T, Le.refl _ _, hr, hl, hd, h⟩
theorem awp_ret (h : Q .ret ts T) : AWP P .ret Q ts T := fun _ _ G _ _ hr hl hd => wp_ret ⟨G, ts, T, Le.refl _ _, hr, hl, hd, h⟩
theorem awp_exit {id : Nat} (h : Q (.exit id) ts T) : AWP P (.exit id) Q ts T := fun _ _ G _ _ hr hl hd => wp_exit ⟨G, ts, T, Le.refl _ _, hr, hl, hd, h⟩
theorem awp_seq {x y : Code} (h : AWP P x (AThen (AWP P y Q) Q) ts T) : AWP P (.seq x y) Q ts T := by
  intro B w0 G w a hr hl hd
  refine wp_seq (Code.wp_mono ?_ (h B w0 G w a hr hl hd))
  rintro e a' w' ⟨G', ts', T', h1, h2, h3, h4, h5⟩
  cases e with
  | normal => exact Code.wp_mono (fun _ _ _ ⟨G'', ts'', T'', k1, k2, k3, k4, k5⟩ => ⟨G'', ts'', T'', h1.trans k1, k2, k3, k4, k5⟩) (h5 B w0 G' w' a' h2 h3 h4)
  | _ => exact ⟨G', ts', T', h1, h2, h3, h4, h5⟩
theorem awp_block {id : Nat} {c : Code} (h : AWP P c (AIn id Q) ts T) : AWP P (.block id c) Q ts T := by
  intro B w0 G w a hr hl hd
  refine wp_block (Code.wp_mono ?_ (h B w0 G w a hr hl hd))
  rintro e a' w' ⟨G', ts', T', h1, h2, h3, h4, h5⟩
  cases e with
  | exit id' =>
    simp only [AIn] at h5
    simp only [Exit.inBlock]
    split
    · rename_i he; rw [if_pos he] at h5; exact ⟨G', ts', T', h1, h2, h3, h4, h5⟩
    · rename_i he; rw [if_neg he] at h5; exact ⟨G', ts', T', h1, h2, h3, h4, h5⟩
  | _ => exact ⟨G', ts', T', h1, h2, h3, h4, h5⟩
def ARounds (P : Program) (c : Code) (Q : Exit → List V → Tb → Prop) : Nat → List V → Tb → Prop
  | 0 => fun _ _ => False
  | n + 1 => AWP P c (AThen (ARounds P c Q n) Q)
theorem awp_rounds {c : Code} (n : Nat) : ∀ {ts T}, ARounds P c Q n ts T → ∀ B w0 G w a, Rel B w0 G w T → LRel G w ts a.tmps.toList → a.defers = [] →
    Code.rounds P c (fun e a' w' => ∃ G' ts' T', Le G w G' w' ∧ Rel B w0 G' w' T' ∧ LRel G' w' ts' a'.tmps.toList ∧ a'.defers = [] ∧ Q e ts' T') n a w := by
  have key : ∀ n, ∀ ts T, ARounds P c Q n ts T → ∀ B w0 G0 w00 G w a, Le G0 w00 G w → Rel B w0 G w T → LRel G w ts a.tmps.toList → a.defers = [] →
      Code.rounds P c (fun e a' w' => ∃ G' ts' T', Le G0 w00 G' w' ∧ Rel B w0 G' w' T' ∧ LRel G' w' ts' a'.tmps.toList ∧ a'.defers = [] ∧ Q e ts' T') n a w := by
    intro n
    induction n with
    | zero => intro ts T h; exact h.elim
    | succ n ih =>
      intro ts T h B w0 G0 w00 G w a hle hr hl hd
      rw [rounds_succ]
      refine Code.wp_mono ?_ (h B w0 G w a hr hl hd)
      rintro e a' w' ⟨G', ts', T', h1, h2, h3, h4, h5⟩
      cases e with
      | normal => exact ih ts' T' h5 B w0 G0 w00 G' w' a' (hle.trans h1) h2 h3 h4
      | _ => exact ⟨G', ts', T', hle.trans h1, h2, h3, h4, h5⟩
  intro ts T h B w0 G w a hr hl hd
  exact key n ts T h B w0 G w G w a (Le.refl _ _) hr hl hd
theorem awp_loop {c : Code} (n : Nat) (h : ARounds P c Q n ts T) : AWP P (.loop c) Q ts T :=
  fun B w0 G w a hr hl hd => wp_loop_rounds n (awp_rounds n h B w0 G w a hr hl hd)
end

end Go.Ae
