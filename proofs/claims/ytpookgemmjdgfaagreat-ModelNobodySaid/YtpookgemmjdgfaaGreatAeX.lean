/- A part of the proof: a machine on trees that is sound for the model, its tables, and contracts of functions. Conditions: none. -/
import Derived.Test.YtpookgemmjdgfaaGreatAeW
namespace Go.Ae
open Go.RowKit

def bcase (b : Bool) (A B : Prop) : Prop := (b = true → A) ∧ (b = false → B)
theorem bcase_true (A B : Prop) : bcase true A B = A := by simp [bcase]
theorem bcase_false (A B : Prop) : bcase false A B = B := by simp [bcase]
def V.er1 : V → V
  | .sl cs n (.own _ _) => .sl cs n .no
  | v => v
/-- Without the right to append. -/
def V.er : V → V
  | .agg cs => .agg (cs.map V.er1)
  | v => v.er1
theorem VRel.er1 {G : Gh} {w : World} {v : V} {u : Value} (h : VRel G w v u) : VRel G w v.er1 u := by
  cases h with
  | sl cells n tok a c u h1 h2 h3 h4 h5 h6 => cases tok <;> first | exact .sl cells n .no a c u h1 h2 h3 h4 h5 trivial | exact .sl cells n _ a c u h1 h2 h3 h4 h5 h6
  | any u => exact .any u
  | lit u h => exact .lit u h
  | ep cells off ad u h1 h2 => exact .ep cells off ad u h1 h2
  | ptr b off g h1 h2 => exact .ptr b off g h1 h2
  | ms b off n g c ex h1 h2 h3 h4 h5 => exact .ms b off n g c ex h1 h2 h3 h4 h5
  | mp b g h1 h2 => exact .mp b g h1 h2
  | fn f xs ys us vs h1 h2 h3 h4 => exact .fn f xs ys us vs h1 h2 h3 h4
  | ifc t x u h => exact .ifc t x u h
  | agg xs us h1 h2 => exact .agg xs us h1 h2
  | tup xs us h1 h2 => exact .tup xs us h1 h2
theorem VRel.tok_no {G : Gh} {w : World} {cells : List V} {n : Nat} {tok : Tok} {u : Value} (h : VRel G w (.sl cells n tok) u) : VRel G w (.sl cells n .no) u := by
  cases h with
  | sl _ _ _ a c u h1 h2 h3 h4 h5 h6 => exact .sl cells n .no a c u h1 h2 h3 h4 h5 trivial
theorem LRel.er1 {G : Gh} {w : World} {xs : List V} {us : List Value} (h : LRel G w xs us) : LRel G w (xs.map V.er1) us := by
  refine ⟨by simp [h.1], fun i x u hx hu => ?_⟩
  rw [List.getElem?_map] at hx
  cases hy : xs[i]? with
  | none => rw [hy] at hx; cases hx
  | some y => rw [hy] at hx; simp at hx; subst hx; exact (h.2 i y u hy hu).er1
theorem VRel.er {G : Gh} {w : World} {v : V} {u : Value} (h : VRel G w v u) : VRel G w v.er u := by
  cases h with
  | agg xs us h1 h2 => exact .agg _ us (by simp [h1]) (LRel.er1 ⟨h1, h2⟩).2
  | sl cells n tok a c u h1 h2 h3 h4 h5 h6 => exact (VRel.er1 (.sl cells n tok a c u h1 h2 h3 h4 h5 h6))
  | any u => exact .any u
  | lit u h => exact .lit u h
  | ep cells off ad u h1 h2 => exact .ep cells off ad u h1 h2
  | ptr b off g h1 h2 => exact .ptr b off g h1 h2
  | ms b off n g c ex h1 h2 h3 h4 h5 => exact .ms b off n g c ex h1 h2 h3 h4 h5
  | mp b g h1 h2 => exact .mp b g h1 h2
  | fn f xs ys us vs h1 h2 h3 h4 => exact .fn f xs ys us vs h1 h2 h3 h4
  | ifc t x u h => exact .ifc t x u h
  | tup xs us h1 h2 => exact .tup xs us h1 h2
def V.okc : V → Bool
  | .agg _ => true
  | v => v.one
theorem V.okc_or {v : V} (h : v.okc = true) : v.one = true ∨ ∃ cs, v = .agg cs := by
  cases v <;> first | exact .inr ⟨_, rfl⟩ | exact .inl h

/-! ### One operation's conditions -/
section
variable (P : Program) (I : TI) (o : Oper) (ts : List V) (T : Tb) (K : V → Tb → Prop)

def vBin (op : BinOp) (t : TypeId) (x y : Operand) : Prop :=
  match evV ts x, evV ts y with
  | .lit (.int k a), .lit (.int k' b) => iok op k k' b ∧ K (.lit (ival op k a b)) T
  | .lit (.bool a), .lit (.bool b) =>
    I.bo.contains t = true ∧ match op with
    | .eql => K (.lit (.bool (a == b))) T
    | .neq => K (.lit (.bool (!(a == b)))) T
    | _ => AOp P o ts T K
  | .lit (.string a), .lit (.string b) =>
    match op with
    | .eql => K (.lit (.bool (a.toList == b.toList))) T
    | .neq => K (.lit (.bool (!(a.toList == b.toList)))) T
    | .lss => K (.lit (.bool (Op.bytesLess a.toList b.toList))) T
    | .add => a.size + b.size ≤ 9223372036854775807 ∧ K (.lit (.string (a ++ b))) T
    | _ => AOp P o ts T K
  | .ptr _ _, .lit (.pointer none) => I.pt.contains t = true ∧ match op with | .eql => K (.lit (.bool false)) T | .neq => K (.lit (.bool true)) T | _ => AOp P o ts T K
  | .lit (.pointer none), .lit (.pointer none) => I.pt.contains t = true ∧ match op with | .eql => K (.lit (.bool true)) T | .neq => K (.lit (.bool false)) T | _ => AOp P o ts T K
  | _, _ => AOp P o ts T K
def vUn (op : UnOp) (x : Operand) : Prop :=
  match op, evV ts x with
  | .not, .lit (.bool b) => K (.lit (.bool (!b))) T
  | .neg, .lit (.int k n) => K (.lit (.int k (k.wrap (0 - n)))) T
  | .xor, .lit (.int k n) => K (.lit (.int k (ibits .xor k (if k.signed then -1 else k.max) n))) T
  | _, _ => AOp P o ts T K
def vConv (src dst : TypeId) (x : Operand) : Prop :=
  match evV ts x, look I.ik src, look I.ik dst with
  | .lit (.int _ n), some _, some k => K (.lit (.int k (k.wrap n))) T
  | _, _, _ => AOp P o ts T K
def vRead (t : TypeId) (cells : List V) (off : Nat) : Prop :=
  if I.sc.contains t then ∃ v, cells[off]? = some v ∧ K v T
  else match look I.ag t with
    | some n => off + n ≤ cells.length ∧ K (.agg ((cells.drop off).take n)) T
    | none => False
def vLoad (t : TypeId) (x : Operand) : Prop :=
  match evV ts x with
  | .ep cells off => vRead I T K t cells off
  | .ptr b off => ∃ cs, T b = some (.cells cs) ∧ vRead I T K t cs off
  | _ => AOp P o ts T K
def szV (t : TypeId) : Option Nat := if I.sc.contains t then some 1 else look I.ag t
def vStore (t : TypeId) (x y : Operand) : Prop :=
  match evV ts x, szV I t with
  | .ptr b off, some n => ∃ cs, T b = some (.cells cs) ∧ ((evV ts y).okc = true ∧ ((evV ts y).cells.all V.one) = true ∧ (evV ts y).cells.length = n ∧ off + n ≤ cs.length) ∧ K (.tup []) (T.set b (.cells (spl cs off (evV ts y).cells)))
  | _, _ => AOp P o ts T K
def vAlloc (e : TypeId) : Prop :=
  match look I.ze e with
  | some z => ∀ b, b = T.lim → T b = none → K (.ptr b 0) (T.set b (.cells (constV z).cells))
  | none => AOp P o ts T K
def vField (s : TypeId) (x : Operand) (f : Nat) : Prop :=
  match evV ts x, look2 I.fd s f with
  | .ep cells off, some fo => K (.ep cells (off + fo)) T
  | .ptr b off, some fo => K (.ptr b (off + fo)) T
  | _, _ => AOp P o ts T K
def vIndexAddr (t : TypeId) (x y : Operand) : Prop :=
  match evV ts x, evV ts y with
  | .sl cells n _, .lit (.int _ j) => (match look I.sl t with | some e => (0 ≤ j ∧ j < n) ∧ K (.ep cells (j.toNat * e.2.1)) T | none => False)
  | .ms b off n _, .lit (.int _ j) => (match look I.sl t with | some e => (0 ≤ j ∧ j < n) ∧ K (.ptr b (off + j.toNat * e.2.1)) T | none => False)
  | .ptr b off, .lit (.int _ j) => (match look I.ar t with | some e => (0 ≤ j ∧ j < e.1) ∧ K (.ptr b (off + j.toNat * e.2.2)) T | none => False)
  | .ep cells off, .lit (.int _ j) => (match look I.ar t with | some e => (0 ≤ j ∧ j < e.1) ∧ K (.ep cells (off + j.toNat * e.2.2)) T | none => False)
  | _, _ => AOp P o ts T K
def vIndex (t : TypeId) (x y : Operand) : Prop :=
  match evV ts x, evV ts y with
  | .lit (.string s), .lit (.int _ j) => I.st.contains t = true ∧ 0 ≤ j ∧ ∃ c, s[j.toNat]? = some c ∧ K (.lit (.int .u8 c.toNat)) T
  | _, _ => AOp P o ts T K
def vNil (x : Operand) : Prop :=
  match evV ts x with
  | .ptr b off => K (.ptr b off) T
  | .ep cells off => K (.ep cells off) T
  | .fn (.func f) xs ys => K (.fn (.func f) xs ys) T
  | _ => AOp P o ts T K
def vSlice (t : TypeId) (x : Operand) (lo hi mx : Option Operand) : Prop :=
  match evV ts x, mx with
  | .sl cells n _, none => (match look I.sl t with
    | some e => cells.length = n * e.2.1 ∧ ∃ l h, bndV ts lo 0 = some l ∧ bndV ts hi n = some h ∧ (l ≤ h ∧ h ≤ n) ∧ K (.sl ((cells.drop (l * e.2.1)).take ((h - l) * e.2.1)) (h - l) .no) T
    | none => False)
  | .lit (.string s), none => I.st.contains t = true ∧ ∃ l h, bndV ts lo 0 = some l ∧ bndV ts hi s.size = some h ∧ (l ≤ h ∧ h ≤ s.size) ∧ K (.lit (.string (s.extract l h))) T
  | .ms b off n ex, none => (match look I.sl t with
    | some e => ∃ l h, bndV ts lo 0 = some l ∧ bndV ts hi n = some h ∧ (l ≤ h ∧ h ≤ n ∧ (l < n ∨ l = 0)) ∧ K (.ms b (off + l * e.2.1) (h - l) (ex && h == n)) T
    | none => False)
  | _, _ => AOp P o ts T K
def vBuild (t : TypeId) (ps : List (Nat × Operand)) : Prop :=
  match look I.pl t, look I.ze t with
  | some pl, some z => (ps.all fun p => (evV ts p.2).okc) = true ∧ ∃ cells, vfill (pl[·]?) (constV z).cells (ps.map fun p => (p.1, evV ts p.2)) = some cells ∧ K (.agg cells) T
  | _, _ => AOp P o ts T K
def vBuildSlice (t : TypeId) (n : Nat) (ps : List (Nat × Operand)) : Prop :=
  match look I.sl t with
  | none => AOp P o ts T K
  | some e =>
    match ps with
    | [(0, x)] => if n = 1 then True ∧ ((evV ts x).okc = true ∧ (evV ts x).cells.length = e.2.1 ∧ e.2.1 ≤ 16777216) ∧ K (.sl (evV ts x).er.cells 1 .exact) T else AOp P o ts T K
    | _ => AOp P o ts T K
def Tok.live (T : Tb) (sz : Nat) : Tok → Prop
  | .exact => True
  | .nil => True
  | .own id sz' => sz' = sz ∧ T id = some .row
  | .no => False
def vAppend (t : TypeId) (x y : Operand) : Prop :=
  match evV ts x, evV ts y, look I.sl t with
  | .sl cs n tok, .sl ds m _, some e => (cs.length = n * e.2.1 ∧ ds.length = m * e.2.1 ∧ (∀ v ∈ ds, v.one = true) ∧ tok.live T e.2.1 ∧ (n + m) * e.2.2 ≤ 140737488355328 ∧ n + m ≤ 4611686018427387904) ∧
      ∀ b, b = T.lim → T b = none → K (.sl (cs ++ ds) (n + m) (.own b e.2.1)) ((tok.dead T).set b .row)
  | _, _, _ => AOp P o ts T K
def vLen (t : TypeId) (x : Operand) : Prop :=
  match evV ts x with
  | .sl _ n _ => (look I.sl t).isSome = true ∧ K (.lit (.int .i64 n)) T
  | .ms _ _ n _ => (look I.sl t).isSome = true ∧ K (.lit (.int .i64 n)) T
  | .lit (.string s) => I.st.contains t = true ∧ K (.lit (.int .i64 s.size)) T
  | _ => AOp P o ts T K
def vCall (g : Operand) (xs : List Operand) : Prop :=
  match evV ts g with
  | .fn (.func f) first captured => I.fn.contains f = true ∧ ACalls P f (first ++ xs.map (evV ts) ++ captured) T K
  | _ => AOp P o ts T K

def vcOp : Prop :=
  match o.op with
  | .move x | .assign x => K (evV ts x) T
  | .pick c x y => (match evV ts c with | .lit (.bool b) => bcase b (K (evV ts x) T) (K (evV ts y) T) | _ => AOp P o ts T K)
  | .extract x i => (match evV ts x with | .tup vs => (match vs[i]? with | some v => K v T | none => False) | _ => AOp P o ts T K)
  | .binOp op t x y _ => vBin P I o ts T K op t x y
  | .unOp op _ x => vUn P o ts T K op x
  | .convert src dst x => vConv P I o ts T K src dst x
  | .load t x => vLoad P I o ts T K t x
  | .store t x y => vStore P I o ts T K t x y
  | .alloc e => vAlloc P I o ts T K e
  | .box _ x => (evV ts x).okc = true ∧ ∀ b, b = T.lim → T b = none → K (.ptr b 0) (T.set b (.cells (evV ts x).cells))
  | .fieldAddr s x f => vField P I o ts T K s x f
  | .indexAddr t x y => vIndexAddr P I o ts T K t x y
  | .index t x y => vIndex P I o ts T K t x y
  | .nilCheck x => vNil P o ts T K x
  | .slice t x lo hi mx => vSlice P I o ts T K t x lo hi mx
  | .buildSlice t n ps => vBuildSlice P I o ts T K t n ps.toList
  | .build t ps => vBuild P I o ts T K t ps.toList
  | .call { callee := .builtin .append, args, argTypes } => (match args.toList, argTypes.toList with | [x, y], [t, t'] => if t = t' then vAppend P I o ts T K t x y else AOp P o ts T K | _, _ => AOp P o ts T K)
  | .call { callee := .builtin .len, args, argTypes } => (match args.toList, argTypes.toList with | [x], [t] => vLen P I o ts T K t x | _, _ => AOp P o ts T K)
  | .call { callee := .value g, args, .. } => vCall P I o ts T K g args.toList
  | _ => AOp P o ts T K
end

section
variable {P : Program} {t : TypeId}
theorem run_equal_bool (hu : P.underlying t = some .bool) (a b : Bool) (w : World) : (Op.equal t (.bool a) (.bool b)).run P w = .ok (a == b) w := by
  have h : ∀ d, (Op.equalIn (d + 1) t (.bool a) (.bool b)).run P w = .ok (a == b) w := fun d => by simp [Op.equalIn, run_underlying hu]
  exact h 9999
theorem run_equal_ptr_nil {e : TypeId} (hu : P.underlying t = some (.pointer e)) (a : Addr) (w : World) : (Op.equal t (.pointer (some a)) (.pointer none)).run P w = .ok false w := by
  have h : ∀ d, (Op.equalIn (d + 1) t (.pointer (some a)) (.pointer none)).run P w = .ok false w := fun d => by simp [Op.equalIn, run_underlying hu]
  exact h 9999
theorem run_equal_nil_nil {e : TypeId} (hu : P.underlying t = some (.pointer e)) (w : World) : (Op.equal t (.pointer none) (.pointer none)).run P w = .ok true w := by
  have h : ∀ d, (Op.equalIn (d + 1) t (.pointer none) (.pointer none)).run P w = .ok true w := fun d => by simp [Op.equalIn, run_underlying hu]
  exact h 9999
end
section
variable {P : Program} {I : TI} {o : Oper} {ts : List V} {T : Tb} {K : V → Tb → Prop}
theorem vBin_sound (hI : I.Ok P) {op : BinOp} {t yt : TypeId} {x y : Operand} (ho : o.op = .binOp op t x y yt) (h : vBin P I o ts T K op t x y) : AOp P o ts T K := by
  unfold vBin at h
  split at h
  · rename_i k a k' b hx hy
    exact aop_bin ho hx hy (guard_int op t x y k k' a b) (bin_int op t k k' a b h.1) (ival_flat op k a b) h.2
  · rename_i a b hx hy
    obtain ⟨hb, h⟩ := h
    have hu := hI.bo' hb
    split at h
    · exact aop_binr (r := .bool (a == b)) ho (fun G w ac hl w => by rw [hl.ev_lit hx, hl.ev_lit hy]; simp only [eqGuard, Go.binOp, Sem.run_bind, Sem.run_pure, Result.andThen_ok, run_equal_bool hu]; rfl) rfl h
    · exact aop_binr (r := .bool (!(a == b))) ho (fun G w ac hl w => by rw [hl.ev_lit hx, hl.ev_lit hy]; simp only [eqGuard, Go.binOp, Sem.run_bind, Sem.run_pure, Result.andThen_ok, run_equal_bool hu]; rfl) rfl h
    · exact h
  · rename_i a b hx hy
    split at h
    · exact aop_bin (r := .bool (a.toList == b.toList)) ho hx hy rfl (by simp [Go.binOp, Op.stringOp]) rfl h
    · exact aop_bin (r := .bool (!(a.toList == b.toList))) ho hx hy rfl (by simp [Go.binOp, Op.stringOp]) rfl h
    · exact aop_bin (r := .bool (Op.bytesLess a.toList b.toList)) ho hx hy rfl (by simp [Go.binOp, Op.stringOp]) rfl h
    · exact aop_bin (r := .string (a ++ b)) ho hx hy rfl (by
        have h1 := h.1
        have e : IntKind.i64.max = 9223372036854775807 := rfl
        simp only [Go.binOp, Op.stringOp, e]
        rw [if_neg (by omega)]) rfl h.2
    · exact h
  · rename_i b off hx hy
    obtain ⟨hb, h⟩ := h
    obtain ⟨e, hu⟩ := hI.pt' hb
    have hp : ∀ (G : Gh) (w : World) (ac : Act), LRel G w ts ac.tmps.toList → ∃ g, ac.eval x = .pointer (some g) := fun G w ac hl => by
      have := hl.ev x
      rw [hx] at this
      generalize ac.eval x = u at this
      cases this
      exact ⟨_, rfl⟩
    split at h
    · exact aop_binr (r := .bool false) ho (fun G w ac hl w' => by obtain ⟨g, hg⟩ := hp G w ac hl; rw [hg, hl.ev_lit hy]; simp only [eqGuard, Go.binOp, Sem.run_bind, Sem.run_pure, Result.andThen_ok, run_equal_ptr_nil hu]; rfl) rfl h
    · exact aop_binr (r := .bool true) ho (fun G w ac hl w' => by obtain ⟨g, hg⟩ := hp G w ac hl; rw [hg, hl.ev_lit hy]; simp only [eqGuard, Go.binOp, Sem.run_bind, Sem.run_pure, Result.andThen_ok, run_equal_ptr_nil hu]; rfl) rfl h
    · exact h
  · rename_i hx hy
    obtain ⟨hb, h⟩ := h
    obtain ⟨e, hu⟩ := hI.pt' hb
    split at h
    · exact aop_binr (r := .bool true) ho (fun G w ac hl w' => by rw [hl.ev_lit hx, hl.ev_lit hy]; simp only [eqGuard, Go.binOp, Sem.run_bind, Sem.run_pure, Result.andThen_ok, run_equal_nil_nil hu]; rfl) rfl h
    · exact aop_binr (r := .bool false) ho (fun G w ac hl w' => by rw [hl.ev_lit hx, hl.ev_lit hy]; simp only [eqGuard, Go.binOp, Sem.run_bind, Sem.run_pure, Result.andThen_ok, run_equal_nil_nil hu]; rfl) rfl h
    · exact h
  · exact h
theorem vUn_sound {op : UnOp} {t : TypeId} {x : Operand} (ho : o.op = .unOp op t x) (h : vUn P o ts T K op x) : AOp P o ts T K := by
  unfold vUn at h
  split at h
  · rename_i hx; exact aop_un ho hx (by simp [Op.unary]) rfl h
  · rename_i hx; exact aop_un ho hx (by simp [Op.unary, Op.intArith]) rfl h
  · rename_i hx; exact aop_un ho hx (by simp [Op.unary, Op.intBits, ibits]) rfl h
  · exact h
theorem vConv_sound (hI : I.Ok P) {src dst : TypeId} {x : Operand} (ho : o.op = .convert src dst x) (h : vConv P I o ts T K src dst x) : AOp P o ts T K := by
  unfold vConv at h
  split at h
  · rename_i k0 n d k hx h1 h2
    have e1 := hI.ik' h1
    have e2 := hI.ik' h2
    exact aop_conv (r := .int k (k.wrap n)) ho hx (fun w => by simp [convert, run_underlying e1, run_underlying e2, Conv.intToInt]) rfl h
  · exact h
theorem vLoad_sound (hI : I.Ok P) {t : TypeId} {x : Operand} (ho : o.op = .load t x) (h : vLoad P I o ts T K t x) : AOp P o ts T K := by
  unfold vLoad at h
  split at h
  · rename_i cells off hx
    unfold vRead at h
    split at h
    · rename_i hs
      obtain ⟨v, hv, hk⟩ := h
      exact aop_load_ep ho hx (hI.sc' hs) hv hk
    · split at h
      · rename_i n hn
        obtain ⟨h1, h2⟩ := hI.ag' hn
        exact aop_load_ep_ag ho hx h1 h2 h.1 h.2
      · exact h.elim
  · rename_i b off hx
    obtain ⟨cs, hT, h⟩ := h
    unfold vRead at h
    split at h
    · rename_i hs
      obtain ⟨v, hv, hk⟩ := h
      exact aop_load ho hx hT (hI.sc' hs) hv hk
    · split at h
      · rename_i n hn
        obtain ⟨h1, h2⟩ := hI.ag' hn
        exact aop_load_ag ho hx hT h1 h2 h.1 h.2
      · exact h.elim
  · exact h
theorem V.okc_all {v : V} (_h : v.okc = true) (ha : (v.cells.all V.one) = true) : ∀ x ∈ v.cells, x.one = true := fun x hx => List.all_eq_true.1 ha x hx
theorem vStore_sound (hI : I.Ok P) (hs1 : I.sc.all (fun t => szB P t 1) = true) {t : TypeId} {x y : Operand} (ho : o.op = .store t x y) (h : vStore P I o ts T K t x y) : AOp P o ts T K := by
  unfold vStore at h
  split at h
  · rename_i b off n hx hn
    obtain ⟨cs, hT, ⟨h1, h2, h3, h4⟩, hk⟩ := h
    have hz : szB P t n = true := by
      unfold szV at hn
      split at hn
      · rename_i hc; injection hn with hn; subst hn; exact List.all_eq_true.1 hs1 t (by simpa using hc)
      · exact (hI.ag' hn).2
    exact aop_store ho hx hT (V.okc_or h1) (V.okc_all h1 h2) hz h3 h4 hk
  · exact h
theorem vAlloc_sound (hI : I.Ok P) {e : TypeId} (ho : o.op = .alloc e) (h : vAlloc P I o ts T K e) : AOp P o ts T K := by
  unfold vAlloc at h
  split at h
  · rename_i z hz; exact aop_alloc ho (hI.ze _ (look_mem hz)) h
  · exact h
theorem vField_sound (hI : I.Ok P) {s : TypeId} {x : Operand} {f : Nat} (ho : o.op = .fieldAddr s x f) (h : vField P I o ts T K s x f) : AOp P o ts T K := by
  unfold vField at h
  split at h
  · rename_i hx hf; exact aop_field_ep ho hx (hI.fd' hf) h
  · rename_i hx hf; exact aop_field_ptr ho hx (hI.fd' hf) h
  · exact h
theorem vIndexAddr_sound (hI : I.Ok P) {t : TypeId} {x y : Operand} (ho : o.op = .indexAddr t x y) (h : vIndexAddr P I o ts T K t x y) : AOp P o ts T K := by
  unfold vIndexAddr at h
  split at h
  · rename_i hx hy
    split at h
    · rename_i e he; exact aop_index_sl ho hx hy (hI.sl' he) h.1.1 h.1.2 h.2
    · exact h.elim
  · rename_i hx hy
    split at h
    · rename_i e he; exact aop_index_ms ho hx hy (hI.sl' he) h.1.1 h.1.2 h.2
    · exact h.elim
  · rename_i hx hy
    split at h
    · rename_i e he; exact aop_index_ar ho hx hy (hI.ar' he) h.1.1 h.1.2 h.2
    · exact h.elim
  · rename_i hx hy
    split at h
    · rename_i e he; exact aop_index_ear ho hx hy (hI.ar' he) h.1.1 h.1.2 h.2
    · exact h.elim
  · exact h
theorem vIndex_sound (hI : I.Ok P) {t : TypeId} {x y : Operand} (ho : o.op = .index t x y) (h : vIndex P I o ts T K t x y) : AOp P o ts T K := by
  unfold vIndex at h
  split at h
  · rename_i hx hy
    obtain ⟨h1, h2, c, h3, h4⟩ := h
    exact aop_index_str ho hx hy (hI.st' h1) h2 h3 h4
  · exact h
theorem vNil_sound {x : Operand} (ho : o.op = .nilCheck x) (h : vNil P o ts T K x) : AOp P o ts T K := by
  unfold vNil at h
  split at h
  · rename_i hx; exact aop_nilCheck ho (.inl ⟨_, _, hx⟩) (by rw [hx]; exact h)
  · rename_i hx; exact aop_nilCheck ho (.inr (.inl ⟨_, _, hx⟩)) (by rw [hx]; exact h)
  · rename_i hx; exact aop_nilCheck ho (.inr (.inr ⟨_, _, _, hx⟩)) (by rw [hx]; exact h)
  · exact h
theorem aop_tok_no {cs : List V} {n : Nat} {tok : Tok} (h : AOp P o ts T fun v T' => v = .sl cs n tok ∧ T' = T) (hk : K (.sl cs n .no) T) : AOp P o ts T K := by
  intro B w0 G w a hr hl next Q' hn
  refine h B w0 G w a hr hl next Q' ?_
  rintro u v G' w' T' h1 h2 h3 ⟨rfl, rfl⟩
  exact hn u _ G' w' _ h1 h2.tok_no h3 hk
theorem vBuild_sound (hI : I.Ok P) {t : TypeId} {ps : List (Nat × Operand)} (ho : o.op = .build t ps.toArray) (h : vBuild P I o ts T K t ps) : AOp P o ts T K := by
  unfold vBuild at h
  split at h
  · rename_i pl z hp hz
    obtain ⟨h1, cells, h2, h3⟩ := h
    exact aop_build ho (hI.ze _ (look_mem hz)) (hI.pl' hp) (fun p hp => V.okc_or (List.all_eq_true.1 h1 p hp)) h2 h3
  · exact h
theorem vSlice_sound (hI : I.Ok P) {t : TypeId} {x : Operand} {lo hi mx : Option Operand} (ho : o.op = .slice t x lo hi mx) (h : vSlice P I o ts T K t x lo hi mx) : AOp P o ts T K := by
  unfold vSlice at h
  split at h
  · rename_i hx
    split at h
    · rename_i e he
      obtain ⟨h1, l, r, h2, h3, ⟨h4, h5⟩, h6⟩ := h
      exact aop_tok_no (aop_slice_sl ho hx (hI.sl' he) h1 h2 h3 h4 h5 ⟨rfl, rfl⟩) h6
    · exact h.elim
  · rename_i hx
    obtain ⟨h1, l, r, h2, h3, ⟨h4, h5⟩, h6⟩ := h
    exact aop_slice_str ho hx (hI.st' h1) h2 h3 h4 h5 h6
  · rename_i hx
    split at h
    · rename_i e he
      obtain ⟨l, r, h2, h3, ⟨h4, h5, h5'⟩, h6⟩ := h
      exact aop_slice_ms ho hx (hI.sl' he) h2 h3 h4 h5 h5' h6
    · exact h.elim
  · exact h
theorem vAppend_sound (hI : I.Ok P) {t : TypeId} {x y : Operand} (ho : o.op = .call { callee := .builtin .append, args := #[x, y], argTypes := #[t, t] }) (h : vAppend P I o ts T K t x y) : AOp P o ts T K := by
  unfold vAppend at h
  split at h
  · rename_i cs n tok ds m tok2 e hx hy he
    obtain ⟨⟨h1, h2, h3, h4, h5, h6⟩, h7⟩ := h
    refine aop_append ho hx hy (hI.sl' he) h1 h2 h3 ?_ h5 h6 h7
    cases tok with
    | no => exact h4.elim
    | exact => exact .inl (.inl rfl)
    | nil => exact .inl (.inr rfl)
    | own id sz => obtain ⟨rfl, h4⟩ := h4; exact .inr ⟨id, rfl, h4⟩
  · exact h
theorem vLen_sound (hI : I.Ok P) {t : TypeId} {x : Operand} (ho : o.op = .call { callee := .builtin .len, args := #[x], argTypes := #[t] }) (h : vLen P I o ts T K t x) : AOp P o ts T K := by
  unfold vLen at h
  split at h
  · rename_i hx
    obtain ⟨e, he⟩ := Option.isSome_iff_exists.1 h.1
    exact aop_len_sl (ty := 0) ho hx (hI.sl' he).und h.2
  · rename_i hx
    obtain ⟨e, he⟩ := Option.isSome_iff_exists.1 h.1
    exact aop_len_ms ho hx (hI.sl' he).und h.2
  · rename_i hx; exact aop_len_str ho hx (hI.st' h.1) h.2
  · exact h
theorem vCall_sound (hI : I.Ok P) {g : Operand} {xs : List Operand} {tys : Array TypeId} (ho : o.op = .call { callee := .value g, args := xs.toArray, argTypes := tys }) (h : vCall P I o ts T K g xs) : AOp P o ts T K := by
  unfold vCall at h
  split at h
  · rename_i hg; exact aop_call ho hg (hI.fn' h.1) h.2
  · exact h
theorem er_cells (v : V) : v.er.cells = v.cells.map V.er1 := by cases v <;> first | rfl | (rename_i c n tok; cases tok <;> rfl)
/-- A slice's elements without the right to append. -/
theorem VRel.sl_er {G : Gh} {w : World} {cs : List V} {n : Nat} {tok : Tok} {u : Value} (h : VRel G w (.sl cs n tok) u) : VRel G w (.sl (cs.map V.er1) n tok) u := by
  cases h with
  | sl cells n tok a c u h1 h2 h3 h4 h5 h6 =>
    refine .sl _ n tok a c u h1 h2 (fun e => by obtain ⟨k1, k2⟩ := h3 e; exact ⟨by simp [k1], k2⟩) (fun ad ha i hi => h4 ad ha i (by simpa using hi)) (fun i x hx => ?_) (by simpa using h6)
    rw [List.getElem?_map] at hx
    cases hy : cs[i]? with
    | none => rw [hy] at hx; cases hx
    | some y => rw [hy] at hx; simp at hx; subst hx; exact (h5 i y hy).er1
theorem aop_conv_er {cs : V} {n : Nat} {tok : Tok} (h : AOp P o ts T fun v T' => v = .sl cs.cells n tok ∧ T' = T) (hk : K (.sl cs.er.cells n tok) T) : AOp P o ts T K := by
  intro B w0 G w a hr hl next Q' hn
  refine h B w0 G w a hr hl next Q' ?_
  rintro u v G' w' T' h1 h2 h3 ⟨rfl, rfl⟩
  have := h2.sl_er
  rw [← er_cells] at this
  exact hn u _ G' w' _ h1 this h3 hk
theorem one_elem {sz : Nat} (v : V) (cells : List V) (hz : v.cells.length = sz) (hc : cells.length = 1 * sz) : vfill (fun i => some (i * sz, sz)) cells [(0, v)] = some v.cells := by
  simp only [vfill, Nat.zero_mul, Nat.zero_add]
  rw [if_pos ⟨hz, by omega⟩]
  simp [spl, hz, hc]
theorem vBuildSlice_sound (hI : I.Ok P) (hsz : I.sl.all (fun x => (look I.ze x.2.1).any fun z => z.cells.size == x.2.2.1) = true) {t : TypeId} {n : Nat} {ps : List (Nat × Operand)} (ho : o.op = .buildSlice t n ps.toArray) (h : vBuildSlice P I o ts T K t n ps) : AOp P o ts T K := by
  unfold vBuildSlice at h
  split at h
  · exact h
  · rename_i e he
    split at h
    · rename_i x
      split at h
      rotate_left
      · exact h
      rename_i hn1
      subst hn1
      obtain ⟨_, ⟨h1, h2, h3⟩, h4⟩ := h
      have hs := hI.sl' he
      have hz := List.all_eq_true.1 hsz _ (look_mem he)
      simp only [Option.any_eq_true] at hz
      obtain ⟨z, hz1, hz2⟩ := hz
      refine aop_conv_er ?_ h4
      refine aop_buildSlice (n := 1) ho hs (hI.ze _ (look_mem hz1)) (by omega) (by omega) (by simpa using hz2) (fun p hp => ?_) (one_elem _ _ h2 (by simp)) ⟨rfl, rfl⟩
      simp at hp
      subst hp
      exact V.okc_or h1
    · exact h

structure TI.All (P : Program) (I : TI) : Prop extends I.Ok P where
  s1 : I.sc.all (fun t => szB P t 1) = true
  zs : I.sl.all (fun x => (look I.ze x.2.1).any fun z => z.cells.size == x.2.2.1) = true
  mt : I.mt.all (fun x => mapB P x.1 x.2.1 x.2.2.1 x.2.2.2) = true
  cc : I.cc.all (fun t => concB P t) = true
  iv : I.iv.all (fun x => invB P x.1.1 x.1.2 x.2 && fnB P x.2) = true
  bs : I.bs.all (fun x => (match P.underlying x.1 with | some (.slice e) => e == x.2 | _ => false) && (match P.underlying x.2 with | some (.int .u8) => true | _ => false)) = true

theorem vcOp_sound (hI : I.All P) (h : vcOp P I o ts T K) : AOp P o ts T K := by
  unfold vcOp at h
  split at h
  · rename_i x ho; exact aop_move ho h
  · rename_i x ho; exact aop_assign ho h
  · rename_i c x y ho
    split at h
    · rename_i b hc
      refine aop_pick ho hc ?_
      cases b
      · exact h.2 rfl
      · exact h.1 rfl
    · exact h
  · rename_i x i ho
    split at h
    · rename_i vs hx
      split at h
      · rename_i v hv; exact aop_extract ho hx hv h
      · exact h.elim
    · exact h
  · rename_i op t x y yt ho; exact vBin_sound hI.toOk ho h
  · rename_i op t x ho; exact vUn_sound ho h
  · rename_i src dst x ho; exact vConv_sound hI.toOk ho h
  · rename_i t x ho; exact vLoad_sound hI.toOk ho h
  · rename_i t x y ho; exact vStore_sound hI.toOk hI.s1 ho h
  · rename_i e ho; exact vAlloc_sound hI.toOk ho h
  · rename_i e x ho; exact aop_box ho (V.okc_or h.1) h.2
  · rename_i s x f ho; exact vField_sound hI.toOk ho h
  · rename_i t x y ho; exact vIndexAddr_sound hI.toOk ho h
  · rename_i t x y ho; exact vIndex_sound hI.toOk ho h
  · rename_i x ho; exact vNil_sound ho h
  · rename_i t x lo hi mx ho; exact vSlice_sound hI.toOk ho h
  · rename_i t n ps ho; exact vBuildSlice_sound hI.toOk hI.zs (ps := ps.toList) (by simpa using ho) h
  · rename_i t ps ho; exact vBuild_sound hI.toOk (ps := ps.toList) (by simpa using ho) h
  · rename_i args tys ho
    split at h
    · rename_i x y t t' h1 h2
      split at h
      · rename_i ht
        subst ht
        have e1 : args = #[x, y] := by apply Array.toList_inj.1; simpa using h1
        have e2 : tys = #[t, t] := by apply Array.toList_inj.1; simpa using h2
        subst e1; subst e2
        exact vAppend_sound hI.toOk ho h
      · exact h
    · exact h
  · rename_i args tys ho
    split at h
    · rename_i x t h1 h2
      have e1 : args = #[x] := by apply Array.toList_inj.1; simpa using h1
      have e2 : tys = #[t] := by apply Array.toList_inj.1; simpa using h2
      subst e1; subst e2
      exact vLen_sound hI.toOk ho h
    · exact h
  · rename_i g args tys ho; exact vCall_sound hI.toOk (xs := args.toList) (by simpa using ho) h
  · exact h

/-! ### Rows of operations, and code -/
def vcOps (P : Program) (I : TI) (ops : Array Oper) : List Oper → List V → Tb → (List V → Tb → Prop) → Prop
  | [], ts, T, Q => Q ts T
  | o :: rest, ts, T, Q =>
    match o.guard with
    | none => vcOp P I o ts T fun v T' => vcOps P I ops rest (putV ts o.dst v) T' Q
    | some (j, want) =>
      match (ops[j]?).bind (·.dst) with
      | none => False
      | some d =>
        match ts[d]? with
        | some (.lit (.bool b)) =>
          bcase b (if want then vcOp P I o (ts.set d (.lit (.bool true))) T fun v T' => vcOps P I ops rest (putV (ts.set d (.lit (.bool true))) o.dst v) T' Q else vcOps P I ops rest (putV (ts.set d (.lit (.bool true))) o.dst (.tup [])) T Q)
            (if want then vcOps P I ops rest (putV (ts.set d (.lit (.bool false))) o.dst (.tup [])) T Q else vcOp P I o (ts.set d (.lit (.bool false))) T fun v T' => vcOps P I ops rest (putV (ts.set d (.lit (.bool false))) o.dst v) T' Q)
        | some (.tup []) => vcOps P I ops rest (putV ts o.dst (.tup [])) T Q
        | _ => False
theorem set_same {α : Type} (l : List α) (d : Nat) (x : α) (h : l[d]? = some x) : l.set d x = l := by
  apply List.ext_getElem?
  intro j
  rw [List.getElem?_set]
  split
  · rename_i e
    subst e
    split
    · exact h.symm
    · rename_i hlt; rw [List.getElem?_eq_none (by omega)] at h; cases h
  · rfl
theorem vcOps_sound (hI : I.All P) {ops : Array Oper} {Q : List V → Tb → Prop} (l : List Oper) : ∀ (ts : List V) (T : Tb), vcOps P I ops l ts T Q → AOps P ops Q l ts T := by
  induction l with
  | nil => intro ts T h; exact h
  | cons o rest ih =>
    intro ts T h
    unfold vcOps at h
    unfold AOps
    split at h
    · rename_i hg
      rw [hg]
      exact aop_mono (vcOp_sound hI h) fun v T' h' => ih _ _ h'
    · rename_i j want hg
      rw [hg]
      simp only
      split at h
      · exact h.elim
      · rename_i d hd
        split at h
        · rename_i b hb
          refine .inl ⟨b, by unfold yieldV; rw [hd]; simp [hb], fun e => ?_, fun e => ?_⟩
          · subst e
            cases b
            · have h2 := h.2 rfl
              rw [set_same ts d _ hb] at h2
              simp at h2
              exact aop_mono (vcOp_sound hI h2) fun v T' h' => ih _ _ h'
            · have h1 := h.1 rfl
              rw [set_same ts d _ hb] at h1
              simp at h1
              exact aop_mono (vcOp_sound hI h1) fun v T' h' => ih _ _ h'
          · cases b
            · have h2 := h.2 rfl
              rw [set_same ts d _ hb] at h2
              have : want = true := by cases want <;> simp_all
              subst this
              simp at h2
              exact ih _ _ h2
            · have h1 := h.1 rfl
              rw [set_same ts d _ hb] at h1
              have : want = false := by cases want <;> simp_all
              subst this
              simp at h1
              exact ih _ _ h1
        · rename_i hb
          exact .inr ⟨by unfold undV; rw [hd]; simp [hb], ih _ _ h⟩
        · exact h.elim

def vc (P : Program) (I : TI) : Code → List V → Tb → (Exit → List V → Tb → Prop) → Prop
  | .region _ ops false, ts, T, Q => vcOps P I ops ops.toList ts T (Q .normal)
  | .seq x y, ts, T, Q => vc P I x ts T (AThen (AWP P y Q) Q)
  | .block id c, ts, T, Q => vc P I c ts T (AIn id Q)
  | .cond c x y, ts, T, Q =>
    match evV ts c with
    | .lit (.bool b) => bcase b (AWP P x Q ts T) (AWP P y Q ts T)
    | _ => AWP P (.cond c x y) Q ts T
  | .ret, ts, T, Q => Q .ret ts T
  | .skip, ts, T, Q => Q .normal ts T
  | .exit id, ts, T, Q => Q (.exit id) ts T
  | c, ts, T, Q => AWP P c Q ts T
theorem vc_sound (hI : I.All P) (c : Code) : ∀ (ts : List V) (T : Tb) (Q : Exit → List V → Tb → Prop), vc P I c ts T Q → AWP P c Q ts T := by
  induction c with
  | region id ops draw =>
    intro ts T Q h
    cases draw with
    | true => exact h
    | false =>
      obtain ⟨ops⟩ := ops
      exact awp_region (vcOps_sound hI ops ts T h)
  | seq x y ihx _ =>
    intro ts T Q h
    exact awp_seq (ihx ts T _ h)
  | block id c ih =>
    intro ts T Q h
    exact awp_block (ih ts T _ h)
  | cond c x y _ _ =>
    intro ts T Q h
    unfold vc at h
    split at h
    · rename_i b hb
      exact awp_cond hb h.1 h.2
    · exact h
  | ret => intro ts T Q h; exact awp_ret h
  | skip => intro ts T Q h; exact awp_skip h
  | exit id => intro ts T Q h; exact awp_exit h
  | _ => intro ts T Q h; exact h
end
end Go.Ae
