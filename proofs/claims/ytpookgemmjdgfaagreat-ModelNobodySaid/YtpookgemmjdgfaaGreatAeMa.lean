/- A part of the proof: a machine on trees that is sound for the model, its tables, and contracts of functions. Conditions: none. -/
import Derived.Test.YtpookgemmjdgfaaGreatAeTj
namespace Go.Ae
open Go.RowKit
noncomputable section

/-! ### Symbolic execution: shapes of what is read -/
inductive Sh where
  | any
  | int (k : IntKind)
  | bool
  | str
  | flt
  | sl
  | agg (l : List Sh)
  | tup (l : List Sh)
mutual
def Sh.dec (sh : Sh) (v : V) (K : V → Prop) : Prop :=
  match sh with
  | .any => K v
  | .int k => ∃ x : Int, v = .lit (.int k x) ∧ K (.lit (.int k x))
  | .bool => ∃ x : Bool, v = .lit (.bool x) ∧ K (.lit (.bool x))
  | .str => ∃ x : ByteArray, v = .lit (.string x) ∧ K (.lit (.string x))
  | .flt => ∃ x : Nat, v = .lit (.float .f64 x) ∧ K (.lit (.float .f64 x))
  | .sl => ∃ (c : List V) (n : Nat) (t : Tok), v = .sl c n t ∧ K (.sl c n t)
  | .agg l => ∃ cs, v = .agg cs ∧ decL l cs fun cs' => K (.agg cs')
  | .tup l => ∃ cs, v = .tup cs ∧ decL l cs fun cs' => K (.tup cs')
def decL (l : List Sh) (cs : List V) (K : List V → Prop) : Prop :=
  match l with
  | [] => cs = [] ∧ K []
  | sh :: l => ∃ c r, cs = c :: r ∧ sh.dec c fun c' => decL l r fun r' => K (c' :: r')
end
mutual
theorem Sh.dec_sound : ∀ (sh : Sh) (v : V) (K : V → Prop), sh.dec v K → K v
  | .any, v, K, h => by simpa [Sh.dec] using h
  | .int k, v, K, h => by simp only [Sh.dec] at h; obtain ⟨x, rfl, h⟩ := h; exact h
  | .bool, v, K, h => by simp only [Sh.dec] at h; obtain ⟨x, rfl, h⟩ := h; exact h
  | .str, v, K, h => by simp only [Sh.dec] at h; obtain ⟨x, rfl, h⟩ := h; exact h
  | .flt, v, K, h => by simp only [Sh.dec] at h; obtain ⟨x, rfl, h⟩ := h; exact h
  | .sl, v, K, h => by simp only [Sh.dec] at h; obtain ⟨x, n, t, rfl, h⟩ := h; exact h
  | .agg l, v, K, h => by simp only [Sh.dec] at h; obtain ⟨x, rfl, h⟩ := h; exact decL_sound l x _ h
  | .tup l, v, K, h => by simp only [Sh.dec] at h; obtain ⟨x, rfl, h⟩ := h; exact decL_sound l x _ h
theorem decL_sound : ∀ (l : List Sh) (cs : List V) (K : List V → Prop), decL l cs K → K cs
  | [], cs, K, h => by simp only [decL] at h; obtain ⟨rfl, h⟩ := h; exact h
  | sh :: l, cs, K, h => by
    simp only [decL] at h
    obtain ⟨c, r, rfl, h⟩ := h
    exact decL_sound l r (fun r' => K (c :: r')) (Sh.dec_sound sh c _ h)
end
def bc (b : Bool) (A B : Prop) : Prop := Bool.rec B A b
theorem bc_of {b : Bool} {A B : Prop} (h1 : b = true → A) (h2 : b = false → B) : bc b A B := by
  cases b
  · exact h2 rfl
  · exact h1 rfl
theorem of_bc {b : Bool} {A B : Prop} (h : bc b A B) : (b = true → A) ∧ (b = false → B) := by
  cases b
  · exact ⟨(fun e => by cases e), fun _ => h⟩
  · exact ⟨fun _ => h, (fun e => by cases e)⟩
def shO (OP : List (Nat × Sh)) : Option Nat → Option Sh
  | none => none
  | some d => look OP d

/-! ### One instruction -/
def gRead (o : Option Sh) (sc : Bool) (n : Nat) (cells : List V) (off : Nat) (K : V → Prop) : Prop :=
  match o with
  | none => (match fRead sc n cells off with | some v => K v | none => False)
  | some sh => bc sc (∃ v, cells[off]? = some v ∧ sh.dec v K) (off + n ≤ cells.length ∧ sh.dec (.agg ((cells.drop off).take n)) K)
def gLoad (o : Option Sh) (rd : Nat → Option AObj) (sc : Bool) (n : Nat) (x : V) (K : V → Prop) : Prop :=
  match x with
  | .ep cells off => gRead o sc n cells off K
  | .ptr b off => (match rd b with | some (.cells cs) => gRead o sc n cs off K | _ => False)
  | _ => False
def gIxs (sz : Nat) (x y : V) (K : V → Prop) : Prop :=
  match x, y with
  | .sl cells n _, .lit (.int _ j) => (0 ≤ j ∧ j < n) ∧ K (.ep cells (j.toNat * sz))
  | .ms b off n _, .lit (.int _ j) => (0 ≤ j ∧ j < n) ∧ K (.ptr b (off + j.toNat * sz))
  | _, _ => False
def gIxa (len sz : Nat) (x y : V) (K : V → Prop) : Prop :=
  match x, y with
  | .ptr b off, .lit (.int _ j) => (0 ≤ j ∧ j < len) ∧ K (.ptr b (off + j.toNat * sz))
  | .ep cells off, .lit (.int _ j) => (0 ≤ j ∧ j < len) ∧ K (.ep cells (off + j.toNat * sz))
  | _, _ => False
def gIx (x y : V) (K : V → Prop) : Prop :=
  match x, y with
  | .lit (.string s), .lit (.int _ j) => 0 ≤ j ∧ ∃ c, (bl s)[j.toNat]? = some c ∧ K (.lit (.int .u8 c.toNat))
  | _, _ => False
def gBnd (x : Option V) (d : Nat) (K : Nat → Prop) : Prop :=
  match x with
  | none => K d
  | some v => (match v with | .lit (.int _ j) => 0 ≤ j ∧ K j.toNat | _ => False)
def gSli (sz : Nat) (x : V) (lo hi : Option V) (K : V → Prop) : Prop :=
  match x with
  | .sl cells n _ => gBnd lo 0 fun l => gBnd hi n fun h => (cells.length = n * sz ∧ l ≤ h ∧ h ≤ n) ∧ K (.sl ((cells.drop (l * sz)).take ((h - l) * sz)) (h - l) .no)
  | .ms b off n ex => gBnd lo 0 fun l => gBnd hi n fun h => (l ≤ h ∧ h ≤ n ∧ (l < n ∨ l = 0)) ∧ K (.ms b (off + l * sz) (h - l) (ex && h == n))
  | _ => False
def gBin (b p : Bool) (op : BinOp) (x y : V) (K : V → Prop) : Prop :=
  match x, y with
  | .lit (.int k a), .lit (.int k' c) =>
    (match op with
    | .quo | .rem | .shl | .shr => iokB op k k' c = true ∧ K (.lit (ival op k a c))
    | _ => if k = k' then K (.lit (ival op k a c)) else False)
  | .lit (.string a), .lit (.string c) =>
    (match op with
    | .add => (bl a).length + (bl c).length ≤ 9223372036854775807 ∧ K (.lit (.string ⟨(bl a ++ bl c).toArray⟩))
    | _ => (match fBin b p op x y with | some v => K v | none => False))
  | _, _ => (match fBin b p op x y with | some v => K v | none => False)
/-- What reads: in continuation style. -/
def gRd (OP : List (Nat × Sh)) (d : Option Nat) (e : Env) (rd : Nat → Option AObj) (i : IOp) (K : V → Prop) : Prop :=
  match i with
  | .ld sc n x => gLoad (shO OP d) rd sc n (x.ev e) K
  | .ixs sz x y => gIxs sz (x.ev e) (y.ev e) K
  | .ixa len sz x y => gIxa len sz (x.ev e) (y.ev e) K
  | .ix x y => gIx (x.ev e) (y.ev e) K
  | .sli sz x lo hi => gSli sz (x.ev e) (lo.map (Src.ev e)) (hi.map (Src.ev e)) K
  | .bin op b p x y => gBin b p op (x.ev e) (y.ev e) K
  | .pick c x y => (match c.ev e with | .lit (.bool b) => bc b (K (x.ev e)) (K (y.ev e)) | _ => False)
  | i => (match fRd e rd i with | some v => K v | none => False)
section
variable {K : V → Prop}
theorem fRead_g {o : Option Sh} {sc : Bool} {n : Nat} {cells : List V} {off : Nat} (h : gRead o sc n cells off K) : ∃ v, fRead sc n cells off = some v ∧ K v := by
  unfold gRead at h
  split at h
  · split at h
    · rename_i v hv; exact ⟨v, hv, h⟩
    · exact h.elim
  · rename_i sh
    cases sc
    · have h' : off + n ≤ cells.length ∧ sh.dec (.agg ((cells.drop off).take n)) K := h
      refine ⟨.agg ((cells.drop off).take n), ?_, Sh.dec_sound _ _ _ h'.2⟩
      unfold fRead
      rw [if_neg (by simp), if_pos h'.1]
    · obtain ⟨v, h1, h2⟩ : ∃ v, cells[off]? = some v ∧ sh.dec v K := h
      exact ⟨v, by unfold fRead; rw [if_pos rfl]; exact h1, Sh.dec_sound _ _ _ h2⟩
theorem fBnd_g {x : Option V} {d : Nat} {K : Nat → Prop} (h : gBnd x d K) : ∃ l, fBnd x d = some l ∧ K l := by
  unfold gBnd at h
  split at h
  · exact ⟨d, rfl, h⟩
  · split at h
    · rename_i k j
      exact ⟨j.toNat, by simp only [fBnd]; rw [if_pos h.1], h.2⟩
    · exact h.elim
theorem fBin_g {b p : Bool} {op : BinOp} {x y : V} (h : gBin b p op x y K) : ∃ v, fBin b p op x y = some v ∧ K v := by
  unfold gBin at h
  split at h
  · rename_i k a k' c
    have fin : iokB op k k' c = true → K (.lit (ival op k a c)) → ∃ v, fBin b p op (.lit (.int k a)) (.lit (.int k' c)) = some v ∧ K v := fun h1 h2 => ⟨_, by simp only [fBin]; rw [if_pos h1], h2⟩
    split at h
    · exact fin h.1 h.2
    · exact fin h.1 h.2
    · exact fin h.1 h.2
    · exact fin h.1 h.2
    · rename_i h1 h2 h3 h4
      split at h
      · rename_i hk
        refine fin ?_ h
        subst hk
        cases op <;> first | (exact (h1 rfl).elim) | (exact (h2 rfl).elim) | (exact (h3 rfl).elim) | (exact (h4 rfl).elim) | simp [iokB]
      · exact h.elim
  · rename_i a c
    split at h
    · exact ⟨_, by simp only [fBin]; rw [if_pos h.1], h.2⟩
    · split at h
      · rename_i v hv; exact ⟨v, hv, h⟩
      · exact h.elim
  · split at h
    · rename_i v hv; exact ⟨v, hv, h⟩
    · exact h.elim
theorem fRd_g {OP : List (Nat × Sh)} {d : Option Nat} {e : Env} {rd : Nat → Option AObj} {i : IOp} (h : gRd OP d e rd i K) : ∃ v, fRd e rd i = some v ∧ K v := by
  unfold gRd at h
  split at h
  · rename_i sc n x
    unfold gLoad at h
    split at h
    · rename_i cells off hx
      obtain ⟨v, h1, h2⟩ := fRead_g h
      exact ⟨v, by simp only [fRd, fLoad, hx]; exact h1, h2⟩
    · rename_i b off hx
      split at h
      · rename_i cs hcs
        obtain ⟨v, h1, h2⟩ := fRead_g h
        exact ⟨v, by simp only [fRd, fLoad, hx, hcs]; exact h1, h2⟩
      · exact h.elim
    · exact h.elim
  · rename_i sz x y
    unfold gIxs at h
    split at h
    · rename_i hx hy; exact ⟨_, by simp only [fRd, fIxs, hx, hy]; rw [if_pos h.1], h.2⟩
    · rename_i hx hy; exact ⟨_, by simp only [fRd, fIxs, hx, hy]; rw [if_pos h.1], h.2⟩
    · exact h.elim
  · unfold gIxa at h
    split at h
    · rename_i hx hy; exact ⟨_, by simp only [fRd, fIxa, hx, hy]; rw [if_pos h.1], h.2⟩
    · rename_i hx hy; exact ⟨_, by simp only [fRd, fIxa, hx, hy]; rw [if_pos h.1], h.2⟩
    · exact h.elim
  · unfold gIx at h
    split at h
    · rename_i hx hy
      obtain ⟨h1, c, h2, h3⟩ := h
      exact ⟨_, by simp only [fRd, fIx, hx, hy]; rw [if_pos h1, h2], h3⟩
    · exact h.elim
  · unfold gSli at h
    split at h
    · rename_i hx
      obtain ⟨l, h1, h⟩ := fBnd_g h
      obtain ⟨hh, h2, h⟩ := fBnd_g h
      exact ⟨_, by simp only [fRd, fSlice, hx, h1, h2]; rw [if_pos h.1], h.2⟩
    · rename_i hx
      obtain ⟨l, h1, h⟩ := fBnd_g h
      obtain ⟨hh, h2, h⟩ := fBnd_g h
      exact ⟨_, by simp only [fRd, fSlice, hx, h1, h2]; rw [if_pos h.1], h.2⟩
    · exact h.elim
  · obtain ⟨v, h1, h2⟩ := fBin_g h
    exact ⟨v, h1, h2⟩
  · split at h
    · rename_i b hc
      obtain ⟨h1, h2⟩ := of_bc h
      cases b
      · exact ⟨_, by simp only [fRd, hc]; rfl, h2 rfl⟩
      · exact ⟨_, by simp only [fRd, hc]; rfl, h1 rfl⟩
    · exact h.elim
  · split at h
    · rename_i v hv; exact ⟨v, hv, h⟩
    · exact h.elim
end
/-- What may be appended. -/
def appC (sz bytes : Nat) (cs : List V) (n : Nat) (ds : List V) (m : Nat) : Prop :=
  cs.length = n * sz ∧ ds.length = m * sz ∧ ds.all V.one = true ∧ (n + m) * bytes ≤ 140737488355328 ∧ n + m ≤ 4611686018427387904
def gApp (pr : List Nat) (s : Hp) (sz bytes : Nat) (x y : V) (K : V → Hp → Prop) : Prop :=
  match x, y with
  | .sl cs n tok, .sl ds m _ =>
    (match tok with
    | .exact | .nil => appC sz bytes cs n ds m ∧ K (.sl (cs ++ ds) (n + m) (.own s.n sz)) (s.new .row)
    | .own id sz' => bc (sz' == sz && !pr.contains id) (match s.at id with | some .row => appC sz bytes cs n ds m ∧ K (.sl (cs ++ ds) (n + m) (.own s.n sz)) ((s.put id none).new .row) | _ => False) False
    | .no => False)
  | _, _ => False
def gSt (pr : List Nat) (s : Hp) (n : Nat) (x y : V) (K : V → Hp → Prop) : Prop :=
  match x with
  | .ptr b off => (match s.at b with
    | some (.cells cs) => bc (y.okc && y.cells.all V.one && (y.cells.length == n) && !pr.contains b) (off + n ≤ cs.length ∧ K (.tup []) (s.put b (some (.cells (spl cs off y.cells))))) False
    | _ => False)
  | _ => False
def gX (pr : List Nat) (s : Hp) (o : XOp) (vs : List V) (K : V → Hp → Prop) : Prop :=
  match o, vs with
  | .mkSl sz bytes zc, [.lit (.int _ n), .lit (.int _ c)] => (0 ≤ n ∧ n ≤ c ∧ (bytes : Int) * c ≤ 140737488355328 ∧ c ≤ 4611686018427387904) ∧ K (.ms s.n 0 n.toNat (n.toNat == c.toNat)) (s.new (.cells (zmk zc (c.toNat * sz))))
  | .b2s, [.sl cells n _] => cells.length = n ∧ ∃ l, bytesOf cells = some l ∧ K (.lit (.string ⟨l.toArray⟩)) s
  | o, vs => (match xrun pr (fun _ _ _ => none) s o vs with | some (v, s') => K v s' | none => False)
/-- A call by its contract. -/
def gCall (CP : FuncId → List V → (V → Prop) → Prop) (o : Option Sh) (g : V) (xs : List V) (K : V → Prop) : Prop :=
  match g with
  | .fn (.func f) first captured => CP f (first ++ xs ++ captured) fun v => (o.getD .any).dec v K
  | _ => False
/-- What calls come to, in continuation style. -/
abbrev CHt := List Nat → FuncId → List V → Hp → (V → Hp → Prop) → Prop
def gCallH (C : FuncId → List V → Hp → (V → Hp → Prop) → Prop) (o : Option Sh) (g : V) (xs : List V) (s : Hp) (K : V → Hp → Prop) : Prop :=
  match g with
  | .fn (.func f) first captured => C f (first ++ xs ++ captured) s fun v s' => (o.getD .any).dec v fun v => K v s'
  | _ => False
def gop (OP : List (Nat × Sh)) (CH : CHt) (pr : List Nat) (d : Option Nat) (e : Env) (s : Hp) (i : IOp) (K : V → Hp → Prop) : Prop :=
  match i with
  | .app sz bytes x y => gApp pr s sz bytes (x.ev e) (y.ev e) K
  | .st n x y => gSt pr s n (x.ev e) (y.ev e) K
  | .call g xs => gCallH (CH pr) (shO OP d) (g.ev e) (xs.map (Src.ev e)) s K
  | .xo o xs => gX pr s o (xs.map (Src.ev e)) K
  | .al cells => K (.ptr s.n 0) (s.new (.cells cells))
  | .bx x => bc (x.ev e).okc (K (.ptr s.n 0) (s.new (.cells (x.ev e).cells))) False
  | i => gRd OP d e s.at i fun v => K v s
section
variable {P : Program} {I : TI} {OP : List (Nat × Sh)} {CP : FuncId → List V → (V → Prop) → Prop} {CH : CHt} {pr : List Nat} {s : Hp} {K : V → Hp → Prop}
/-- Calls come to what is said. -/
def CHok (P : Program) (I : TI) (CH : CHt) : Prop := ∀ pr f args s K, s.Ok → CH pr f args s K → I.fn.contains f = true ∧ ∃ v s', K v s' ∧ Good pr s s' (fun Q => ACalls P f args s.tb Q) v
/-- Contracts hold. -/
def CPok (P : Program) (I : TI) (CP : FuncId → List V → (V → Prop) → Prop) : Prop := ∀ f args k, CP f args k → I.fn.contains f = true ∧ ∃ v, k v ∧ Comes P f args v
/-- What a step comes to. -/
def Stp (P : Program) (o : Oper) (ts : List V) (pr : List Nat) (s : Hp) (K : V → Hp → Prop) : Prop := ∃ v s', s'.Ok ∧ Hp.Le pr s s' ∧ K v s' ∧ ∀ Q : V → Tb → Prop, Q v s'.tb → AOp P o ts s.tb Q
theorem stp_det (hI : I.All P) {e : Env} (he : e.Ok) (hs : s.Ok) {o : Oper} {i : IOp} (hc : CompOk I o.op i) {v : V} {s' : Hp} (h : fOp pr (fun _ _ _ => none) e s i = some (v, s')) (hk : K v s') : Stp P o e.toL pr s K := by
  have h1 := fWr_eqB he (cf := fun _ _ _ => none) (fun _ _ _ h => by cases h) hc h
  obtain ⟨k1, k2, k3⟩ := eOp_sound (P := P) hI hs (fun _ _ _ _ h => by cases h) h1
  exact ⟨v, s', k1, k2, hk, k3⟩
theorem gop_sound (hI : I.All P) (hCH : CHok P I CH) {d : Option Nat} {e : Env} (he : e.Ok) (hs : s.Ok) {o : Oper} {i : IOp} (hc : CompOk I o.op i) (h : gop OP CH pr d e s i K) : Stp P o e.toL pr s K := by
  unfold gop at h
  split at h
  · rename_i sz bytes x y
    unfold gApp at h
    split at h
    · rename_i cs n tok ds m tok2 hx hy
      cases tok with
      | exact =>
        refine stp_det hI he hs hc ?_ h.2
        have hc0 := h.1
        unfold appC at hc0
        simp only [fOp, fAppend, hx, hy]
        rw [if_pos hc0]
      | nil =>
        refine stp_det hI he hs hc ?_ h.2
        have hc0 := h.1
        unfold appC at hc0
        simp only [fOp, fAppend, hx, hy]
        rw [if_pos hc0]
      | no => exact h.elim
      | own id sz' =>
        obtain ⟨h1, h2⟩ := of_bc h
        cases hb : (sz' == sz && !pr.contains id) with
        | false => exact (h2 hb).elim
        | true =>
          have h3 := h1 hb
          split at h3
          · rename_i hr
            simp at hb
            refine stp_det hI he hs hc ?_ h3.2
            have hc0 := h3.1
            unfold appC at hc0
            simp only [fOp, fAppend, hx, hy]
            rw [if_pos hc0, if_pos ⟨hb.1, by simpa using hb.2⟩, hr]
          · exact h3.elim
    · exact h.elim
  · rename_i n x y
    unfold gSt at h
    split at h
    · rename_i b off hx
      split at h
      · rename_i cs hcs
        obtain ⟨h1, h2⟩ := of_bc h
        cases hb : ((y.ev e).okc && (y.ev e).cells.all V.one && ((y.ev e).cells.length == n) && !pr.contains b) with
        | false => exact (h2 hb).elim
        | true =>
          have h3 := h1 hb
          simp only [Bool.and_eq_true, beq_iff_eq, Bool.not_eq_true'] at hb
          refine stp_det hI he hs hc ?_ h3.2
          simp only [fOp, fStore, hx, hcs]
          rw [if_pos ⟨⟨hb.1.1.1, hb.1.1.2, hb.1.2, h3.1⟩, hb.2⟩]
      · exact h.elim
    · exact h.elim
  · rename_i g xs
    unfold gCallH at h
    split at h
    · rename_i f first captured hg
      obtain ⟨hfn, v, s', hv, hcm⟩ := hCH _ _ _ _ _ hs h
      rcases hc with ⟨_, hc⟩ | hc | ⟨x, os, _, hc⟩
      · obtain ⟨g', args, tys, ho, rfl, rfl⟩ := comp_call hc
        have e1 : (Src.ev e ∘ Src.of) = evV e.toL := funext fun x => (Src.ev_of he x).symm
        rw [List.map_map, e1] at hcm
        rw [← Src.ev_of he] at hg
        obtain ⟨k1, k2, k3⟩ := hcm
        exact ⟨v, s', k1, k2, Sh.dec_sound _ _ _ hv, fun Q hq => aop_call (xs := args.toList) (by simpa using ho) hg (hI.toOk.fn' hfn) (k3 Q hq)⟩
      · cases hc
      · cases hc
    · exact h.elim
  · rename_i xo xs
    unfold gX at h
    split at h
    · rename_i sz bytes zc k1 n k2 c hvs
      refine stp_det hI he hs hc ?_ h.2
      simp only [fOp, hvs, xrun, xMkSl]
      rw [if_pos h.1]
    · rename_i cells n tok hvs
      obtain ⟨h1, l, h2, h3⟩ := h
      refine stp_det hI he hs hc ?_ h3
      simp only [fOp, hvs, xrun, xB2s, if_pos h1, h2]
    · split at h
      · rename_i v s' hv
        exact stp_det hI he hs hc hv h
      · exact h.elim
  · exact stp_det hI he hs hc rfl h
  · rename_i x
    obtain ⟨h1, h2⟩ := of_bc h
    cases hb : (x.ev e).okc with
    | false => exact (h2 hb).elim
    | true =>
      refine stp_det hI he hs hc ?_ (h1 hb)
      simp only [fOp, hb, if_true]
  · rename_i h1 h2 h3 h4 h5 h6
    obtain ⟨v, k1, k2⟩ := fRd_g h
    refine stp_det hI he hs hc ?_ k2
    unfold fOp
    split
    · exact (h2 _ _ _ rfl).elim
    · exact (h5 _ rfl).elim
    · exact (h6 _ rfl).elim
    · exact (h1 _ _ _ _ rfl).elim
    · exact (h3 _ _ rfl).elim
    · exact (h4 _ _ rfl).elim
    · rw [k1]; rfl
end
end
end Go.Ae
