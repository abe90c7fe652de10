/- A part of the proof: a machine on trees that is sound for the model, its tables, and contracts of functions. Conditions: none. -/
import Derived.Test.YtpookgemmjdgfaaGreatAeF
namespace Go.Ae
open Go.RowKit

theorem SlTy.sz {P : Program} {t e : TypeId} {sz bytes : Nat} (h : SlTy P t e sz bytes) (w : World) : (sizeOf e).run P w = .ok sz w := by
  obtain ⟨i, z, hi, _, hs, _, _⟩ := h.info
  simp [sizeOf, typeInfo, hi, hs]

section
variable {P : Program} {o : Oper} {ts : List V} {T : Tb} {K : V → Tb → Prop} {x y : Operand}

theorem aop_index_sl {t e : TypeId} {sz bytes n : Nat} {cells : List V} {tok : Tok} {k : IntKind} {j : Int} (ho : o.op = .indexAddr t x y) (hx : evV ts x = .sl cells n tok) (hy : evV ts y = .lit (.int k j)) (ht : SlTy P t e sz bytes)
    (h0 : 0 ≤ j) (h1 : j < n) (hk : K (.ep cells (j.toNat * sz)) T) : AOp P o ts T K :=
  aop_same _ (fun G w a hl => by
    have h := hl.ev x
    rw [hx] at h
    generalize he : a.eval x = u at h
    have hj := hl.ev_lit hy
    cases u with
    | slice A m c =>
      obtain ⟨rfl, _, _, _, h3, us, hus, hc⟩ := h.sl_cells
      cases A with
      | none => have := (h3 rfl).2.1; omega
      | some ad =>
        refine ⟨.pointer (some (ad.add (j.toNat * sz))), ?_, VRel.ep_mk _ ad us hus (hc ad rfl)⟩
        simp [execOp, ho, he, hj, Instr.indexAt, run_underlying ht.und, asIntOf, ht.sz, h0, h1]
    | _ => cases h) hk
theorem aop_index_ms {t e : TypeId} {sz bytes b off n : Nat} {ex : Bool} {k : IntKind} {j : Int} (ho : o.op = .indexAddr t x y) (hx : evV ts x = .ms b off n ex) (hy : evV ts y = .lit (.int k j)) (ht : SlTy P t e sz bytes)
    (h0 : 0 ≤ j) (h1 : j < n) (hk : K (.ptr b (off + j.toNat * sz)) T) : AOp P o ts T K :=
  aop_same _ (fun G w a hl => by
    have h := hl.ev x
    rw [hx] at h
    generalize he : a.eval x = u at h
    have hj := hl.ev_lit hy
    cases h with
    | ms _ _ _ g c _ g1 g2 g3 g4 g5 =>
      refine ⟨.pointer (some ⟨g, off + j.toNat * sz, none⟩), ?_, .ptr _ _ _ g1 g2⟩
      simp [execOp, ho, he, hj, Instr.indexAt, run_underlying ht.und, asIntOf, ht.sz, h0, h1, add_plain']) hk
def arB (P : Program) (t : TypeId) (len : Nat) (e : TypeId) (sz : Nat) : Bool := (match P.underlying t with | some (.array n e') => n == len && e' == e | _ => false) && szB P e sz
theorem arB_und {P : Program} {t e : TypeId} {len sz : Nat} (h : arB P t len e sz = true) : P.underlying t = some (.array len e) ∧ szB P e sz = true := by
  unfold arB at h
  simp only [Bool.and_eq_true] at h
  refine ⟨?_, h.2⟩
  have h1 := h.1
  split at h1
  · rename_i n e' hd; simp at h1; rw [hd, h1.1, h1.2]
  · cases h1
theorem aop_index_ar {t e : TypeId} {sz len b off : Nat} {k : IntKind} {j : Int} (ho : o.op = .indexAddr t x y) (hx : evV ts x = .ptr b off) (hy : evV ts y = .lit (.int k j)) (ht : arB P t len e sz = true)
    (h0 : 0 ≤ j) (h1 : j < len) (hk : K (.ptr b (off + j.toNat * sz)) T) : AOp P o ts T K :=
  aop_same _ (fun G w a hl => by
    have h := hl.ev x
    rw [hx] at h
    generalize he : a.eval x = u at h
    have hj := hl.ev_lit hy
    obtain ⟨hu, hz⟩ := arB_und ht
    cases h with
    | ptr _ _ g g1 g2 =>
      refine ⟨.pointer (some ⟨g, off + j.toNat * sz, none⟩), ?_, .ptr _ _ _ g1 g2⟩
      simp [execOp, ho, he, hj, Instr.indexAt, run_underlying hu, asIntOf, run_sizeOf hz, h0, h1, add_plain', Instr.sureAddr]) hk
theorem aop_index_ear {t e : TypeId} {sz len off : Nat} {cells : List V} {k : IntKind} {j : Int} (ho : o.op = .indexAddr t x y) (hx : evV ts x = .ep cells off) (hy : evV ts y = .lit (.int k j)) (ht : arB P t len e sz = true)
    (h0 : 0 ≤ j) (h1 : j < len) (hk : K (.ep cells (off + j.toNat * sz)) T) : AOp P o ts T K :=
  aop_same _ (fun G w a hl => by
    have h := hl.ev x
    rw [hx] at h
    have hj := hl.ev_lit hy
    obtain ⟨hu, hz⟩ := arB_und ht
    obtain ⟨ad, us, he, k1, k2⟩ := h.ep_cells
    refine ⟨.pointer (some (ad.add (off + j.toNat * sz))), ?_, VRel.ep_mk _ ad us k1 k2⟩
    simp [execOp, ho, he, hj, Instr.indexAt, run_underlying hu, asIntOf, run_sizeOf hz, h0, h1, Instr.sureAddr, add_add']) hk
theorem aop_index_str {t : TypeId} {s : ByteArray} {k : IntKind} {j : Int} {c : UInt8} (ho : o.op = .index t x y) (hx : evV ts x = .lit (.string s)) (hy : evV ts y = .lit (.int k j)) (ht : P.underlying t = some .string)
    (h0 : 0 ≤ j) (hc : s[j.toNat]? = some c) (hk : K (.lit (.int .u8 c.toNat)) T) : AOp P o ts T K :=
  aop_same _ (fun G w a hl => ⟨.int .u8 c.toNat, by simp [execOp, ho, hl.ev_lit hx, hl.ev_lit hy, Instr.index, run_underlying ht, asIntOf, h0, hc], .lit _ rfl⟩) hk

/-! ### Slicing -/
def bndV (ts : List V) (x : Option Operand) (d : Nat) : Option Nat :=
  match x with
  | none => some d
  | some x => match evV ts x with | .lit (.int _ j) => if 0 ≤ j then some j.toNat else none | _ => none
theorem bnd_run {G : Gh} {w : World} {a : Act} (hl : LRel G w ts a.tmps.toList) {x : Operand} {d l m : Nat} (h : bndV ts (some x) d = some l) (hm : l ≤ m) (code : BoundsCode) : (Instr.sliceBound (a.eval x) m code).run P w = .ok l w := by
  simp only [bndV] at h
  split at h
  · rename_i k j hj
    have he := hl.ev_lit hj
    split at h
    · rename_i h0
      simp at h
      have h2 : j ≤ (m : Int) := by omega
      simp [Instr.sliceBound, he, asIntOf, h0, h2, h]
    · cases h
  · cases h
def tokCut (tok : Tok) (l h n : Nat) : Tok := if h = n then (match tok with | .exact => .exact | .own id sz => if l = 0 then .own id sz else .no | .no => .no | .nil => .no) else .no
theorem aop_slice_sl {t e : TypeId} {sz bytes n l h : Nat} {cells : List V} {tok : Tok} {lo hi : Option Operand} (ho : o.op = .slice t x lo hi none) (hx : evV ts x = .sl cells n tok) (ht : SlTy P t e sz bytes) (hcl : cells.length = n * sz)
    (h1 : bndV ts lo 0 = some l) (h2 : bndV ts hi n = some h) (h3 : l ≤ h) (h4 : h ≤ n) (hk : K (.sl ((cells.drop (l * sz)).take ((h - l) * sz)) (h - l) (tokCut tok l h n)) T) : AOp P o ts T K :=
  aop_same _ (fun G w a hl => by
    have hv := hl.ev x
    rw [hx] at hv
    generalize he : a.eval x = u at hv
    cases u with
    | slice A m c =>
      obtain ⟨rfl, q1, q2, q4, q3, us, hus, hc⟩ := hv.sl_cells
      have hb : (Instr.sliceBounds true m c (lo.map a.eval) (hi.map a.eval) none).run P w = .ok (l, h, c) w := by
        cases hi with
        | none =>
          simp only [bndV, Option.some.injEq] at h2
          subst h2
          cases lo with
          | none => simp only [bndV, Option.some.injEq] at h1; subst h1; simp [Instr.sliceBounds]
          | some lo => simp [Instr.sliceBounds, bnd_run hl h1 h3]
        | some hi =>
          have e2 := bnd_run (P := P) (w := w) hl h2 (show h ≤ c by omega) .sliceAcap
          cases lo with
          | none => simp only [bndV, Option.some.injEq] at h1; subst h1; simp [Instr.sliceBounds, e2]
          | some lo => simp [Instr.sliceBounds, e2, bnd_run hl h1 h3]
      refine ⟨.slice (if c = l then A else A.map (·.add (l * sz))) (h - l) (c - l), ?_, ?_⟩
      · have ho' : (execOp a.eval o) = (do pure (.value (← Instr.sliceAt t (a.eval x) (lo.map a.eval) (hi.map a.eval) (Option.map a.eval none)))) := by simp [execOp, ho]
        rw [ho', he]
        simp [Instr.sliceAt, run_underlying ht.und, Instr.slice, hb, ht.sz]
      · have hcut := hus.seg (l * sz) ((h - l) * sz)
        refine VRel.sl_mk ((us.drop (l * sz)).take ((h - l) * sz)) hcut (by omega) (by omega) (fun hn => ?_) (fun ad ha i v hvv => ?_) ?_
        · have hA : A = none := by
            split at hn
            · exact hn
            · simpa using hn
          obtain ⟨h5, h6, h7⟩ := q3 hA
          subst h5
          exact ⟨by simp, by omega, by omega⟩
        · rw [List.getElem?_take] at hvv
          split at hvv
          · rename_i hi'
            rw [List.getElem?_drop] at hvv
            split at ha
            · rename_i hcl
              have : (h - l) * sz = 0 := by rw [show h - l = 0 by omega, Nat.zero_mul]
              omega
            · cases A with
              | none => cases ha
              | some ad0 =>
                simp at ha
                subst ha
                have := hc ad0 rfl _ v hvv
                rw [add_add']
                refine ⟨?_, this.2⟩
                have eb : (ad0.add (l * sz)).block = ad0.block := by unfold Addr.add; split <;> rfl
                have eo : (ad0.add (l * sz)).off = ad0.off + l * sz := by unfold Addr.add; split <;> simp_all
                rw [eb, eo, Nat.add_assoc]
                exact this.1
          · cases hvv
        · unfold tokCut
          split
          · rename_i hh
            subst hh
            cases tok with
            | no => trivial
            | nil => trivial
            | exact => have : c = h := q4; show c - l = h - l; omega
            | own id sz' =>
              simp only []
              split
              · rename_i hl0
                subst hl0
                rcases q4 with q4 | ⟨g, rfl, g1, g2, g3, g4, cur, e', fr, g5, g6⟩
                · exact .inl (by omega)
                · by_cases hc0 : c = 0
                  · exact .inl (by omega)
                  · have e0 : ((cells.drop (0 * sz)).take ((h - 0) * sz)).length = cells.length := by simp [hcl]
                    rw [e0]
                    refine .inr ⟨g, by simp [Addr.add], g1, g2, by simpa using g3, g4, cur, e', fr, g5, by simpa using g6⟩
              · trivial
          · trivial
    | _ => cases hv) hk
theorem aop_slice3_sl {t e : TypeId} {sz bytes n l h m : Nat} {cells : List V} {tok : Tok} {lo : Option Operand} {hi mx : Operand} (ho : o.op = .slice t x lo (some hi) (some mx)) (hx : evV ts x = .sl cells n tok) (ht : SlTy P t e sz bytes)
    (h1 : bndV ts lo 0 = some l) (h2 : bndV ts (some hi) n = some h) (h5 : bndV ts (some mx) n = some m) (h3 : l ≤ h) (h4 : h ≤ m) (h6 : m ≤ n)
    (hk : K (.sl ((cells.drop (l * sz)).take ((h - l) * sz)) (h - l) (if m = h then .exact else .no)) T) : AOp P o ts T K :=
  aop_same _ (fun G w a hl => by
    have hv := hl.ev x
    rw [hx] at hv
    generalize he : a.eval x = u at hv
    cases u with
    | slice A n' c =>
      obtain ⟨rfl, q1, q2, q4, q3, us, hus, hc⟩ := hv.sl_cells
      have e5 := bnd_run (P := P) (w := w) hl h5 (show m ≤ c by omega) .slice3Acap
      have e2 := bnd_run (P := P) (w := w) hl h2 h4 .slice3B
      have hb : (Instr.sliceBounds true n' c (lo.map a.eval) (some (a.eval hi)) (some (a.eval mx))).run P w = .ok (l, h, m) w := by
        cases lo with
        | none => simp only [bndV, Option.some.injEq] at h1; subst h1; simp [Instr.sliceBounds, e5, e2]
        | some lo => simp [Instr.sliceBounds, e5, e2, bnd_run hl h1 h3]
      refine ⟨.slice (if m = l then A else A.map (·.add (l * sz))) (h - l) (m - l), ?_, ?_⟩
      · have ho' : (execOp a.eval o) = (do pure (.value (← Instr.sliceAt t (a.eval x) (lo.map a.eval) (some (a.eval hi)) (some (a.eval mx))))) := by simp [execOp, ho]
        rw [ho', he]
        simp [Instr.sliceAt, run_underlying ht.und, Instr.slice, hb, ht.sz]
      · have hcut := hus.seg (l * sz) ((h - l) * sz)
        refine VRel.sl_mk ((us.drop (l * sz)).take ((h - l) * sz)) hcut (by omega) (by omega) (fun hn => ?_) (fun ad ha i v hvv => ?_) ?_
        · have hA : A = none := by
            split at hn
            · exact hn
            · simpa using hn
          obtain ⟨h5, h6, h7⟩ := q3 hA
          subst h5
          exact ⟨by simp, by omega, by omega⟩
        · rw [List.getElem?_take] at hvv
          split at hvv
          · rename_i hi'
            rw [List.getElem?_drop] at hvv
            split at ha
            · have : (h - l) * sz = 0 := by rw [show h - l = 0 by omega, Nat.zero_mul]
              omega
            · cases A with
              | none => cases ha
              | some ad0 =>
                simp at ha
                subst ha
                have := hc ad0 rfl _ v hvv
                rw [add_add']
                refine ⟨?_, this.2⟩
                have eb : (ad0.add (l * sz)).block = ad0.block := by unfold Addr.add; split <;> rfl
                have eo : (ad0.add (l * sz)).off = ad0.off + l * sz := by unfold Addr.add; split <;> simp_all
                rw [eb, eo, Nat.add_assoc]
                exact this.1
          · cases hvv
        · split
          · show m - l = h - l; omega
          · trivial
    | _ => cases hv) hk
theorem aop_slice_str {t : TypeId} {s : ByteArray} {l h : Nat} {lo hi : Option Operand} (ho : o.op = .slice t x lo hi none) (hx : evV ts x = .lit (.string s)) (ht : P.underlying t = some .string)
    (h1 : bndV ts lo 0 = some l) (h2 : bndV ts hi s.size = some h) (h3 : l ≤ h) (h4 : h ≤ s.size) (hk : K (.lit (.string (s.extract l h))) T) : AOp P o ts T K :=
  aop_same _ (fun G w a hl => by
    have hb : (Instr.sliceBounds false s.size s.size (lo.map a.eval) (hi.map a.eval) none).run P w = .ok (l, h, s.size) w := by
      cases hi with
      | none =>
        simp only [bndV, Option.some.injEq] at h2
        subst h2
        cases lo with
        | none => simp only [bndV, Option.some.injEq] at h1; subst h1; simp [Instr.sliceBounds]
        | some lo => simp [Instr.sliceBounds, bnd_run hl h1 h3]
      | some hi =>
        have e2 := bnd_run (P := P) (w := w) hl h2 h4 .sliceAlen
        cases lo with
        | none => simp only [bndV, Option.some.injEq] at h1; subst h1; simp [Instr.sliceBounds, e2]
        | some lo => simp [Instr.sliceBounds, e2, bnd_run hl h1 h3]
    refine ⟨.string (s.extract l h), ?_, .lit _ rfl⟩
    have ho' : (execOp a.eval o) = (do pure (.value (← Instr.sliceAt t (a.eval x) (lo.map a.eval) (hi.map a.eval) (Option.map a.eval none)))) := by simp [execOp, ho]
    rw [ho', hl.ev_lit hx]
    simp [Instr.sliceAt, run_underlying ht, Instr.slice, hb]) hk
theorem aop_slice_ms {t e : TypeId} {sz bytes b off n l h : Nat} {ex : Bool} {lo hi : Option Operand} (ho : o.op = .slice t x lo hi none) (hx : evV ts x = .ms b off n ex) (ht : SlTy P t e sz bytes)
    (h1 : bndV ts lo 0 = some l) (h2 : bndV ts hi n = some h) (h3 : l ≤ h) (h4 : h ≤ n) (h5 : l < n ∨ l = 0) (hk : K (.ms b (off + l * sz) (h - l) (ex && h == n)) T) : AOp P o ts T K :=
  aop_same _ (fun G w a hl => by
    have hv := hl.ev x
    rw [hx] at hv
    generalize he : a.eval x = u at hv
    cases hv with
    | ms _ _ _ g c _ g1 g2 g3 g4 g5 =>
      have hb : (Instr.sliceBounds true n c (lo.map a.eval) (hi.map a.eval) none).run P w = .ok (l, h, c) w := by
        cases hi with
        | none =>
          simp only [bndV, Option.some.injEq] at h2
          subst h2
          cases lo with
          | none => simp only [bndV, Option.some.injEq] at h1; subst h1; simp [Instr.sliceBounds]
          | some lo => simp [Instr.sliceBounds, bnd_run hl h1 h3]
        | some hi =>
          have e2 := bnd_run (P := P) (w := w) hl h2 (show h ≤ c by omega) .sliceAcap
          cases lo with
          | none => simp only [bndV, Option.some.injEq] at h1; subst h1; simp [Instr.sliceBounds, e2]
          | some lo => simp [Instr.sliceBounds, e2, bnd_run hl h1 h3]
      refine ⟨.slice (some ⟨g, off + l * sz, none⟩) (h - l) (c - l), ?_, .ms _ _ _ _ _ _ g1 g2 (by omega) (by omega) (fun hex => ?_)⟩
      · have ho' : (execOp a.eval o) = (do pure (.value (← Instr.sliceAt t (a.eval x) (lo.map a.eval) (hi.map a.eval) (Option.map a.eval none)))) := by simp [execOp, ho]
        rw [ho', he]
        by_cases hcl : c = l
        · have hl0 : l = 0 := by omega
          subst hl0
          subst hcl
          simp [Instr.sliceAt, run_underlying ht.und, Instr.slice, hb, ht.sz]
        · simp [Instr.sliceAt, run_underlying ht.und, Instr.slice, hb, ht.sz, hcl, add_plain']
      · simp at hex
        have := g5 hex.1
        omega) hk

/-! ### Builtins -/
theorem aop_len_sl {t : TypeId} {n : Nat} {cells : List V} {tok : Tok} {e ty : TypeId} (ho : o.op = .call { callee := .builtin .len, args := #[x], argTypes := #[t] }) (hx : evV ts x = .sl cells n tok) (ht : P.underlying t = some (.slice e))
    (hk : K (.lit (.int .i64 n)) T) (_ty : ty = ty := rfl) : AOp P o ts T K :=
  aop_same _ (fun G w a hl => by
    have h := hl.ev x
    rw [hx] at h
    generalize he : a.eval x = u at h
    cases h with
    | sl _ _ _ A c uf a1 a2 a3 a4 a5 a6 => exact ⟨.int .i64 n, by simp [execOp, ho, resolve, invoke, builtin, Builtin.len_, he, run_underlying ht, goInt], .lit _ rfl⟩) hk
theorem aop_len_ms {t : TypeId} {b off n : Nat} {ex : Bool} {e : TypeId} (ho : o.op = .call { callee := .builtin .len, args := #[x], argTypes := #[t] }) (hx : evV ts x = .ms b off n ex) (ht : P.underlying t = some (.slice e))
    (hk : K (.lit (.int .i64 n)) T) : AOp P o ts T K :=
  aop_same _ (fun G w a hl => by
    have h := hl.ev x
    rw [hx] at h
    generalize he : a.eval x = u at h
    cases h with
    | ms _ _ _ g c _ a1 a2 a3 a4 a5 => exact ⟨.int .i64 n, by simp [execOp, ho, resolve, invoke, builtin, Builtin.len_, he, run_underlying ht, goInt], .lit _ rfl⟩) hk
theorem aop_len_str {t : TypeId} {s : ByteArray} (ho : o.op = .call { callee := .builtin .len, args := #[x], argTypes := #[t] }) (hx : evV ts x = .lit (.string s)) (ht : P.underlying t = some .string)
    (hk : K (.lit (.int .i64 s.size)) T) : AOp P o ts T K :=
  aop_same _ (fun G w a hl => ⟨.int .i64 s.size, by simp [execOp, ho, resolve, invoke, builtin, Builtin.len_, hl.ev_lit hx, run_underlying ht, goInt], .lit _ rfl⟩) hk

theorem _root_.Go.Ae.VRel.nil_exact {G : Gh} {w : World} {cs : List V} {n : Nat} {u : Value} (h : VRel G w (.sl cs n .nil) u) : VRel G w (.sl cs n .exact) u := by
  cases h with
  | sl _ _ _ A c uf a1 a2 a3 a4 a5 a6 =>
    have ha : A = none := a6
    obtain ⟨b1, b2, b3⟩ := a3 ha
    exact .sl cs n .exact A c uf a1 a2 a3 a4 a5 (by show c = n; omega)
theorem aop_append {t e : TypeId} {sz bytes n m : Nat} {cs ds : List V} {tok tok2 : Tok} (ho : o.op = .call { callee := .builtin .append, args := #[x, y], argTypes := #[t, t] }) (hx : evV ts x = .sl cs n tok) (hy : evV ts y = .sl ds m tok2)
    (ht : SlTy P t e sz bytes) (hcs : cs.length = n * sz) (hds : ds.length = m * sz) (h1c : ∀ v ∈ ds, v.one = true) (happ : (tok = .exact ∨ tok = .nil) ∨ ∃ id, tok = .own id sz ∧ T id = some .row) (hb : (n + m) * bytes ≤ 140737488355328) (hm : n + m ≤ 4611686018427387904)
    (hk : ∀ b, b = T.lim → T b = none → K (.sl (cs ++ ds) (n + m) (.own b sz)) ((tok.dead T).set b .row)) : AOp P o ts T K :=
  aop_value fun B w0 G w a hr hl => by
    obtain ⟨hle1, hr1⟩ := hr.upTo
    have h1 := (hl.mono hle1).ev x
    have h2 := (hl.mono hle1).ev y
    rw [hx] at h1
    rw [hy] at h2
    by_cases hn : tok = .nil
    · subst hn
      obtain ⟨u, w', G', k1, k2, k3, k4⟩ := run_append_tree (ty := o.type) (tok := .exact) hr1 ht h1.nil_exact h2 hcs hds h1c (.inl rfl) hb hm
      exact ⟨u, w', G', _, _, by simp [execOp, ho, resolve, invoke, builtin, k1], hle1.trans k2, k3, k4, hk _ rfl (T_fresh hr1)⟩
    · obtain ⟨u, w', G', k1, k2, k3, k4⟩ := run_append_tree (ty := o.type) hr1 ht h1 h2 hcs hds h1c (happ.imp (fun h => h.resolve_right hn) id) hb hm
      exact ⟨u, w', G', _, _, by simp [execOp, ho, resolve, invoke, builtin, k1], hle1.trans k2, k3, k4, hk _ rfl (T_fresh hr1)⟩

/-! ### Calls -/
def fnB (P : Program) (f : FuncId) : Bool := match P.funcs[f]? with | some fn => fn.body.isSome && fn.name != "runtime.NumGoroutine" | none => false
theorem run_callFunc {f : FuncId} (h : fnB P f = true) (args : Array Value) (w : World) : (callFunc f args).run P w = .ok (.enter f args) w := by
  unfold fnB at h
  split at h
  · rename_i fn hf
    simp at h
    obtain ⟨h1, h2⟩ := h
    have h3 : fn.body ≠ none := fun e => by rw [e] at h1; cases h1
    simp [callFunc, hf, h2, h3]
  · cases h
theorem aop_call_gen {f : FuncId} {args : List V} (hf : fnB P f = true) (h : ∀ (G : Gh) (w : World) (a : Act), LRel G w ts a.tmps.toList → ∃ us, (execOp a.eval o).run P w = (callFunc f us.toArray).run P w ∧ LRel G w args us)
    (hk : ACalls P f args T K) : AOp P o ts T K := by
  intro B w0 G w a hr hl next Q' hn
  obtain ⟨us, h1, h2⟩ := h G w a hl
  unfold Oper.wp
  rw [h1, run_callFunc hf]
  refine (hk B w0 G w us hr h2).mono ?_
  rintro e w' ⟨u, v, G', T', rfl, k1, k2, k3, k4⟩
  exact hn u v G' w' T' k1 k2 k3 k4
theorem LRel.evs {G : Gh} {w : World} {a : Act} (hl : LRel G w ts a.tmps.toList) (xs : List Operand) : LRel G w (xs.map (evV ts)) (xs.map a.eval) := by
  induction xs with
  | nil => exact LRel.nil
  | cons x xs ih => exact LRel.cons (hl.ev x) ih
theorem aop_call {f : FuncId} {g : Operand} {xs : List Operand} {tys : Array TypeId} {first captured : List V} (ho : o.op = .call { callee := .value g, args := xs.toArray, argTypes := tys }) (hg : evV ts g = .fn (.func f) first captured) (hf : fnB P f = true)
    (hk : ACalls P f (first ++ xs.map (evV ts) ++ captured) T K) : AOp P o ts T K :=
  aop_call_gen hf (fun G w a hl => by
    have h := hl.ev g
    rw [hg] at h
    generalize he : a.eval g = u at h
    cases h with
    | fn _ _ _ us vs h1 h2 h3 h4 =>
      have hA : LRel G w first us := ⟨h1, h3⟩
      refine ⟨us ++ xs.map a.eval ++ vs, ?_, (hA.append (hl.evs xs)).append ⟨h2, h4⟩⟩
      simp [execOp, ho, resolve, he, Deferred.ofValue, invoke, List.append_assoc]) hk
end
end Go.Ae
