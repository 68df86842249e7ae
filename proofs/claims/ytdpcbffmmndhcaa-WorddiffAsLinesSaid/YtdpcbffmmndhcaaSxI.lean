/- Sx, part I: reslicing, len, index, fields, tuples, functions, conversions of numbers. -/
import Derived.Test.YtdpcbffmmndhcaaSxH
namespace Go.Proofs.Ytdpcbffmmndhcaa
open Go.RowKit

/-- a bound of a slice expression: none is d -/
def bnd (d : Int) : Option Lf → Option Int
  | none => some d
  | some x => lfInt x

def optRel (w : World) (G : Gh) (A : Nat → Prop) : Option Lf → Option Value → Prop
  | none, v => v = none
  | some x, v => ∃ u, v = some u ∧ x.rel w G A u

def cSlice (lo hi : Option Lf) : Lf → Option (Prop × Lf)
  | .d (.slice e) l => match bnd 0 lo, bnd l.length hi with
    | some a, some b => some (0 ≤ a ∧ a ≤ b ∧ b ≤ l.length, .d (.slice e) ((l.take b.toNat).drop a.toNat))
    | _, _ => none
  | .d .str s => match bnd 0 lo, bnd s.size hi with
    | some a, some b => some (0 ≤ a ∧ a ≤ b ∧ b ≤ s.size, mkS (s.extract a.toNat b.toNat))
    | _, _ => none
  | _ => none

theorem run_bounds {P : Program} {w : World} {G : Gh} {A : Nat → Prop} {isS : Bool} {len cap : Nat} {lo hi : Option Lf} {vlo vhi : Option Value} (h1 : optRel w G A lo vlo) (h2 : optRel w G A hi vhi) {a b : Int}
    (e1 : bnd 0 lo = some a) (e2 : bnd len hi = some b) (ha : 0 ≤ a) (hab : a ≤ b) (hb : b ≤ len) (hc : len ≤ cap) : (Instr.sliceBounds isS len cap vlo vhi none).run P w = .ok (a.toNat, b.toNat, cap) w := by
  have q1 : 0 ≤ b ∧ b ≤ cap := ⟨by omega, by omega⟩
  have q2 : 0 ≤ a ∧ a ≤ b.toNat := ⟨ha, by omega⟩
  cases hi with
  | none =>
    obtain rfl := (show vhi = none from h2)
    cases e2
    have q3 : 0 ≤ a ∧ a ≤ len := ⟨ha, hab⟩
    cases lo with
    | none =>
      obtain rfl := (show vlo = none from h1)
      cases e1
      simp only [Instr.sliceBounds, Sem.run_bind, Sem.run_pure, Result.andThen_ok, Int.toNat_natCast]
      rfl
    | some x =>
      obtain ⟨u, rfl, hx⟩ := h1
      obtain ⟨k, rfl⟩ := lfInt_rel e1 hx
      simp only [Instr.sliceBounds, Instr.sliceBound, asIntOf, Sem.run_bind, Sem.run_pure, Result.andThen_ok, q3, and_self, if_true, Int.toNat_natCast]
  | some y =>
    obtain ⟨u, rfl, hy⟩ := h2
    obtain ⟨k, rfl⟩ := lfInt_rel e2 hy
    cases lo with
    | none =>
      obtain rfl := (show vlo = none from h1)
      cases e1
      simp only [Instr.sliceBounds, Instr.sliceBound, asIntOf, Sem.run_bind, Sem.run_pure, Result.andThen_ok, q1, and_self, if_true]
      rfl
    | some x =>
      obtain ⟨u, rfl, hx⟩ := h1
      obtain ⟨k, rfl⟩ := lfInt_rel e1 hx
      simp only [Instr.sliceBounds, Instr.sliceBound, asIntOf, Sem.run_bind, Sem.run_pure, Result.andThen_ok, q1, q2, and_self, if_true]

theorem rd_part {w : World} {A : Nat → Prop} {e : Ty} {l : List e.den} {ao : Option Addr} {cap : Nat} (h : (Ty.slice e).rd w A l [.slice ao l.length cap]) {a b : Nat} (hab : a ≤ b) (hb : b ≤ l.length) :
    (Ty.slice e).rd w A ((l.take b).drop a) [.slice (if cap = a then ao else ao.map (·.add (a * e.size))) (b - a) (cap - a)] := by
  obtain ⟨ao', cap', h0, h1, h2, h3, h4⟩ := h
  cases h0
  have hlen : ((l.take b).drop a).length = b - a := by rw [List.length_drop, List.length_take]; omega
  refine ⟨_, _, by rw [hlen], by omega, by omega, ?_, ?_⟩
  · intro hn
    split at hn
    · have := h3 hn; omega
    · cases ao with
      | none => have := h3 rfl; omega
      | some ad => cases hn
  · intro i hi
    rw [hlen] at hi
    have hca : ¬ cap = a := by omega
    obtain ⟨g, off, es, k0, k1, k2, k3, k4⟩ := h4 (a + i) (by omega)
    cases k0
    refine ⟨g, off + a * e.size, es, ?_, k1, k2, ?_, fun j hj => ?_⟩
    · rw [if_neg hca, Option.map_some, addr_add0]
    · rw [List.getElem_drop, List.getElem_take]; exact k3
    · rw [← k4 j hj]
      congr 2
      rw [Nat.add_mul]
      omega

theorem cSlice_sound {P : Program} {F : Fr} {hp : Nat → Option Ob} {G : Gh} {ρ : Operand → Value} {o : Oper} {w : World} (T : TypeId) (x : Operand) (lo hi : Option Operand) (ho : o.op = .slice T x lo hi none) {i : TI} (hi' : i.ok P T)
    {llo lhi : Option Lf} (hlo : optRel w G (Okay F hp G) llo (lo.map ρ)) (hhi : optRel w G (Okay F hp G) lhi (hi.map ρ))
    {a c : Lf} {sd : Prop} (e : cSlice llo lhi a = some (sd, c)) (hsd : sd) (hty : (∀ t l, a = .d (.slice t) l → ∃ E j, i.kind = .slice E ∧ TI.ok P E j ∧ j.size = t.size) ∧ (∀ s, a = .d .str s → i.kind = .str))
    (h : RepH F hp G w) (ha : a.rel w G (Okay F hp G) (ρ x)) : Runs P ρ o w (Aft F hp G w hp (.v false [c]) []) := by
  unfold cSlice at e
  split at e
  · rename_i t l
    obtain ⟨E, j, q1, q2, q3⟩ := hty.1 t l rfl
    split at e
    · rename_i a b ea eb
      cases e
      have hu := hi'.slice q1
      have ha0 := ha
      obtain ⟨ao, cap, h0, h1, h2, h3, h4⟩ := ha
      have hv : ρ x = .slice ao l.length cap := by simpa using h0
      rw [hv] at ha0
      have hbd := run_bounds (P := P) (isS := true) (cap := cap) hlo hhi ea eb hsd.1 hsd.2.1 hsd.2.2 h1
      refine Runs.of_ok (v := .slice (if cap = a.toNat then ao else ao.map (·.add (a.toNat * t.size))) (b.toNat - a.toNat) (cap - a.toNat)) ?_ (Aft.still h (AV.rel_of (rd_part ha0 (by omega) (by omega))))
      simp only [execOp, ho, Instr.sliceAt, Sem.run_bind, run_underlying hu, Result.andThen_ok, Instr.slice, hv, Option.map_none, hbd, run_size q2, q3, Sem.run_pure]
    · cases e
  · rename_i s
    have q1 := hty.2 s rfl
    split at e
    · rename_i a b ea eb
      cases e
      obtain ⟨d, hd, hkk⟩ := hi'.und
      rw [q1] at hkk
      rw [hkk.1] at hd
      have hv : ρ x = .string s := by simpa using ha.1
      have hbd := run_bounds (P := P) (isS := false) (cap := s.size) hlo hhi ea eb hsd.1 hsd.2.1 hsd.2.2 (Nat.le_refl _)
      refine Runs.of_ok (v := .string (s.extract a.toNat b.toNat)) ?_ (Aft.still h (AV.rel_of ⟨rfl, ?_⟩))
      · simp only [execOp, ho, Instr.sliceAt, Sem.run_bind, run_underlying hd, Result.andThen_ok, Instr.slice, hv, Option.map_none, Option.isSome_none, Bool.false_eq_true, if_false, hbd, Sem.run_pure]
      · rw [ByteArray.size_extract]
        have := ha.2
        omega
    · cases e
  · cases e

/-! ### len -/
def cLen (i : TI) (hp : Nat → Option Ob) (x : AV) : Option Int :=
  match i.kind with
  | .array n _ => some n
  | .slice _ => match x.one with
    | some (.d (.slice _) l) => some l.length
    | some .nl => some 0
    | some (.o b) => match hp b with
      | some (.row _ _ l) => some l.length
      | some (.arr _ n _) => some n
      | some (.rox _ _ l1 _ l2) => some ((l1.length + 1 + l2.length : Nat) : Int)
      | _ => none
    | _ => none
  | .str => match x.one with
    | some (.d .str s) => some s.size
    | _ => none
  | _ => none

theorem cLen_sound {P : Program} {F : Fr} {hp : Nat → Option Ob} {G : Gh} {ρ : Operand → Value} {o : Oper} {w : World} (T : TypeId) (x : Operand) (ho : o.op = .call { callee := .builtin .len, args := #[x], argTypes := #[T] }) {i : TI} (hi : i.ok P T)
    {a : AV} {n : Int} (e : cLen i hp a = some n) (hsz : n ≤ 9223372036854775807) (h : RepH F hp G w) (ha : a.rel w G (Okay F hp G) (ρ x)) : Runs P ρ o w (Aft F hp G w hp (.v false [mkI .i64 n]) []) := by
  have fin : 0 ≤ n → (Builtin.len_ #[T] o.type #[ρ x]).run P w = .ok (.int .i64 n) w → Runs P ρ o w (Aft F hp G w hp (.v false [mkI .i64 n]) []) := by
    intro h0 h1
    refine Runs.of_ok (v := .int .i64 n) ?_ (Aft.still h (AV.rel_of (mkI_rel (by simp only [kmin]; omega) (by simp only [kmax]; omega))))
    simp only [execOp, ho, resolve, invoke, builtin, Sem.run_bind, Sem.run_pure, Result.andThen_ok, List.map_toArray, List.map_cons, List.map_nil, h1]
  obtain ⟨d, hd, hkk⟩ := hi.und
  unfold cLen at e
  split at e
  · rename_i m E hk
    cases e
    rw [hk] at hkk
    rw [hkk.1] at hd
    refine fin (by omega) ?_
    simp only [Builtin.len_, List.getElem?_toArray, List.getElem?_cons_zero, Sem.run_bind, run_underlying hd, Result.andThen_ok]
    rfl
  · rename_i E hk
    rw [hk] at hkk
    rw [hkk.1] at hd
    have key : ∀ ao m cap, ρ x = .slice ao m cap → (Builtin.len_ #[T] o.type #[ρ x]).run P w = .ok (.int .i64 m) w := by
      intro ao m cap hv
      rw [hv]
      simp only [Builtin.len_, List.getElem?_toArray, List.getElem?_cons_zero, Sem.run_bind, run_underlying hd, Result.andThen_ok]
      rfl
    split at e
    · rename_i t l hone
      cases e
      have := AV.one_rel hone ha
      obtain ⟨ao, cap, h0, _⟩ := this
      exact fin (by omega) (key ao l.length cap (by simpa using h0))
    · rename_i hone
      cases e
      have := AV.one_rel hone ha
      exact fin (by omega) (key none 0 0 this)
    · rename_i b hone
      have hr := AV.one_rel hone ha
      split at e
      · rename_i E' t l hb
        cases e
        obtain ⟨vs, k1, k2, k3⟩ := h.sat b _ hb
        rcases rowOwn_slice k2 with ⟨q, q0⟩ | ⟨g, cap, q⟩
        · exact fin (by omega) (by rw [q0]; exact key none 0 0 (hr.1.trans q))
        · exact fin (by omega) (key _ _ cap (hr.1.trans q))
      · rename_i E' m cs hb
        cases e
        obtain ⟨g, vs, k1, k2, k3, k4, k5⟩ := h.sat b _ hb
        exact fin (by omega) (key _ m m (hr.1.trans k1))
      · rename_i E' t l1 cs l2 hb
        cases e
        obtain ⟨v1, c1, v2, k1, k2, k3, k4, k5, k6⟩ := h.sat b _ hb
        rcases rowOwn_slice k5 with ⟨q, q0⟩ | ⟨g, cap, q⟩
        · omega
        · exact fin (by omega) (key _ _ cap (hr.1.trans q))
      · cases e
    · cases e
  · rename_i hk
    rw [hk] at hkk
    rw [hkk.1] at hd
    split at e
    · rename_i s hone
      cases e
      have hr := AV.one_rel hone ha
      have hv : ρ x = .string s := by simpa using hr.1
      refine fin (by omega) ?_
      rw [hv]
      simp only [Builtin.len_, List.getElem?_toArray, List.getElem?_cons_zero, Sem.run_bind, run_underlying hd, Result.andThen_ok]
      rfl
    · cases e
  · cases e

/-! ### bytes of strings, parts of aggregates, tuples -/
def byteAt (s : ByteArray) (n : Nat) : Int := ((s.data.toList.getD n 0).toNat : Int)
theorem byteAt_in (s : ByteArray) (n : Nat) : 0 ≤ byteAt s n ∧ byteAt s n ≤ 255 := by
  unfold byteAt
  have := (s.data.toList.getD n 0).toNat_lt
  omega
theorem indexStr_sound {P : Program} {F : Fr} {hp : Nat → Option Ob} {G : Gh} {ρ : Operand → Value} {o : Oper} {w : World} (T : TypeId) (x y : Operand) (ho : o.op = .index T x y) {i : TI} (hi : i.ok P T) (hk : i.kind = .str)
    {s : ByteArray} {ix : Lf} {n : Int} (hn : lfInt ix = some n) (h0 : 0 ≤ n ∧ n < s.size) (h : RepH F hp G w) (ha : (Lf.d .str s).rel w G (Okay F hp G) (ρ x)) (hix : ix.rel w G (Okay F hp G) (ρ y)) :
    Runs P ρ o w (Aft F hp G w hp (.v false [mkI .u8 (byteAt s n.toNat)]) []) := by
  obtain ⟨d, hd, hkk⟩ := hi.und
  rw [hk] at hkk
  rw [hkk.1] at hd
  obtain ⟨k, hy⟩ := lfInt_rel hn hix
  have hv : ρ x = .string s := by simpa using ha.1
  have hlt : n.toNat < s.size := by omega
  have hb := byteAt_in s n.toNat
  refine Runs.of_ok (v := .int .u8 (byteAt s n.toNat)) ?_ (Aft.still h (AV.rel_of (mkI_rel (by simp only [kmin]; omega) (by simp only [kmax]; omega))))
  have hget : s[n.toNat]? = some (s.data.toList.getD n.toNat 0) := by
    rw [getElem?_pos s n.toNat hlt]
    congr 1
    rw [List.getD_eq_getElem?_getD, Array.getElem?_toList]
    rw [Array.getElem?_eq_getElem (show n.toNat < s.data.size from hlt)]
    rfl
  simp only [execOp, ho, Instr.index, hv, hy, asIntOf, Sem.run_bind, Sem.run_pure, Result.andThen_ok, run_underlying hd, h0.1, if_true, hget]
  rfl

theorem run_part_of {P : Program} {w : World} {t : TypeId} {j : TI} (hj : j.ok P t) (h1 : j.agg = false → j.size = 1) {vs : List Value} {off : Nat} (hle : off + j.size ≤ vs.length) :
    (part t vs.toArray off).run P w = .ok (mkV j.agg ((vs.drop off).take j.size)) w := by
  cases hagg : j.agg with
  | true =>
    simp only [part, Sem.run_bind, run_agg hj, hagg, Result.andThen_ok, if_true, run_size hj, Sem.run_pure]
    congr 1
    simp only [mkV]
    congr 1
    rw [List.extract_toArray]
    congr 1
    rw [List.extract_eq_take_drop, Nat.add_sub_cancel_left]
  | false =>
    have hs := h1 hagg
    rw [hs] at hle ⊢
    have hlt : off < vs.length := by omega
    simp only [part, Sem.run_bind, run_agg hj, hagg, Result.andThen_ok, Bool.false_eq_true, if_false, List.getElem?_toArray, List.getElem?_eq_getElem hlt]
    rw [List.drop_eq_getElem_cons hlt]
    rfl

theorem field_sound {P : Program} {F : Fr} {hp : Nat → Option Ob} {G : Gh} {ρ : Operand → Value} {o : Oper} {w : World} (s : TypeId) (x : Operand) (f : Nat) (ho : o.op = .field s x f) {i j : TI} {fs : List (Nat × TypeId)} {off : Nat} {ft : TypeId}
    (hi : i.ok P s) (hk : i.kind = .struct fs) (hf : fs[f]? = some (off, ft)) (hj : j.ok P ft) (h1 : j.agg = false → j.size = 1) {ls : List Lf} (hle : off + j.size ≤ ls.length)
    (h : RepH F hp G w) (ha : (AV.v true ls).rel w G (Okay F hp G) (ρ x)) : Runs P ρ o w (Aft F hp G w hp (.v j.agg ((ls.drop off).take j.size)) []) := by
  obtain ⟨d, hd, hkk⟩ := hi.und
  rw [hk] at hkk
  obtain ⟨_, a, rfl, rfl⟩ := hkk
  have hfa : ∃ fl, a[f]? = some fl ∧ fl.offset = off ∧ fl.type = ft := by
    rw [List.getElem?_map, Option.map_eq_some_iff] at hf
    obtain ⟨fl, h1, h2⟩ := hf
    simp only [Prod.mk.injEq] at h2
    exact ⟨fl, by simpa using h1, h2.1, h2.2⟩
  obtain ⟨fl, q1, rfl, rfl⟩ := hfa
  obtain ⟨vs, v1, v2, _⟩ := ha
  have vl : vs.length = ls.length := relL_len v1
  have hrun := run_part_of (P := P) (w := w) hj h1 (vs := vs) (off := fl.offset) (by rw [vl]; exact hle)
  refine Runs.of_ok (v := mkV j.agg ((vs.drop fl.offset).take j.size)) ?_ (Aft.still h (relE_mk (relL_take _ (relL_drop _ v1)) fun hag => ?_))
  · simp only [execOp, ho, Instr.field, Sem.run_bind, run_underlying hd, Result.andThen_ok, q1, v2, mkV, asAgg, Sem.run_pure, hrun]
  · rw [List.length_take, List.length_drop, vl]
    have := h1 hag
    omega

theorem indexArr_sound {P : Program} {F : Fr} {hp : Nat → Option Ob} {G : Gh} {ρ : Operand → Value} {o : Oper} {w : World} (T : TypeId) (x y : Operand) (ho : o.op = .index T x y) {i j : TI} {m : Nat} {e : TypeId}
    (hi : i.ok P T) (hk : i.kind = .array m e) (hj : j.ok P e) (h1 : j.agg = false → j.size = 1) {ls : List Lf} {n : Int} {ix : Lf} (hle : n.toNat * j.size + j.size ≤ ls.length) (hn : lfInt ix = some n) (h0 : 0 ≤ n ∧ n < m)
    (h : RepH F hp G w) (ha : (AV.v true ls).rel w G (Okay F hp G) (ρ x)) (hix : ix.rel w G (Okay F hp G) (ρ y)) : Runs P ρ o w (Aft F hp G w hp (.v j.agg ((ls.drop (n.toNat * j.size)).take j.size)) []) := by
  obtain ⟨d, hd, hkk⟩ := hi.und
  rw [hk] at hkk
  rw [hkk.1] at hd
  obtain ⟨k, hy⟩ := lfInt_rel hn hix
  obtain ⟨vs, v1, v2, _⟩ := ha
  have vl : vs.length = ls.length := relL_len v1
  have hrun := run_part_of (P := P) (w := w) hj h1 (vs := vs) (off := n.toNat * j.size) (by rw [vl]; exact hle)
  refine Runs.of_ok (v := mkV j.agg ((vs.drop (n.toNat * j.size)).take j.size)) ?_ (Aft.still h (relE_mk (relL_take _ (relL_drop _ v1)) fun hag => ?_))
  · simp only [execOp, ho, Instr.index, Sem.run_bind, hy, asIntOf, Sem.run_pure, run_underlying hd, Result.andThen_ok, v2, mkV, h0.1, h0.2, and_self, if_true, run_size hj, hrun]
  · rw [List.length_take, List.length_drop, vl]
    have := h1 hag
    omega

theorem relT_at {w : World} {G : Gh} {A : Nat → Prop} : ∀ {es : List (Bool × List Lf)} {vs : List Value}, relT w G A es vs → ∀ {k : Nat} {e : Bool × List Lf}, es[k]? = some e → ∃ v, vs[k]? = some v ∧ relE w G A e v
  | x :: xs, vs, h, 0, e, he => by obtain ⟨v, r, rfl, h1, h2⟩ := h; cases he; exact ⟨v, rfl, h1⟩
  | x :: xs, vs, h, k + 1, e, he => by obtain ⟨v, r, rfl, h1, h2⟩ := h; exact relT_at h2 (k := k) he
  | [], vs, h, k, e, he => by simp at he
theorem extract_sound {P : Program} {F : Fr} {hp : Nat → Option Ob} {G : Gh} {ρ : Operand → Value} {o : Oper} {w : World} (x : Operand) (k : Nat) (ho : o.op = .extract x k) {es : List (Bool × List Lf)} {e : Bool × List Lf} (he : es[k]? = some e)
    (h : RepH F hp G w) (ha : (AV.tu es).rel w G (Okay F hp G) (ρ x)) : Runs P ρ o w (Aft F hp G w hp (.v e.1 e.2) []) := by
  obtain ⟨vs, v1, v2⟩ := ha
  obtain ⟨v, q1, q2⟩ := relT_at v2 he
  refine Runs.of_ok (v := v) ?_ (Aft.still h q2)
  simp only [execOp, ho, Instr.extract, v1, List.getElem?_toArray, q1, Sem.run_bind, Sem.run_pure, Result.andThen_ok]

theorem nilCheck_sound {P : Program} {F : Fr} {hp : Nat → Option Ob} {G : Gh} {ρ : Operand → Value} {o : Oper} {w : World} (x : Operand) (ho : o.op = .nilCheck x) {a : Lf} (hk : (match a with | .p _ _ => true | .dp _ _ => true | .pe _ _ _ _ => true | .px _ _ _ _ => true | .fn _ _ => true | _ => false) = true)
    (h : RepH F hp G w) (ha : a.rel w G (Okay F hp G) (ρ x)) : Runs P ρ o w (Aft F hp G w hp (.v false [a]) []) := by
  refine Runs.of_ok (v := ρ x) ?_ (Aft.still h (AV.rel_of ha))
  cases a with
  | p b off => obtain ⟨g, _, e⟩ := ha; simp only [execOp, ho, e]; rfl
  | dp t y => obtain ⟨g, off, cs, e, _⟩ := ha; simp only [execOp, ho, e]; rfl
  | pe b i s k => obtain ⟨g, _, e⟩ := ha; simp only [execOp, ho, e]; rfl
  | fn f c => obtain ⟨gs, e, _⟩ := ha; simp only [execOp, ho, e]; rfl
  | px b i s k => obtain ⟨g, _, e⟩ := ha; simp only [execOp, ho, e]; rfl
  | _ => cases hk
end Go.Proofs.Ytdpcbffmmndhcaa
