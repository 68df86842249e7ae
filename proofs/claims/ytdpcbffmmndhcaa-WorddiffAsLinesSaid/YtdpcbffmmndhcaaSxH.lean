/- Sx, part H: the operations that only reckon. -/
import Derived.Test.YtdpcbffmmndhcaaSxG
import Derived.IntWalk
namespace Go.Proofs.Ytdpcbffmmndhcaa
open Go.RowKit

def kmin : IntKind → Int
  | .i8 => -128
  | .i16 => -32768
  | .i32 => -2147483648
  | .i64 => -9223372036854775808
  | _ => 0
def kmax : IntKind → Int
  | .i8 => 127
  | .i16 => 32767
  | .i32 => 2147483647
  | .i64 => 9223372036854775807
  | .u8 => 255
  | .u16 => 65535
  | .u32 => 4294967295
  | .u64 => 18446744073709551615
theorem kmin_eq (k : IntKind) : kmin k = k.min := by cases k <;> decide
theorem kmax_eq (k : IntKind) : kmax k = k.max := by cases k <;> decide
theorem wrap_in (k : IntKind) (n : Int) (h1 : kmin k ≤ n) (h2 : n ≤ kmax k) : k.wrap n = n := by
  cases k <;> simp only [kmin, kmax] at h1 h2
  · exact IntWalk.i8_in n ⟨h1, h2⟩
  · exact IntWalk.i16_in n ⟨h1, h2⟩
  · exact IntWalk.i32_in n ⟨h1, h2⟩
  · exact IntWalk.i64_in n ⟨h1, h2⟩
  · exact IntWalk.u8_in n ⟨h1, h2⟩
  · exact IntWalk.u16_in n ⟨h1, h2⟩
  · exact IntWalk.u32_in n ⟨h1, h2⟩
  · exact IntWalk.u64_in n ⟨h1, h2⟩

def mkI (k : IntKind) (n : Int) : Lf := .d (.int k) n
def mkB (b : Bool) : Lf := .d .bool b
def mkS (s : ByteArray) : Lf := .d .str s
theorem mkI_rel {w : World} {G : Gh} {A : Nat → Prop} {k : IntKind} {n : Int} (h1 : kmin k ≤ n) (h2 : n ≤ kmax k) : (mkI k n).rel w G A (.int k n) := ⟨rfl, by rw [← kmin_eq]; exact h1, by rw [← kmax_eq]; exact h2⟩
theorem mkB_rel {w : World} {G : Gh} {A : Nat → Prop} {b : Bool} : (mkB b).rel w G A (.bool b) := rfl

/-- two numbers or strings reckoned with -/
def cBinI (op : BinOp) (k : IntKind) (a b : Int) : Option (Prop × Lf) :=
  match op with
  | .add => some (kmin k ≤ a + b ∧ a + b ≤ kmax k, mkI k (a + b))
  | .sub => some (kmin k ≤ a - b ∧ a - b ≤ kmax k, mkI k (a - b))
  | .mul => some (kmin k ≤ a * b ∧ a * b ≤ kmax k, mkI k (a * b))
  | .quo => some (0 ≤ a ∧ 0 < b, mkI k (a / b))
  | .rem => some (0 ≤ a ∧ 0 < b, mkI k (a % b))
  | .eql => some (True, mkB (decide (a = b)))
  | .neq => some (True, mkB (!decide (a = b)))
  | .lss => some (True, mkB (decide (a < b)))
  | .leq => some (True, mkB (decide (a ≤ b)))
  | .gtr => some (True, mkB (decide (b < a)))
  | .geq => some (True, mkB (decide (b ≤ a)))
  | _ => none
def cBinS (op : BinOp) (a b : ByteArray) : Option (Prop × Lf) :=
  match op with
  | .add => some (a.size + b.size ≤ 1000000000000, mkS (a ++ b))
  | .eql => some (True, mkB (decide (a = b)))
  | .neq => some (True, mkB (!decide (a = b)))
  | _ => none
def cBin (op : BinOp) : Lf → Lf → Option (Prop × Lf)
  | .d (.int k) a, .d (.int k') b => bif decide (k = k') then cBinI op k a b else none
  | .d .str a, .d .str b => cBinS op a b
  | _, _ => none

theorem beq_dec {a b : Int} : (a == b) = decide (a = b) := by
  by_cases h : a = b <;> simp [h]
theorem str_dec {a b : ByteArray} : (a.toList == b.toList) = decide (a = b) := by
  by_cases h : a = b
  · rw [decide_eq_true h]; exact str_eq h
  · rw [decide_eq_false h]; exact str_ne h

theorem run_binOp {P : Program} {ρ : Operand → Value} {o : Oper} {w : World} (op : BinOp) (t u : TypeId) (x y : Operand) (ho : o.op = .binOp op t x y u) {v : Value} (hg : (eqGuard op t x y (ρ x) (ρ y)).run P w = .ok () w)
    (h : (binOp op t (ρ x) (ρ y)).run P w = .ok v w) : (execOp ρ o).run P w = .ok (.value v) w := by
  simp only [execOp, ho, Sem.run_bind, hg, h, Result.andThen_ok, Sem.run_pure]

theorem guard_int {P : Program} {w : World} (op : BinOp) (t : TypeId) (x y : Operand) (k k' : IntKind) (a b : Int) : (eqGuard op t x y (.int k a) (.int k' b)).run P w = .ok () w := by
  cases op <;> rfl
theorem guard_str {P : Program} {w : World} (op : BinOp) (t : TypeId) (x y : Operand) (a b : ByteArray) : (eqGuard op t x y (.string a) (.string b)).run P w = .ok () w := by
  cases op <;> rfl

theorem cBinI_sound {P : Program} {w : World} {G : Gh} {A : Nat → Prop} (op : BinOp) (t : TypeId) (k : IntKind) (a b : Int) {c : Lf} {sd : Prop} (e : cBinI op k a b = some (sd, c)) (hsd : sd)
    (a1 : kmin k ≤ a) (a2 : a ≤ kmax k) (b2 : b ≤ kmax k) : ∃ v, (binOp op t (.int k a) (.int k b)).run P w = .ok v w ∧ c.rel w G A v := by
  have hq : ∀ (hb0 : 0 < b) (ha0 : 0 ≤ a), kmin k ≤ a / b ∧ a / b ≤ kmax k ∧ a.tdiv b = a / b ∧ kmin k ≤ a % b ∧ a % b ≤ kmax k ∧ a.tmod b = a % b := by
    intro hb0 ha0
    have q1 : 0 ≤ a / b := Int.ediv_nonneg ha0 (by omega)
    have q2 : a / b ≤ a := Int.ediv_le_self b ha0
    have q3 : 0 ≤ a % b := Int.emod_nonneg a (by omega)
    have q4 : a % b < b := Int.emod_lt_of_pos a hb0
    have km : kmin k ≤ 0 := by cases k <;> decide
    exact ⟨by omega, by omega, Int.tdiv_eq_ediv_of_nonneg ha0, by omega, by omega, Int.tmod_eq_emod_of_nonneg ha0⟩
  unfold cBinI at e
  split at e
  all_goals cases e
  · exact ⟨.int k (a + b), by simp only [binOp, ne_eq, not_true_eq_false, if_false, Op.intArith, wrap_in k _ hsd.1 hsd.2]; rfl, mkI_rel hsd.1 hsd.2⟩
  · exact ⟨.int k (a - b), by simp only [binOp, ne_eq, not_true_eq_false, if_false, Op.intArith, wrap_in k _ hsd.1 hsd.2]; rfl, mkI_rel hsd.1 hsd.2⟩
  · exact ⟨.int k (a * b), by simp only [binOp, ne_eq, not_true_eq_false, if_false, Op.intArith, wrap_in k _ hsd.1 hsd.2]; rfl, mkI_rel hsd.1 hsd.2⟩
  · obtain ⟨q1, q2, q3, _⟩ := hq hsd.2 hsd.1
    have hb0 : ¬ b = 0 := by have := hsd.2; omega
    exact ⟨.int k (a / b), by simp only [binOp, ne_eq, not_true_eq_false, if_false, Op.intDiv, hb0, q3, wrap_in k _ q1 q2]; rfl, mkI_rel q1 q2⟩
  · obtain ⟨_, _, _, q1, q2, q3⟩ := hq hsd.2 hsd.1
    have hb0 : ¬ b = 0 := by have := hsd.2; omega
    exact ⟨.int k (a % b), by simp only [binOp, ne_eq, not_true_eq_false, if_false, Op.intDiv, hb0, q3]; rfl, mkI_rel q1 q2⟩
  · exact ⟨.bool (decide (a = b)), by simp only [binOp, ne_eq, not_true_eq_false, if_false, Op.intCmp, beq_dec]; rfl, mkB_rel⟩
  · exact ⟨.bool (!decide (a = b)), by simp only [binOp, ne_eq, not_true_eq_false, if_false, Op.intCmp, bne, beq_dec]; rfl, mkB_rel⟩
  · exact ⟨.bool (decide (a < b)), by simp only [binOp, ne_eq, not_true_eq_false, if_false, Op.intCmp]; rfl, mkB_rel⟩
  · exact ⟨.bool (decide (a ≤ b)), by simp only [binOp, ne_eq, not_true_eq_false, if_false, Op.intCmp]; rfl, mkB_rel⟩
  · exact ⟨.bool (decide (b < a)), by simp only [binOp, ne_eq, not_true_eq_false, if_false, Op.intCmp]; rfl, mkB_rel⟩
  · exact ⟨.bool (decide (b ≤ a)), by simp only [binOp, ne_eq, not_true_eq_false, if_false, Op.intCmp]; rfl, mkB_rel⟩
theorem cBinS_sound {P : Program} {w : World} {G : Gh} {A : Nat → Prop} (op : BinOp) (t : TypeId) (a b : ByteArray) {c : Lf} {sd : Prop} (e : cBinS op a b = some (sd, c)) (hsd : sd) :
    ∃ v, (binOp op t (.string a) (.string b)).run P w = .ok v w ∧ c.rel w G A v := by
  unfold cBinS at e
  split at e
  all_goals cases e
  · have hle : ¬ ((a.size + b.size : Nat) : Int) > IntKind.i64.max := by rw [← kmax_eq]; simp only [kmax]; omega
    refine ⟨.string (a ++ b), by simp only [binOp, Op.stringOp, hle, if_false]; rfl, rfl, ?_⟩
    rw [ByteArray.size_append, maxLen_eq]; omega
  · exact ⟨.bool (decide (a = b)), by simp only [binOp, Op.stringOp, str_dec]; rfl, mkB_rel⟩
  · exact ⟨.bool (!decide (a = b)), by simp only [binOp, Op.stringOp, str_dec]; rfl, mkB_rel⟩

theorem cBin_sound {P : Program} {F : Fr} {hp : Nat → Option Ob} {G : Gh} {ρ : Operand → Value} {o : Oper} {w : World} (op : BinOp) (t u : TypeId) (x y : Operand) (ho : o.op = .binOp op t x y u)
    {a b c : Lf} {sd : Prop} (e : cBin op a b = some (sd, c)) (hsd : sd) (h : RepH F hp G w) (ha : a.rel w G (Okay F hp G) (ρ x)) (hb : b.rel w G (Okay F hp G) (ρ y)) :
    Runs P ρ o w (Aft F hp G w hp (.v false [c]) []) := by
  unfold cBin at e
  split at e
  · rename_i k a k' b
    obtain ⟨ea, a1, a2⟩ := ha
    obtain ⟨eb, b1, b2⟩ := hb
    have ea : ρ x = .int k a := by simpa using ea
    have eb : ρ y = .int k' b := by simpa using eb
    cases hk : decide (k = k')
    · rw [hk] at e; cases e
    · rw [hk] at e
      obtain rfl := of_decide_eq_true hk
      obtain ⟨v, v1, v2⟩ := cBinI_sound (P := P) (w := w) (G := G) (A := Okay F hp G) op t k a b e hsd (by rw [kmin_eq]; exact a1) (by rw [kmax_eq]; exact a2) (by rw [kmax_eq]; exact b2)
      exact Runs.of_ok (run_binOp op t u x y ho (by rw [ea, eb]; exact guard_int op t x y k k a b) (by rw [ea, eb]; exact v1)) (Aft.still h (AV.rel_of v2))
  · rename_i a b
    obtain ⟨ea, a1⟩ := ha
    obtain ⟨eb, b1⟩ := hb
    have ea : ρ x = .string a := by simpa using ea
    have eb : ρ y = .string b := by simpa using eb
    obtain ⟨v, v1, v2⟩ := cBinS_sound (P := P) (w := w) (G := G) (A := Okay F hp G) op t a b e hsd
    exact Runs.of_ok (run_binOp op t u x y ho (by rw [ea, eb]; exact guard_str op t x y a b) (by rw [ea, eb]; exact v1)) (Aft.still h (AV.rel_of v2))
  · cases e

def cUn : UnOp → Lf → Option (Prop × Lf)
  | .not, .d .bool b => some (True, mkB (!b))
  | .neg, .d (.int k) n => some (kmin k ≤ -(n : Int) ∧ -(n : Int) ≤ kmax k, mkI k (-(n : Int)))
  | _, _ => none
theorem cUn_sound {P : Program} {F : Fr} {hp : Nat → Option Ob} {G : Gh} {ρ : Operand → Value} {o : Oper} {w : World} (op : UnOp) (t : TypeId) (x : Operand) (ho : o.op = .unOp op t x)
    {a c : Lf} {sd : Prop} (e : cUn op a = some (sd, c)) (hsd : sd) (h : RepH F hp G w) (ha : a.rel w G (Okay F hp G) (ρ x)) : Runs P ρ o w (Aft F hp G w hp (.v false [c]) []) := by
  have fin : ∀ v, (Op.unary op (ρ x)).run P w = .ok v w → c.rel w G (Okay F hp G) v → Runs P ρ o w (Aft F hp G w hp (.v false [c]) []) := by
    intro v h1 h2
    exact Runs.of_ok (v := v) (by simp only [execOp, ho, Sem.run_bind, h1, Result.andThen_ok, Sem.run_pure]) (Aft.still h (AV.rel_of h2))
  unfold cUn at e
  split at e
  · rename_i b
    cases e
    have ea : ρ x = .bool b := by simpa using (show [ρ x] = [.bool b] from ha)
    exact fin (.bool (!b)) (by rw [ea]; rfl) mkB_rel
  · rename_i k n
    cases e
    have ea : ρ x = .int k n := by simpa using ha.1
    refine fin (.int k (-n)) ?_ (mkI_rel hsd.1 hsd.2)
    rw [ea]
    simp only [Op.unary, Op.intArith, Int.zero_sub, wrap_in k _ hsd.1 hsd.2]
    rfl
  · cases e

def lfInt : Lf → Option Int
  | .d (.int _) n => some n
  | _ => none
theorem lfInt_rel {w : World} {G : Gh} {A : Nat → Prop} {x : Lf} {n : Int} {v : Value} (e : lfInt x = some n) (h : x.rel w G A v) : ∃ k, v = .int k n := by
  unfold lfInt at e
  split at e
  · rename_i k m
    cases e
    exact ⟨k, by simpa using h.1⟩
  · cases e

/-! ### indices, slices -/
def cIndexAddr (cl : Bool) (i : TI) (esize : Nat) (hp : Nat → Option Ob) (ix : Lf) (x : Lf) : Option (Prop × Lf) :=
  match lfInt ix with
  | none => none
  | some n => match x with
    | .d (.slice e) l => some (0 ≤ n ∧ n < l.length, .dp e (l.getD n.toNat e.dflt))
    | .o b => match hp b with
      | some (.row _ t l) => some (0 ≤ n ∧ n < l.length, .pe b n.toNat t.size 0)
      | some (.arr _ m _) => some (0 ≤ n ∧ n < m, .pe b n.toNat esize 0)
      | some (.rox _ t l1 _ l2) => match cl with
        | true => some (0 ≤ n ∧ n < l1.length + 1 + l2.length, .pe b n.toNat t.size 0)
        | false => some (n = l1.length, .px b l1.length t.size 0)
      | _ => none
    | .p b off => match i.kind with
      | .array m _ => some (0 ≤ n ∧ n < m, .p b (off + n.toNat * esize))
      | _ => none
    | .pe b j s k => match i.kind with
      | .array m _ => some (0 ≤ n ∧ n < m, .pe b j s (k + n.toNat * esize))
      | _ => none
    | .px b j s k => match i.kind with
      | .array m _ => some (0 ≤ n ∧ n < m, .px b j s (k + n.toNat * esize))
      | _ => none
    | .dp (.st t) x => match i.kind with
      | .array m _ => match t.comp x (n.toNat * esize) with
        | some ⟨u, y⟩ => some (0 ≤ n ∧ n < m, .dp u y)
        | none => none
      | _ => none
    | _ => none

theorem rowOwn_slice {w : World} {E : TypeId} {size n : Nat} {v : Value} {vs : List Value} (h : w.ownsRow 0 E size v n vs) : (v = .slice none 0 0 ∧ n = 0) ∨ ∃ g cap, v = .slice (some ⟨g, 0, none⟩) n cap := by
  rcases h.2 with q | ⟨g, cap, cur, rfl, _⟩
  · exact .inl q
  · exact .inr ⟨g, cap, rfl⟩

theorem run_indexSlice {P : Program} {ρ : Operand → Value} {o : Oper} {w : World} (T E : TypeId) (x y : Operand) (ho : o.op = .indexAddr T x y) {i j : TI} (hi : i.ok P T) (hk : i.kind = .slice E) (hj : j.ok P E)
    {b off n cap : Nat} {k : IntKind} {m : Int} (hx : ρ x = .slice (some ⟨b, off, none⟩) n cap) (hy : ρ y = .int k m) (h0 : 0 ≤ m) (h1 : m < n) :
    (execOp ρ o).run P w = .ok (.value (.pointer (some ⟨b, off + m.toNat * j.size, none⟩))) w := by
  simp only [execOp, ho, Instr.indexAt, hx, hy, asIntOf, Sem.run_bind, Sem.run_pure, Result.andThen_ok, run_underlying (hi.slice hk), h0, h1, and_self, if_true, run_size hj, addr_add0]

theorem run_indexArr {P : Program} {ρ : Operand → Value} {o : Oper} {w : World} (T E : TypeId) (x y : Operand) (ho : o.op = .indexAddr T x y) {i j : TI} {n : Nat} (hi : i.ok P T) (hk : i.kind = .array n E) (hj : j.ok P E)
    {b off : Nat} {k : IntKind} {m : Int} (hx : ρ x = .pointer (some ⟨b, off, none⟩)) (hy : ρ y = .int k m) (h0 : 0 ≤ m) (h1 : m < n) :
    (execOp ρ o).run P w = .ok (.value (.pointer (some ⟨b, off + m.toNat * j.size, none⟩))) w := by
  obtain ⟨d, hd, hkk⟩ := hi.und
  rw [hk] at hkk
  rw [hkk.1] at hd
  simp only [execOp, ho, Instr.indexAt, hx, hy, asIntOf, Sem.run_bind, Sem.run_pure, Result.andThen_ok, run_underlying hd, Instr.sureAddr, h0, h1, and_self, if_true, run_size hj, addr_add0]

theorem cIndexAddr_sound {P : Program} {F : Fr} {hp : Nat → Option Ob} {G : Gh} {ρ : Operand → Value} {o : Oper} {w : World} (T E : TypeId) (x y : Operand) (ho : o.op = .indexAddr T x y) {i j : TI} (hi : i.ok P T) (hj : j.ok P E)
    (hk : i.kind = .slice E ∨ ∃ n, i.kind = .array n E) {cl : Bool} {a ix c : Lf} {sd : Prop} (e : cIndexAddr cl i j.size hp ix a = some (sd, c)) (hsd : sd)
    (hty : (∀ t l, a = .d (.slice t) l → i.kind = .slice E ∧ t.size = j.size) ∧ (∀ b, a = .o b → i.kind = .slice E ∧ (∀ E' t l, hp b = some (.row E' t l) → t.size = j.size) ∧ ∀ E' t l1 cs l2, hp b = some (.rox E' t l1 cs l2) → t.size = j.size))
    (h : RepH F hp G w) (ha : a.rel w G (Okay F hp G) (ρ x)) (hix : ix.rel w G (Okay F hp G) (ρ y)) :
    Runs P ρ o w (Aft F hp G w hp (.v false [c]) []) := by
  unfold cIndexAddr at e
  split at e
  · cases e
  · rename_i n hn0
    obtain ⟨k, hy⟩ := lfInt_rel hn0 hix
    split at e
    · rename_i t l
      obtain ⟨hks, hts⟩ := hty.1 t l rfl
      cases e
      obtain ⟨ao, cap, h0, h1, h2, h3, h4⟩ := ha
      have hv : ρ x = .slice ao l.length cap := by simpa using h0
      have hn : n.toNat < l.length := by omega
      obtain ⟨b, off, es, rfl, k1, k2, k3, k4⟩ := h4 n.toNat hn
      refine Runs.of_ok (run_indexSlice T E x y ho hi hks hj hv hy hsd.1 hsd.2) (Aft.still h (AV.rel_of ⟨b, off + n.toNat * j.size, es, rfl, k1, k2, ?_, fun q hq => ?_⟩))
      · rw [List.getD_eq_getElem?_getD, List.getElem?_eq_getElem hn]; exact k3
      · rw [← hts, Nat.add_assoc]; exact k4 q hq
    · rename_i b
      obtain ⟨hks, hts⟩ := hty.2 b rfl
      obtain ⟨hv, _⟩ := ha
      split at e
      · rename_i E' t l hb
        cases e
        obtain ⟨vs, k1, k2, k3⟩ := h.sat b _ hb
        rcases rowOwn_slice k2 with ⟨_, q⟩ | ⟨g, cap, q⟩
        · have := hsd.2; omega
        · rw [q] at hv
          have := hts.1 E' t l hb
          refine Runs.of_ok (run_indexSlice T E x y ho hi hks hj hv hy hsd.1 hsd.2) (Aft.still h (AV.rel_of ⟨g, by rw [q]; rfl, ?_⟩))
          rw [this, Nat.zero_add]; rfl
      · rename_i E' m cs hb
        cases e
        obtain ⟨g, vs, k1, k2, k3, k4, k5⟩ := h.sat b _ hb
        rw [k1] at hv
        refine Runs.of_ok (run_indexSlice T E x y ho hi hks hj hv hy hsd.1 hsd.2) (Aft.still h (AV.rel_of ⟨g, by rw [k1]; rfl, ?_⟩))
        rw [Nat.zero_add]; rfl
      · rename_i E' t l1 cs l2 hb
        have hsz := hts.2 E' t l1 cs l2 hb
        obtain ⟨v1, c1, v2, k1, k2, k3, k4, k5, k6⟩ := h.sat b _ hb
        rcases rowOwn_slice k5 with ⟨_, q⟩ | ⟨g, cap, q⟩
        · omega
        · rw [q] at hv
          cases cl with
          | true =>
            cases e
            refine Runs.of_ok (run_indexSlice T E x y ho hi hks hj hv hy hsd.1 (by omega)) (Aft.still h (AV.rel_of ⟨g, by rw [q]; rfl, ?_⟩))
            rw [hsz, Nat.zero_add]; rfl
          | false =>
            cases e
            have hsd : n = l1.length := hsd
            refine Runs.of_ok (run_indexSlice T E x y ho hi hks hj hv hy (by omega) (by omega)) (Aft.still h (AV.rel_of ⟨g, by rw [q]; rfl, ?_⟩))
            rw [hsz, Nat.zero_add, hsd]; rfl
      · cases e
    · rename_i b off
      split at e
      · rename_i m E' hkind
        cases e
        have hE : E' = E := by
          rcases hk with q | ⟨n', q⟩
          · rw [q] at hkind; cases hkind
          · rw [q] at hkind; cases hkind; rfl
        subst hE
        obtain ⟨g, k1, hv⟩ := ha
        exact Runs.of_ok (run_indexArr T E' x y ho hi hkind hj hv hy hsd.1 hsd.2) (Aft.still h (AV.rel_of ⟨g, k1, rfl⟩))
      · cases e
    · rename_i b q s kk
      split at e
      · rename_i m E' hkind
        cases e
        have hE : E' = E := by
          rcases hk with q | ⟨n', q⟩
          · rw [q] at hkind; cases hkind
          · rw [q] at hkind; cases hkind; rfl
        subst hE
        obtain ⟨g, k1, hv⟩ := ha
        exact Runs.of_ok (run_indexArr T E' x y ho hi hkind hj hv hy hsd.1 hsd.2) (Aft.still h (AV.rel_of ⟨g, k1, by rw [Nat.add_assoc]⟩))
      · cases e
    · rename_i b q s kk
      split at e
      · rename_i m E' hkind
        cases e
        have hE : E' = E := by
          rcases hk with q | ⟨n', q⟩
          · rw [q] at hkind; cases hkind
          · rw [q] at hkind; cases hkind; rfl
        subst hE
        obtain ⟨g, k1, hv⟩ := ha
        exact Runs.of_ok (run_indexArr T E' x y ho hi hkind hj hv hy hsd.1 hsd.2) (Aft.still h (AV.rel_of ⟨g, k1, by rw [Nat.add_assoc]⟩))
      · cases e
    · rename_i t' x'
      split at e
      · rename_i m E' hkind
        have hE : E' = E := by
          rcases hk with q | ⟨n', q⟩
          · rw [q] at hkind; cases hkind
          · rw [q] at hkind; cases hkind; rfl
        subst hE
        split at e
        · rename_i u y' hc
          cases e
          obtain ⟨g, off, cs, hv, k1, k2, k3, k4⟩ := ha
          obtain ⟨c1, c2, c3, rfl, q1, q2⟩ := comp_rd t' x' cs _ u y' k3 hc
          refine Runs.of_ok (run_indexArr T E' x y ho hi hkind hj hv hy hsd.1 hsd.2) (Aft.still h (AV.rel_of ⟨g, off + n.toNat * j.size, c2, rfl, k1, k2, q2, fun q hq => ?_⟩))
          have := k4 (n.toNat * j.size + q) (by simp; omega)
          rw [Nat.add_assoc, this]
          congr 1
          rw [List.getElem_append_right (by omega), List.getElem_append_left (by omega)]
          congr 1
          omega
        · cases e
      · cases e
    · cases e
end Go.Proofs.Ytdpcbffmmndhcaa
