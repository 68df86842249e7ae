/- The text of a unified diff, as plain data. No program in sight. -/
import Derived.Test.YtppmhjaooiameaaDoorUniPure
import Derived.Lib.ItoaLen
namespace Go.Proofs.YtppmhjaooiameaaDoor
open Go.RowKit

def num (n : Int) : List UInt8 := Lib.itoa n
def side (a n : Int) : List UInt8 := num (if 0 < n then a + 1 else a) ++ [44] ++ num n
def pfx (m : UInt8) (l : List ByteArray) : List UInt8 := l.flatMap fun s => m :: (s.data.toList ++ [10])
def sub (t : List ByteArray) (a b : Int) : List ByteArray := (t.take b.toNat).drop a.toNat
/-- the lines of a group, from line a on -/
def gb (t : List ByteArray) (hi : Int) : Int → List Hk → List UInt8
  | a, [] => pfx 32 (sub t a hi)
  | a, h :: q => pfx 32 (sub t a h.1) ++ pfx 45 h.2.1 ++ pfx 43 h.2.2 ++ gb t hi (hkEnd h) q
def gLow (c : Int) (h : Hk) : Int := max (h.1 - c) 0
def gHigh (t : List ByteArray) (c : Int) (h : Hk) : Int := min (hkEnd h + c) t.length
/-- a group of hunks -/
def grp (t : List ByteArray) (c g : Int) (q : List Hk) : List UInt8 :=
  let lo := gLow c (q.getD 0 (0, [], [])); let hi := gHigh t c (q.getD (q.length - 1) (0, [], []))
  [64, 64, 32, 45] ++ side lo (hi - lo) ++ [32, 43] ++ side (lo + g) (hi - lo + pGrow q) ++ [32, 64, 64, 10] ++ gb t hi lo q
/-- how many hunks are in a group -/
def gn (c : Int) : Hk → List Hk → Nat
  | _, [] => 1
  | h, k :: r => if k.1 - hkEnd h ≤ 2 * c then gn c k r + 1 else 1
/-- the groups; n: at least as many as the hunks -/
def fm (t : List ByteArray) (c : Int) : Nat → Int → List Hk → List UInt8
  | 0, _, _ => []
  | _ + 1, _, [] => []
  | n + 1, g, h :: r => grp t c g ((h :: r).take (gn c h r)) ++ fm t c n (g + pGrow ((h :: r).take (gn c h r))) ((h :: r).drop (gn c h r))
def fmL (t : List ByteArray) (p : List Hk) (c : Int) : List UInt8 := fm t c p.length 0 p
def fmC (t : List ByteArray) (p : List Hk) (c : Int) : Int × Int :=
  if (apF p t).1 ≠ 0 then apF p t else if c < 0 ∨ 120 < c then (3, -3) else if 4096 < (fmL t p c).length then (10, -1) else (0, 0)
def fmS (t : List ByteArray) (p : List Hk) (c : Int) : ByteArray := if (fmC t p c).1 = 0 then ⟨(fmL t p c).toArray⟩ else ⟨#[]⟩
theorem gn_pos (c : Int) : ∀ (r : List Hk) (h : Hk), 1 ≤ gn c h r
  | [], _ => Nat.le_refl _
  | k :: r, h => by unfold gn; split <;> omega
theorem gn_le (c : Int) : ∀ (r : List Hk) (h : Hk), gn c h r ≤ r.length + 1
  | [], _ => Nat.le_refl _
  | k :: r, h => by
    unfold gn
    have := gn_le c r k
    split
    · rw [List.length_cons]; omega
    · omega
theorem fm_more (t : List ByteArray) (c : Int) : ∀ (n m : Nat) (g : Int) (q : List Hk), q.length ≤ n → n ≤ m → fm t c m g q = fm t c n g q
  | 0, 0, _, _, _, _ => rfl
  | 0, m + 1, g, [], _, _ => rfl
  | 0, _ + 1, _, _ :: _, h, _ => absurd h (by simp)
  | n + 1, 0, _, _, _, h => absurd h (by omega)
  | n + 1, m + 1, g, [], _, _ => rfl
  | n + 1, m + 1, g, h :: r, h1, h2 => by
    show _ ++ fm t c m _ _ = _ ++ fm t c n _ _
    rw [fm_more t c n m _ _ (by
      have := gn_pos c r h
      rw [List.length_drop]
      omega) (by omega)]
/-! ### sizes -/
theorem num_len (n : Int) (h0 : -9223372036854775808 ≤ n) (h1 : n ≤ 9223372036854775807) : (num n).length ≤ 21 := Lib.itoa_length_le n h0 h1
theorem side_len (a n : Int) (h0 : -1000000 ≤ a) (h1 : a ≤ 1000000) (h2 : -1000000 ≤ n) (h3 : n ≤ 1000000) : (side a n).length ≤ 43 := by
  unfold side
  rw [List.length_append, List.length_append, List.length_singleton]
  have e1 := num_len (if 0 < n then a + 1 else a) (by split <;> omega) (by split <;> omega)
  have e2 := num_len n (by omega) (by omega)
  omega
theorem pfx_len (m : UInt8) : ∀ (l : List ByteArray), (∀ s ∈ l, s.size ≤ 80) → (pfx m l).length ≤ 82 * l.length
  | [], _ => Nat.le_refl _
  | s :: l, h => by
    have ih := pfx_len m l fun x hx => h x (List.mem_cons_of_mem _ hx)
    have h1 : s.data.toList.length ≤ 80 := h s List.mem_cons_self
    show (m :: (s.data.toList ++ [10]) ++ pfx m l).length ≤ _
    rw [List.length_append, List.length_cons, List.length_cons, List.length_append, List.length_singleton]
    omega
theorem sub_len (t : List ByteArray) (a b : Int) : (sub t a b).length ≤ t.length := by unfold sub; rw [List.length_drop, List.length_take]; omega
theorem sub_mem {t : List ByteArray} {a b : Int} {s : ByteArray} (h : s ∈ sub t a b) : s ∈ t := List.mem_of_mem_take (List.mem_of_mem_drop h)
theorem line_small {l : List ByteArray} (h : vC l = 0) : ∀ s ∈ l, s.size ≤ 80 := by
  intro s hs
  exact (((vC_good l).1 h).2 s hs).1
theorem gb_len {t : List ByteArray} {hi : Int} (ht : t.length ≤ 120) (hs : ∀ s ∈ t, s.size ≤ 80) : ∀ (q : List Hk) (a : Int), (∀ h ∈ q, HkGood h) → (gb t hi a q).length ≤ 9840 + 29520 * q.length
  | [], a, _ => by
    have := pfx_len 32 (sub t a hi) fun s h => hs s (sub_mem h)
    have := sub_len t a hi
    show (pfx 32 (sub t a hi)).length ≤ 9840 + 29520 * 0
    omega
  | h :: q, a, hq => by
    have ih := gb_len (hi := hi) ht hs q (hkEnd h) fun k hk => hq k (List.mem_cons_of_mem _ hk)
    obtain ⟨-, -, g3, g4, -, -⟩ := hq h List.mem_cons_self
    have e1 := pfx_len 32 (sub t a h.1) fun s h => hs s (sub_mem h)
    have e2 := sub_len t a h.1
    have e3 := pfx_len 45 h.2.1 (line_small g3)
    have e4 := pfx_len 43 h.2.2 (line_small g4)
    have e5 := vC_len _ g3
    have e6 := vC_len _ g4
    show (pfx 32 (sub t a h.1) ++ pfx 45 h.2.1 ++ pfx 43 h.2.2 ++ gb t hi (hkEnd h) q).length ≤ _
    rw [List.length_append, List.length_append, List.length_append, List.length_cons]
    omega
theorem pfx_take (m : UInt8) {l : List ByteArray} {i : Nat} (h : i < l.length) : pfx m (l.take (i + 1)) = pfx m (l.take i) ++ [m] ++ l[i].data.toList ++ [10] := by
  rw [List.take_add_one, List.getElem?_eq_getElem h]
  unfold pfx
  rw [List.flatMap_append]
  show _ ++ ((m :: (l[i].data.toList ++ [10])) ++ []) = _
  rw [List.append_nil, List.append_assoc, List.append_assoc]; rfl
end Go.Proofs.YtppmhjaooiameaaDoor
