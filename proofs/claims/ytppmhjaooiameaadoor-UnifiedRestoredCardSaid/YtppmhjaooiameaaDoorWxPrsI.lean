/- What a round of unified.Parse does, as plain data. -/
import Derived.Test.YtppmhjaooiameaaDoorWxPrs0
namespace Go.Proofs.YtppmhjaooiameaaDoor
open Go.RowKit
set_option maxRecDepth 20000
set_option maxHeartbeats 4000000
set_option linter.unusedSimpArgs false

def hc0 (s : ByteArray) (i : Nat) : Int := match i with
  | 0 => 0
  | _ => nmN (hrs s 0) ⟨#[44]⟩
def hc1 (s : ByteArray) (i : Nat) : Int := match i with
  | 0 => 0
  | 1 => 0
  | _ => nmN (hrs s 1) ⟨#[32, 43]⟩
def hc2 (s : ByteArray) (i : Nat) : Int := match i with
  | 0 => 0
  | 1 => 0
  | 2 => 0
  | _ => nmN (hrs s 2) ⟨#[44]⟩
def hc3 (s : ByteArray) (i : Nat) : Int := match i with
  | 0 => 0
  | 1 => 0
  | 2 => 0
  | 3 => 0
  | _ => nmN (hrs s 3) ⟨#[32, 64, 64]⟩
def cuO : Option Hk → List ByteArray
  | none => []
  | some h => h.2.1
def cuN : Option Hk → List ByteArray
  | none => []
  | some h => h.2.2
def prI (p : List Hk) (x : PSt) : Prop :=
  pOk x.E x.a x.o x.n x.g x.ad x.cu ∧ p = x.D ++ pCol x.E x.a x.cu ∧ (0 ≤ x.a ∧ x.a ≤ 120 + x.k ∧ 0 ≤ x.o ∧ x.o ≤ 120 ∧ 0 ≤ x.n ∧ x.n ≤ 120 ∧ -(x.k : Int) ≤ x.g ∧ x.g ≤ x.k) ∧ x.k + x.E.length ≤ 4096 ∧ (evT x.E).length ≤ 4096 ∧ x.D.length + x.cu.toList.length ≤ x.k ∧ (cuO x.cu).length ≤ x.k ∧ (cuN x.cu).length ≤ x.k
theorem hd_next {p : List Hk} {la lk lb lm : Int} {E : List Ev} {a g : Int} {ad : Bool} {D : List Hk} {cu : Option Hk} {k : Nat} (h : prI p ⟨.hd la lk lb lm :: E, a, 0, 0, g, ad, D, cu, k⟩) {a' : Int} {ad' : Bool} (ha : a' = la) (had : ad' = if a < la then false else ad) :
    prI p ⟨E, a', lk, lm, g, ad', dcu D cu, none, k + 1⟩ := by
  obtain ⟨⟨-, -, ⟨j3, j4, j5, j6, j7, j8, j9⟩, j10, j11, j12⟩, i2, ⟨ia1, ia2, -, -, -, -, ig1, ig2⟩, i3, i4, i5, i6, i7⟩ := h
  dsimp only at *
  subst ha; subst had
  rw [evT_cons] at i4
  simp only [List.length_append, List.length_cons, List.length_nil] at i3 i4
  have ec : (dcu D cu).length = D.length + cu.toList.length := by rw [dcu_eq, List.length_append]
  exact ⟨j12, by rw [i2, dcu_eq]; simp [pCol], ⟨j3, by show a' ≤ 120 + ((k + 1 : Nat) : Int); omega, j5, by show lk ≤ 120; omega, j6, by show lm ≤ 120; omega, by show -((k + 1 : Nat) : Int) ≤ g; omega, by show g ≤ ((k + 1 : Nat) : Int); omega⟩, by show k + 1 + E.length ≤ 4096; omega, by show (evT E).length ≤ 4096; omega, by show (dcu D cu).length + 0 ≤ k + 1; omega, Nat.zero_le _, Nat.zero_le _⟩
theorem keep_next {p : List Hk} {x : ByteArray} {E : List Ev} {a o n g : Int} {ad : Bool} {D : List Hk} {cu : Option Hk} {k : Nat} (h : prI p ⟨.ln 0 x :: E, a, o, n, g, ad, D, cu, k⟩) :
    (lineC x = 0 ∧ 0 < o ∧ 0 < n) ∧ prI p ⟨E, a + 1, o - 1, n - 1, g, false, dcu D cu, none, k + 1⟩ := by
  obtain ⟨⟨j1, j2, j3, j4⟩, i2, ⟨ia1, ia2, io1, io2, in1, in2, ig1, ig2⟩, i3, i4, i5, i6, i7⟩ := h
  dsimp only at *
  rw [if_pos rfl] at j4
  obtain ⟨j4, j5, j6⟩ := j4
  rw [evT_cons] at i4
  simp only [List.length_append, List.length_cons, List.length_nil] at i3 i4
  have ec : (dcu D cu).length = D.length + cu.toList.length := by rw [dcu_eq, List.length_append]
  exact ⟨⟨j1, j4, j5⟩, j6, by rw [i2, dcu_eq]; simp [pCol], ⟨by show 0 ≤ a + 1; omega, by show a + 1 ≤ 120 + ((k + 1 : Nat) : Int); omega, by show 0 ≤ o - 1; omega, by show o - 1 ≤ 120; omega, by show 0 ≤ n - 1; omega, by show n - 1 ≤ 120; omega, by show -((k + 1 : Nat) : Int) ≤ g; omega, by show g ≤ ((k + 1 : Nat) : Int); omega⟩, by show k + 1 + E.length ≤ 4096; omega, by show (evT E).length ≤ 4096; omega, by show (dcu D cu).length + 0 ≤ k + 1; omega, Nat.zero_le _, Nat.zero_le _⟩
theorem del_next {p : List Hk} {x : ByteArray} {E : List Ev} {a o n g : Int} {ad : Bool} {D : List Hk} {cu : Option Hk} {k : Nat} (h : prI p ⟨.ln 1 x :: E, a, o, n, g, ad, D, cu, k⟩) :
    (lineC x = 0 ∧ 0 < o ∧ 0 ≤ n ∧ ad = false) ∧ ∀ y, y = x → prI p ⟨E, a + 1, o - 1, n, g - 1, false, D, some (cuD a cu y), k + 1⟩ := by
  obtain ⟨⟨j1, j2, j3, j4⟩, i2, ⟨ia1, ia2, io1, io2, in1, in2, ig1, ig2⟩, i3, i4, i5, i6, i7⟩ := h
  dsimp only at *
  rw [if_neg (by decide), if_pos rfl] at j4
  obtain ⟨j4, j5, j6⟩ := j4
  rw [evT_cons] at i4
  simp only [List.length_append, List.length_cons, List.length_nil] at i3 i4
  refine ⟨⟨j1, j4, in1, j5⟩, ?_⟩
  rintro y rfl
  have h5 : D.length + 1 ≤ k + 1 := by omega
  exact ⟨j6, by rw [i2]; simp [pCol], ⟨by show 0 ≤ a + 1; omega, by show a + 1 ≤ 120 + ((k + 1 : Nat) : Int); omega, by show 0 ≤ o - 1; omega, by show o - 1 ≤ 120; omega, in1, in2, by show -((k + 1 : Nat) : Int) ≤ g - 1; omega, by show g - 1 ≤ ((k + 1 : Nat) : Int); omega⟩, by show k + 1 + E.length ≤ 4096; omega, by show (evT E).length ≤ 4096; omega, h5, by
    cases cu with
    | none => show 1 ≤ k + 1; omega
    | some c => show (c.2.1 ++ [y]).length ≤ k + 1; rw [List.length_append, List.length_singleton]; have : c.2.1.length ≤ k := i6; omega, by
    cases cu with
    | none => exact Nat.zero_le _
    | some c => show c.2.2.length ≤ k + 1; have : c.2.2.length ≤ k := i7; omega⟩
theorem ins_next {p : List Hk} {x : ByteArray} {E : List Ev} {a o n g : Int} {ad : Bool} {D : List Hk} {cu : Option Hk} {k : Nat} (h : prI p ⟨.ln 2 x :: E, a, o, n, g, ad, D, cu, k⟩) :
    (lineC x = 0 ∧ 0 ≤ o ∧ 0 < n) ∧ ∀ y, y = x → prI p ⟨E, a, o, n - 1, g + 1, true, D, some (cuI a cu y), k + 1⟩ := by
  obtain ⟨⟨j1, j2, j3, j4⟩, i2, ⟨ia1, ia2, io1, io2, in1, in2, ig1, ig2⟩, i3, i4, i5, i6, i7⟩ := h
  dsimp only at *
  rw [if_neg (by decide), if_neg (by decide)] at j4
  obtain ⟨j4, -, j6⟩ := j4
  rw [evT_cons] at i4
  simp only [List.length_append, List.length_cons, List.length_nil] at i3 i4
  refine ⟨⟨j1, io1, j4⟩, ?_⟩
  rintro y rfl
  have h5 : D.length + 1 ≤ k + 1 := by omega
  exact ⟨j6, by rw [i2]; simp [pCol], ⟨ia1, by show a ≤ 120 + ((k + 1 : Nat) : Int); omega, io1, io2, by show 0 ≤ n - 1; omega, by show n - 1 ≤ 120; omega, by show -((k + 1 : Nat) : Int) ≤ g + 1; omega, by show g + 1 ≤ ((k + 1 : Nat) : Int); omega⟩, by show k + 1 + E.length ≤ 4096; omega, by show (evT E).length ≤ 4096; omega, h5, by
    cases cu with
    | none => exact Nat.zero_le _
    | some c => show c.2.1.length ≤ k + 1; have : c.2.1.length ≤ k := i6; omega, by
    cases cu with
    | none => show 1 ≤ k + 1; omega
    | some c => show (c.2.2 ++ [y]).length ≤ k + 1; rw [List.length_append, List.length_singleton]; have : c.2.2.length ≤ k := i7; omega⟩
theorem ln_kind {p : List Hk} {s : Int} {x : ByteArray} {E : List Ev} {a o n g : Int} {ad : Bool} {D : List Hk} {cu : Option Hk} {k : Nat} (h : prI p ⟨.ln s x :: E, a, o, n, g, ad, D, cu, k⟩) : s = 0 ∨ s = 1 ∨ s = 2 := by
  obtain ⟨⟨-, -, -, j4⟩, -⟩ := h
  dsimp only at j4
  split at j4
  · left; assumption
  · split at j4
    · right; left; assumption
    · right; right; exact j4.2.1
theorem line_tail (m : UInt8) (x : ByteArray) : (bs (m :: x.data.toList)).extract (Int.toNat 1) (((bs (m :: x.data.toList)).size : Int)).toNat = x := by
  apply ByteArray.ext
  apply Array.ext'
  rw [Int.toNat_natCast, ByteArray.data_extract, Array.toList_extract]
  show List.extract (m :: x.data.toList) 1 (bs (m :: x.data.toList)).size = x.data.toList
  rw [bs_size, List.extract_eq_take_drop, List.length_cons]
  exact List.take_of_length_le (by simp)
end Go.Proofs.YtppmhjaooiameaaDoor
