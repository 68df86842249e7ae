/- Histories of commits as plain data: their check, their digests. No program in sight. -/
import Derived.Test.YtgdlbpihkodeoaaTlPure
import Derived.Test.YtgdlbpihkodeoaaFwA
namespace Go.Proofs.Ytgdlbpihkodeoaa
open Go.RowKit

abbrev Cm : Type := List Int × Int × Int × Int × ByteArray
abbrev tCm : Ty := .st (.pair (.slice (.int .i64)) (.pair (.int .i64) (.pair (.int .i64) (.pair (.int .i64) .str))))
/-- the error of parents behind q -/
def paC (i : Int) : Int → List Int → Int
  | _, [] => 0
  | q, p :: r => if p < 0 ∨ i ≤ p then 3 else if p ≤ q then 5 else paC i p r
def cmC (c : Cm) (i : Int) : Int :=
  if 3 < c.1.length then 2 else if paC i (-1) c.1 ≠ 0 then paC i (-1) c.1 else
  if c.2.1 < 0 ∨ 7 < c.2.1 ∨ c.2.2.1 < 0 ∨ 100000 < c.2.2.1 ∨ c.2.2.2.1 < 0 ∨ 2305843009213693951 ≤ c.2.2.2.1 then 3 else
  if 80 < c.2.2.2.2.size then 10 else 0
def hcC : Int → List Cm → Int
  | _, [] => 0
  | i, c :: r => if cmC c i = 0 then hcC (i + 1) r else cmC c i
def hcI : Int → List Cm → Int
  | _, [] => 0
  | i, c :: r => if cmC c i = 0 then hcI (i + 1) r else i
def hC (l : List Cm) : Int := if 60 < l.length then 2 else hcC 0 l
def hI (l : List Cm) : Int := if 60 < l.length then -1 else hcI 0 l
theorem paC_lt {i : Int} : ∀ {q : Int} {l : List Int}, paC i q l = 0 → ∀ p ∈ l, 0 ≤ p ∧ p < i
  | _, [], _, _, hp => by cases hp
  | q, x :: r, h, p, hp => by
    unfold paC at h
    split at h
    · exact absurd h (by decide)
    split at h
    · exact absurd h (by decide)
    rename_i h1 h2
    rcases List.mem_cons.1 hp with rfl | hp
    · omega
    · exact paC_lt h p hp
theorem cmC_good {c : Cm} {i : Int} (h : cmC c i = 0) : c.1.length ≤ 3 ∧ (∀ p ∈ c.1, 0 ≤ p ∧ p < i) ∧ 0 ≤ c.2.1 ∧ c.2.1 ≤ 7 ∧ 0 ≤ c.2.2.1 ∧ c.2.2.1 ≤ 100000 ∧ 0 ≤ c.2.2.2.1 ∧ c.2.2.2.1 < 2305843009213693951 ∧ c.2.2.2.2.size ≤ 80 := by
  unfold cmC at h
  split at h
  · exact absurd h (by decide)
  split at h
  · contradiction
  split at h
  · exact absurd h (by decide)
  split at h
  · exact absurd h (by decide)
  rename_i h1 h2 h3 h4
  exact ⟨by omega, paC_lt (Classical.not_not.1 h2), by omega, by omega, by omega, by omega, by omega, by omega, by omega⟩
theorem hcC_step {l : List Cm} {k : Nat} (h : k < l.length) (i : Int) : hcC i (l.drop k) = if cmC l[k] i = 0 then hcC (i + 1) (l.drop (k + 1)) else cmC l[k] i := by
  rw [List.drop_eq_getElem_cons h]; rfl
theorem hcI_step {l : List Cm} {k : Nat} (h : k < l.length) (i : Int) : hcI i (l.drop k) = if cmC l[k] i = 0 then hcI (i + 1) (l.drop (k + 1)) else i := by
  rw [List.drop_eq_getElem_cons h]; rfl
theorem hcI_good : ∀ (l : List Cm) (i : Int), hcC i l = 0 → hcI i l = 0
  | [], _, _ => rfl
  | c :: r, i, h => by
    unfold hcC at h
    unfold hcI
    split
    · rename_i q; rw [if_pos q] at h; exact hcI_good r _ h
    · rename_i q; rw [if_neg q] at h; exact absurd h q
theorem hI_good (l : List Cm) (h : hC l = 0) : hI l = 0 := by
  unfold hC at h
  unfold hI
  split
  · rename_i q; rw [if_pos q] at h; exact absurd h (by decide)
  · rename_i q; rw [if_neg q] at h; exact hcI_good l _ h
theorem hcC_all : ∀ {l : List Cm} {i : Int}, hcC i l = 0 ↔ ∀ k (h : k < l.length), cmC l[k] (i + k) = 0
  | [], i => ⟨fun _ k h => absurd h (Nat.not_lt_zero k), fun _ => rfl⟩
  | c :: r, i => by
    unfold hcC
    constructor
    · intro h
      split at h
      · rename_i q
        intro k hk
        cases k with
        | zero => rw [show i + ((0 : Nat) : Int) = i by omega]; exact q
        | succ k =>
          have := hcC_all.1 h k (by simpa using hk)
          rw [show i + ((k + 1 : Nat) : Int) = i + 1 + k by omega]
          exact this
      · rename_i q; exact absurd h q
    · intro h
      have q : cmC c i = 0 := by
        have := h 0 (by simp)
        rw [show i + ((0 : Nat) : Int) = i by omega] at this
        exact this
      rw [if_pos q]
      refine hcC_all.2 fun k hk => ?_
      have := h (k + 1) (by simpa using hk)
      rw [show i + ((k + 1 : Nat) : Int) = i + 1 + k by omega] at this
      exact this
theorem hC_all {l : List Cm} : hC l = 0 ↔ l.length ≤ 60 ∧ ∀ k (h : k < l.length), cmC l[k] k = 0 := by
  unfold hC
  constructor
  · intro h
    split at h
    · exact absurd h (by decide)
    · rename_i q
      refine ⟨by omega, fun k hk => ?_⟩
      have := hcC_all.1 h k hk
      rwa [Int.zero_add] at this
  · rintro ⟨h1, h2⟩
    rw [if_neg (by omega)]
    exact hcC_all.2 fun k hk => by rw [Int.zero_add]; exact h2 k hk
theorem hC_take {l : List Cm} (h : hC l = 0) (m : Nat) : hC (l.take m) = 0 := by
  obtain ⟨h1, h2⟩ := hC_all.1 h
  refine hC_all.2 ⟨by rw [List.length_take]; omega, fun k hk => ?_⟩
  rw [List.length_take] at hk
  rw [List.getElem_take]
  exact h2 k (by omega)

/-! ### digests -/
def foldP (h : Int) (l : List Int) : Int := l.foldl pr h
theorem foldP_bd {h : Int} (hh : 0 ≤ h ∧ h < 2305843009213693951) : ∀ l : List Int, 0 ≤ foldP h l ∧ foldP h l < 2305843009213693951
  | [] => hh
  | x :: r => foldP_bd (pr_bd h x) r
theorem foldP_snoc (h : Int) (l : List Int) (x : Int) : foldP h (l ++ [x]) = pr (foldP h l) x := by unfold foldP; rw [List.foldl_append]; rfl
def paV (out : List Int) (c : Cm) : List Int := c.1.map fun p => out.getD p.toNat 0
def cdg (h : Cm → Int) (out : List Int) (c : Cm) : Int := foldP (h c) ([c.2.1, c.2.2.1, c.2.2.2.1] ++ paV out c)
def dgs (h : Cm → Int) : List Cm → List Int → List Int
  | [], out => out
  | c :: r, out => dgs h r (out ++ [cdg h out c])
theorem dgs_append (h : Cm → Int) : ∀ (l m : List Cm) (out : List Int), dgs h (l ++ m) out = dgs h m (dgs h l out)
  | [], _, _ => rfl
  | c :: r, m, out => dgs_append h r m _
theorem dgs_length (h : Cm → Int) : ∀ (l : List Cm) (out : List Int), (dgs h l out).length = out.length + l.length
  | [], _ => rfl
  | c :: r, out => by
    show (dgs h r _).length = _
    rw [dgs_length h r, List.length_append, List.length_cons, List.length_cons, List.length_nil]; omega
theorem dgs_pre (h : Cm → Int) : ∀ (l : List Cm) (out : List Int), (dgs h l out).take out.length = out
  | [], out => List.take_length
  | c :: r, out => by
    show (dgs h r (out ++ [cdg h out c])).take out.length = out
    have := dgs_pre h r (out ++ [cdg h out c])
    have e : out = (out ++ [cdg h out c]).take out.length := by rw [List.take_left]
    conv => rhs; rw [e, ← this, List.take_take]
    congr 1
    rw [List.length_append]; simp
theorem dgs_snoc (h : Cm → Int) {l : List Cm} {k : Nat} (hk : k < l.length) : dgs h (l.take (k + 1)) [] = dgs h (l.take k) [] ++ [cdg h (dgs h (l.take k) []) l[k]] := by
  rw [List.take_add_one, List.getElem?_eq_getElem hk, Option.toList_some, dgs_append]; rfl
theorem dgs_take (h : Cm → Int) {l : List Cm} {m : Nat} (hm : m ≤ l.length) : (dgs h l []).take m = dgs h (l.take m) [] := by
  have e : dgs h l [] = dgs h (l.drop m) (dgs h (l.take m) []) := by rw [← dgs_append, List.take_append_drop]
  have := dgs_pre h (l.drop m) (dgs h (l.take m) [])
  rw [dgs_length, List.length_take, List.length_nil, Nat.min_eq_left hm, Nat.zero_add] at this
  rw [e]; exact this
theorem cdg_bd {h : Cm → Int} (hh : ∀ c, 0 ≤ h c ∧ h c < 2305843009213693951) (out : List Int) (c : Cm) : 0 ≤ cdg h out c ∧ cdg h out c < 2305843009213693951 := foldP_bd (hh c) _
theorem dgs_dig {h : Cm → Int} (hh : ∀ c, 0 ≤ h c ∧ h c < 2305843009213693951) : ∀ (l : List Cm) (out : List Int), DigL out → DigL (dgs h l out)
  | [], _, ho => ho
  | c :: r, out, ho => dgs_dig hh r _ (ho.app (DigL.one (cdg_bd hh out c)))
end Go.Proofs.Ytgdlbpihkodeoaa
