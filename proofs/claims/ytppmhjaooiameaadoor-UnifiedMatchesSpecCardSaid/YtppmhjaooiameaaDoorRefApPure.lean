/- The reference's Apply works from the last hunk to the first: what it has after each. No program in sight. -/
import Derived.Test.YtppmhjaooiameaaDoorPatPure
namespace Go.Proofs.YtppmhjaooiameaaDoor
open Go.RowKit

theorem raw_split {t : List ByteArray} {high : Int} : ∀ {q : List Hk} {low : Int}, rawOk t high low q → raw t high 0 q = t.take low.toNat ++ raw t high low q
  | [], low, h => by
    obtain ⟨h1, h2, h3⟩ := h
    show (t.take high.toNat).drop (0 : Int).toNat = t.take low.toNat ++ (t.take high.toNat).drop low.toNat
    have e : t.take low.toNat = (t.take high.toNat).take low.toNat := by rw [List.take_take, Nat.min_eq_left (by omega)]
    rw [e, List.take_append_drop]
    simp
  | h :: q, low, ho => by
    obtain ⟨h1, h2, -⟩ := ho
    show (t.take h.1.toNat).drop (0 : Int).toNat ++ h.2.2 ++ raw t high (hkEnd h) q = t.take low.toNat ++ ((t.take h.1.toNat).drop low.toNat ++ h.2.2 ++ raw t high (hkEnd h) q)
    have e : t.take low.toNat = (t.take h.1.toNat).take low.toNat := by rw [List.take_take, Nat.min_eq_left (by omega)]
    rw [e, ← List.append_assoc, ← List.append_assoc, List.take_append_drop]
    simp
theorem rawOk_drop {t : List ByteArray} {high : Int} {p : List Hk} {low : Int} (h : rawOk t high low p) : ∀ k (hk : k < p.length), 0 ≤ hkEnd p[k] ∧ 0 ≤ p[k].1 ∧ p[k].1 ≤ hkEnd p[k] ∧ hkEnd p[k] ≤ high ∧ high ≤ t.length ∧ p[k].2.1.length ≤ 120 ∧ p[k].2.2.length ≤ 120 ∧ rawOk t high (hkEnd p[k]) (p.drop (k + 1)) := by
  induction p generalizing low with
  | nil => intro k hk; exact absurd hk (Nat.not_lt_zero _)
  | cons g q ih =>
    obtain ⟨h1, h2, h3, h4, h5, h6⟩ := h
    have base : ∀ {low : Int} {q : List Hk}, rawOk t high low q → 0 ≤ low ∧ low ≤ high ∧ high ≤ t.length := by
      intro low q
      induction q generalizing low with
      | nil => exact fun h => h
      | cons g q ih =>
        rintro ⟨h1, h2, h3, h4, h5, h6⟩
        have := ih h6
        unfold hkEnd at this
        omega
    intro k hk
    cases k with
    | zero =>
      have := base h6
      refine ⟨this.1, by simp only [List.getElem_cons_zero]; omega, ?_, this.2.1, this.2.2, h4, h5, h6⟩
      simp only [List.getElem_cons_zero]
      unfold hkEnd; omega
    | succ k => exact ih h6 k (by simpa using hk)
/-- one hunk more -/
theorem raw_back {t : List ByteArray} {p : List Hk} (h : rawOk t t.length 0 p) (k : Nat) (hk : k < p.length) :
    (raw t t.length 0 (p.drop (k + 1))).take p[k].1.toNat ++ p[k].2.2 ++ (raw t t.length 0 (p.drop (k + 1))).drop (hkEnd p[k]).toNat = raw t t.length 0 (p.drop k) ∧
    hkEnd p[k] ≤ (raw t t.length 0 (p.drop (k + 1))).length := by
  obtain ⟨h1, h2, h3, h4, h5, h6, h7, h8⟩ := rawOk_drop h k hk
  have hl : (t.take (hkEnd p[k]).toNat).length = (hkEnd p[k]).toNat := by rw [List.length_take]; omega
  have e := raw_split h8
  constructor
  · rw [e, List.take_append_of_le_length (by omega), List.take_take, Nat.min_eq_left (by omega), List.drop_append, List.drop_of_length_le (l := t.take (hkEnd p[k]).toNat) (by omega), hl, Nat.sub_self, List.drop_zero, List.nil_append, raw_step hk]
    simp
  · rw [e, List.length_append, hl]; omega
theorem raw_start (t : List ByteArray) : raw t t.length 0 [] = t := by
  show (t.take ((t.length : Nat) : Int).toNat).drop (0 : Int).toNat = t
  simp
end Go.Proofs.YtppmhjaooiameaaDoor
