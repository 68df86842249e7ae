/- A patch of one hunk applied with tolerance behind further lines. No program in sight. -/
import Derived.Test.YtppmhjaooiameaaDoorUniPure
namespace Go.Proofs.YtppmhjaooiameaaDoor
open Go.RowKit

theorem ofS_first {t : List ByteArray} {h : Hk} {least : Int} (n : Nat) (hn : ofOk t h least (n : Int) = true) (hu : ∀ d : Int, ofOk t h least d = true → d = n) : ∀ (m : Nat) (k : Nat), k ≤ n → n < k + m → ofS t h least m (k : Int) = some (n : Int)
  | 0, k, h1, h2 => absurd h2 (by omega)
  | m + 1, k, h1, h2 => by
    unfold ofS
    by_cases e : k = n
    · subst e
      by_cases q : ofOk t h least (-(k : Int)) = true
      · rw [if_pos q, hu _ q]
      · rw [if_neg q, if_pos hn]
    · rw [if_neg (fun q => by have := hu _ q; omega), if_neg (fun q => by have := hu _ q; omega)]
      exact ofS_first n hn hu m (k + 1) (by omega) (by omega)
theorem occ_shift {t old : List ByteArray} {n : Nat} {x : Int} (hne : ∀ s ∈ old, s ≠ ByteArray.empty) (hold : old ≠ []) (h : occ (List.replicate n ByteArray.empty ++ t) old x = true) : (n : Int) ≤ x ∧ occ t old (x - n) = true := by
  obtain ⟨h0, h1, h2, h3⟩ := occ_iff.1 h
  obtain ⟨k, rfl⟩ : ∃ k : Nat, x = k := ⟨x.toNat, by omega⟩
  have hlen : (List.replicate n ByteArray.empty ++ t).length = n + t.length := by rw [List.length_append, List.length_replicate]
  have hpos : 0 < old.length := List.length_pos_iff.2 hold
  by_cases hk : k < n
  · exfalso
    have e : old[0]'hpos = ByteArray.empty := by
      have := congrArg (fun l : List ByteArray => l[0]?) h3
      simp only [List.getElem?_drop, List.getElem?_take] at this
      rw [if_pos (by omega), List.getElem?_append_left (by rw [List.length_replicate]; omega), List.getElem?_replicate_of_lt (by omega), List.getElem?_eq_getElem hpos] at this
      exact (Option.some.inj this).symm
    exact hne _ (List.getElem_mem hpos) e
  · refine ⟨by omega, occ_iff.2 ⟨by omega, by omega, by omega, ?_⟩⟩
    rw [List.take_append, List.drop_append, List.length_take, List.length_replicate, List.drop_eq_nil_of_le (by rw [List.length_take, List.length_replicate]; omega), List.nil_append] at h3
    have ex : (((k : Nat) : Int) - (n : Int)).toNat = k - n := by omega
    have ey : (((k : Nat) : Int) - (n : Int) + (old.length : Int)).toNat = k - n + old.length := by omega
    have ez : (((k : Nat) : Int) + (old.length : Int)).toNat - n = k - n + old.length := by omega
    have ew : ((k : Nat) : Int).toNat - min (((k : Nat) : Int) + (old.length : Int)).toNat n = k - n := by omega
    rw [ez, ew] at h3
    rw [ex, ey]
    exact h3
theorem occ_front {t old : List ByteArray} {n : Nat} {y : Int} (h : occ t old y = true) : occ (List.replicate n ByteArray.empty ++ t) old (y + n) = true := by
  obtain ⟨h0, h1, h2, h3⟩ := occ_iff.1 h
  obtain ⟨k, rfl⟩ : ∃ k : Nat, y = k := ⟨y.toNat, by omega⟩
  have hlen : (List.replicate n ByteArray.empty ++ t).length = n + t.length := by rw [List.length_append, List.length_replicate]
  refine occ_iff.2 ⟨by omega, by omega, by omega, ?_⟩
  have ex : (((k : Nat) : Int) + (n : Int)).toNat = n + k := by omega
  have ey : (((k : Nat) : Int) + (n : Int) + (old.length : Int)).toNat = n + (k + old.length) := by omega
  have ez : (((k : Nat) : Int) + (old.length : Int)).toNat = k + old.length := by omega
  rw [ez, Int.toNat_natCast] at h3
  rw [ex, ey, List.take_append, List.drop_append, List.length_take, List.length_replicate, List.drop_eq_nil_of_le (by rw [List.length_take, List.length_replicate]; omega), List.nil_append]
  rw [show n + (k + old.length) - n = k + old.length by omega, show n + k - min (n + (k + old.length)) n = k by omega]
  exact h3
theorem of_shift {t : List ByteArray} {h : Hk} {n : Nat} (ho : occ t h.2.1 h.1 = true) (hn : n ≤ 20) (hold : h.2.1 ≠ []) (hne : ∀ s ∈ h.2.1, s ≠ ByteArray.empty)
    (hu : ∀ y : Int, occ t h.2.1 y = true → y = h.1) : ofD (List.replicate n ByteArray.empty ++ t) h 20 0 = some (n : Int) := by
  have h0 : 0 ≤ h.1 := (occ_iff.1 ho).1
  unfold ofD
  refine ofS_first n ?_ (fun d hd => ?_) 21 0 (Nat.zero_le _) (by omega)
  · unfold ofOk
    rw [occ_front ho, decide_eq_true (by omega)]; rfl
  · unfold ofOk at hd
    rw [Bool.and_eq_true] at hd
    have := hu _ (occ_shift hne hold hd.2).2
    omega
theorem take_shift {t : List ByteArray} {n : Nat} {a : Int} (h0 : 0 ≤ a) : (List.replicate n ByteArray.empty ++ t).take (a + n).toNat = List.replicate n ByteArray.empty ++ t.take a.toNat := by
  rw [List.take_append, List.length_replicate, List.take_of_length_le (by rw [List.length_replicate]; omega), show (a + (n : Int)).toNat - n = a.toNat by omega]
theorem drop_shift {t : List ByteArray} {n : Nat} {a : Int} (h0 : 0 ≤ a) : (List.replicate n ByteArray.empty ++ t).drop (a + n).toNat = t.drop a.toNat := by
  rw [List.drop_append, List.length_replicate, List.drop_eq_nil_of_le (by rw [List.length_replicate]; omega), List.nil_append, show (a + (n : Int)).toNat - n = a.toNat by omega]
theorem raw_shift {t : List ByteArray} {n : Nat} {h : Hk} (h0 : 0 ≤ h.1) :
    raw (List.replicate n ByteArray.empty ++ t) (List.replicate n ByteArray.empty ++ t).length 0 [(h.1 + n, h.2)] = List.replicate n ByteArray.empty ++ raw t t.length 0 [h] := by
  show ((List.replicate n ByteArray.empty ++ t).take (h.1 + n).toNat).drop (0 : Int).toNat ++ h.2.2 ++ ((List.replicate n ByteArray.empty ++ t).take ((List.replicate n ByteArray.empty ++ t).length : Int).toNat).drop (h.1 + n + h.2.1.length).toNat
    = _ ++ ((t.take h.1.toNat).drop (0 : Int).toNat ++ h.2.2 ++ (t.take (t.length : Int).toNat).drop (h.1 + h.2.1.length).toNat)
  rw [Int.toNat_natCast, Int.toNat_natCast, List.take_length, List.take_length, take_shift h0, show h.1 + (n : Int) + (h.2.1.length : Int) = h.1 + h.2.1.length + n by omega, drop_shift (by omega), show (0 : Int).toNat = 0 from rfl, List.drop_zero, List.drop_zero,
    List.append_assoc, List.append_assoc, List.append_assoc]
theorem shift_law {t : List ByteArray} {h : Hk} {n : Nat} (ha : (apF [h] t).1 = 0) (hl : t.length + n ≤ 120) (hs : (apL [h] t).length + n ≤ 120) (hn : n ≤ 20) (hold : h.2.1 ≠ []) (hne : ∀ s ∈ h.2.1, s ≠ ByteArray.empty)
    (hu : ∀ y : Int, occ t h.2.1 y = true → y = h.1) : fuC (List.replicate n ByteArray.empty ++ t) [h] 20 = (0, 0) ∧ fuT (List.replicate n ByteArray.empty ++ t) [h] 20 = List.replicate n ByteArray.empty ++ apL [h] t ∧ fuL (List.replicate n ByteArray.empty ++ t) [h] 20 = [(n : Int)] := by
  obtain ⟨a1, a2, a3, a4⟩ := apF_good ha
  have ho := missI_none [h] 0 a3 h List.mem_cons_self
  have h0 : 0 ≤ h.1 := (occ_iff.1 ho).1
  have eL : apL [h] t = raw t t.length 0 [h] := if_pos ha
  have hd := of_shift (n := n) ho hn hold hne hu
  have eO : fuO (List.replicate n ByteArray.empty ++ t) 20 0 [h] = [(n : Int)] := by unfold fuO; rw [hd]; rfl
  have eM : fuM (List.replicate n ByteArray.empty ++ t) 20 0 0 [h] = none := by unfold fuM; rw [hd]; rfl
  have eR : raw (List.replicate n ByteArray.empty ++ t) (List.replicate n ByteArray.empty ++ t).length 0 (fuP [h] [(n : Int)]) = List.replicate n ByteArray.empty ++ apL [h] t := by
    rw [eL]; exact raw_shift h0
  have v : vC (List.replicate n ByteArray.empty ++ t) = 0 := by
    obtain ⟨v1, v2⟩ := (vC_good t).1 a2
    refine (vC_good _).2 ⟨by rw [List.length_append, List.length_replicate]; omega, fun x hx => ?_⟩
    rcases List.mem_append.1 hx with hx | hx
    · rw [(List.mem_replicate.1 hx).2]; decide
    · exact v2 x hx
  have hC : fuC (List.replicate n ByteArray.empty ++ t) [h] 20 = (0, 0) := by
    unfold fuC
    rw [if_neg (fun z => z a1), if_neg (fun z => z v), if_neg (by omega), eM, eO, eR]
    exact if_neg (by rw [List.length_append, List.length_replicate]; omega)
  refine ⟨hC, ?_, ?_⟩
  · unfold fuT; rw [hC, if_pos rfl, eO, eR]
  · unfold fuL; rw [hC, if_pos rfl, eO]
/-- what the guard of the law says -/
theorem guard_occ {t old : List ByteArray} {at' : Int} (h : ∀ j : Nat, j < t.length → (j : Int) ≠ at' → j + old.length ≤ t.length → (t.take (j + old.length)).drop j ≠ old) (hold : old ≠ []) (y : Int) (hy : occ t old y = true) : y = at' := by
  obtain ⟨h0, h1, h2, h3⟩ := occ_iff.1 hy
  have hpos : 0 < old.length := List.length_pos_iff.2 hold
  by_cases e : y = at'
  · exact e
  · refine absurd ?_ (h y.toNat (by omega) (by omega) (by omega))
    rw [show y.toNat + old.length = (y + old.length).toNat by omega]
    exact h3
end Go.Proofs.YtppmhjaooiameaaDoor
