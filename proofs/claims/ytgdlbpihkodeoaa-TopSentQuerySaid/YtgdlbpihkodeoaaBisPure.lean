/- Bisection as plain data: the check of its arguments, its candidates, the query for them. -/
import Derived.Test.YtgdlbpihkodeoaaJqPure
import Derived.Test.YtgdlbpihkodeoaaRchPure
namespace Go.Proofs.Ytgdlbpihkodeoaa
open Go.RowKit

/-- the first number that is that of no commit -/
def outI (n : Int) : Int → List Int → Int
  | _, [] => -1
  | k, g :: r => if 0 ≤ g ∧ g < n then outI n (k + 1) r else k
theorem outI_step {n : Int} {l : List Int} {k : Nat} (h : k < l.length) : outI n k (l.drop k) = if 0 ≤ l[k] ∧ l[k] < n then outI n (k + 1) (l.drop (k + 1)) else k := by
  rw [List.drop_eq_getElem_cons h]; rfl
theorem outI_neg {n : Int} : ∀ {l : List Int} {k : Int}, 0 ≤ k → (outI n k l < 0 ↔ ∀ g ∈ l, 0 ≤ g ∧ g < n)
  | [], k, _ => ⟨fun _ g hg => (by cases hg), fun _ => (by show (-1 : Int) < 0; decide)⟩
  | g :: r, k, hk => by
    unfold outI
    split
    · rename_i h
      rw [outI_neg (by omega)]
      constructor
      · intro q x hx
        rcases List.mem_cons.1 hx with rfl | hx
        · exact h
        · exact q x hx
      · exact fun q x hx => q x (by simp [hx])
    · rename_i h
      constructor
      · intro q; omega
      · intro q; exact absurd (q g (by simp)) h
noncomputable def bisF (l : List Cm) (good : List Int) (bad : Int) : Int × Int :=
  if hC l ≠ 0 then (hC l, hI l) else if ¬ (0 ≤ bad ∧ bad < l.length) then (6, -1) else if 60 < good.length then (2, -2) else
  if 0 ≤ outI l.length 0 good then (6, outI l.length 0 good) else if (ancB l good).getD bad.toNat false = true then (11, -1) else (0, 0)
structure bisOk (l : List Cm) (good : List Int) (bad : Int) : Prop where
  hc : hC l = 0
  hbad : 0 ≤ bad ∧ bad < l.length
  len : good.length ≤ 60
  hgood : ∀ g ∈ good, 0 ≤ g ∧ g < l.length
  not : (ancB l good).getD bad.toNat false = false
theorem bisF_ok {l : List Cm} {good : List Int} {bad : Int} : (bisF l good bad).1 = 0 ↔ bisOk l good bad := by
  unfold bisF
  constructor
  · intro h
    split at h
    · rename_i q; exact absurd h q
    split at h
    · exact absurd h (by decide)
    split at h
    · exact absurd h (by decide)
    split at h
    · exact absurd h (show ¬ (6 : Int) = 0 by decide)
    split at h
    · exact absurd h (by decide)
    rename_i h1 h2 h3 h4 h5
    exact ⟨Classical.not_not.1 h1, Classical.not_not.1 h2, by omega, (outI_neg (Int.le_refl 0)).1 (by omega), by simpa using h5⟩
  · intro h
    rw [if_neg (Classical.not_not.2 h.hc), if_neg (Classical.not_not.2 h.hbad), if_neg (by have := h.len; omega), if_neg (by have := (outI_neg (n := l.length) (Int.le_refl 0)).2 h.hgood; omega), if_neg (by rw [h.not]; decide)]
theorem bisF_0 {l : List Cm} {good : List Int} {bad : Int} (h : bisOk l good bad) : bisF l good bad = (0, 0) := by
  unfold bisF
  rw [if_neg (Classical.not_not.2 h.hc), if_neg (Classical.not_not.2 h.hbad), if_neg (by have := h.len; omega), if_neg (by have := (outI_neg (n := l.length) (Int.le_refl 0)).2 h.hgood; omega), if_neg (by rw [h.not]; decide)]
noncomputable def candP (l : List Cm) (good : List Int) (bad : Int) : List Int := selK (minF (ancB l [bad]) (ancB l good)) l.length
theorem anc_mem {l : List Cm} {a b : List Int} (h : ∀ n, n ∈ a ↔ n ∈ b) : ancB l a = ancB l b := by
  unfold ancB
  apply setB_congr
  intro i _
  unfold Anc
  constructor
  · rintro ⟨n, h1, h2⟩; exact ⟨n, (h n).1 h1, h2⟩
  · rintro ⟨n, h1, h2⟩; exact ⟨n, (h n).2 h1, h2⟩
/-- the ancestors of the query for given commits -/
theorem ancS_com {l : List Cm} {ns : List Int} (hn : ∀ n ∈ ns, 0 ≤ n ∧ n < l.length) : ancS l ((comK ns).ev l) = ancB l ns := by
  unfold ancS
  apply anc_mem
  intro n
  rw [selI_mem, Qx.ev_len]
  constructor
  · rintro ⟨i, h1, h2, rfl⟩
    obtain ⟨m, hm, rfl⟩ := (comK_ev h1).1 h2
    exact hm
  · intro h
    obtain ⟨h0, h1⟩ := hn n h
    exact ⟨n.toNat, by omega, (comK_ev (by omega)).2 ⟨n, h, by omega⟩, by omega⟩
theorem selI_tab (f : Nat → Bool) (n : Nat) : selI (tabB f n) = selK f n := by
  unfold selI
  rw [tabB_len]
  exact selK_congr n fun i hi => tabB_at f hi
def candQ (good : List Int) (bad : Int) : Qx := .bi 16 (.un 8 (comK [bad])) (.un 8 (comK good))
theorem candQ_size (good : List Int) (bad : Int) : (candQ good bad).size = 7 + 2 * good.length := by
  show ((comK [bad]).size + 1) + ((comK good).size + 1) + 1 = _
  rw [comK_size, comK_size]
  simp
  omega
theorem candQ_good {l : List Cm} {good : List Int} {bad : Int} (h : bisOk l good bad) : (candQ good bad).good := by
  have hl : l.length ≤ 60 := (hC_all.1 h.hc).1
  exact ⟨.inr (.inr rfl), ⟨.inl rfl, comK_good fun n hn => by rw [List.mem_singleton] at hn; rw [hn]; have := h.hbad; omega⟩, .inl rfl, comK_good fun n hn => by have := h.hgood n hn; omega⟩
theorem candQ_ev {l : List Cm} {good : List Int} {bad : Int} (h : bisOk l good bad) : selI ((candQ good bad).ev l) = candP l good bad := by
  show selI (biB 16 (unB l 8 ((comK [bad]).ev l)) (unB l 8 ((comK good).ev l))) = _
  have e1 : unB l 8 ((comK [bad]).ev l) = ancB l [bad] := (if_pos rfl).trans (ancS_com fun n hn => by rw [List.mem_singleton] at hn; rw [hn]; exact h.hbad)
  have e2 : unB l 8 ((comK good).ev l) = ancB l good := (if_pos rfl).trans (ancS_com h.hgood)
  rw [e1, e2]
  unfold biB
  rw [selI_tab, ancB_len]
  rfl
end Go.Proofs.Ytgdlbpihkodeoaa
