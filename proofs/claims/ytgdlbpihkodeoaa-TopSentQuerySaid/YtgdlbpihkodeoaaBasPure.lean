/- Best common ancestors as plain data, and the query for them. -/
import Derived.Test.YtgdlbpihkodeoaaBisPure
namespace Go.Proofs.Ytgdlbpihkodeoaa
open Go.RowKit

/-! ### tables -/
def tabA {α : Type} (f : Nat → α) (n : Nat) : List α := (List.range n).map f
theorem tabA_len {α : Type} (f : Nat → α) (n : Nat) : (tabA f n).length = n := by simp [tabA]
theorem tabA_get {α : Type} (f : Nat → α) {n i : Nat} (h : i < (tabA f n).length) : (tabA f n)[i] = f i := by simp [tabA]
theorem tabA_at {α : Type} (f : Nat → α) {n i : Nat} (d : α) (h : i < n) : (tabA f n).getD i d = f i := by
  unfold tabA
  rw [List.getD_eq_getElem?_getD, List.getElem?_map, List.getElem?_range h]
  rfl
theorem tabA_congr {α : Type} {f g : Nat → α} {n : Nat} (h : ∀ i, i < n → f i = g i) : tabA f n = tabA g n := by
  unfold tabA
  exact List.map_congr_left fun i hi => h i (List.mem_range.1 hi)
def mixA {α : Type} (g f : Nat → α) (n k : Nat) : List α := tabA (fun i => if i < k then f i else g i) n
theorem mixA_len {α : Type} (g f : Nat → α) (n k : Nat) : (mixA g f n k).length = n := tabA_len _ _
theorem mixA_0 {α : Type} (g f : Nat → α) (n : Nat) : mixA g f n 0 = tabA g n := tabA_congr fun i _ => if_neg (Nat.not_lt_zero i)
theorem mixA_n {α : Type} (g f : Nat → α) (n : Nat) : mixA g f n n = tabA f n := tabA_congr fun i h => if_pos h
theorem mixA_at {α : Type} (g f : Nat → α) {n k : Nat} (d : α) (h : k < n) : (mixA g f n k).getD k d = g k := by
  unfold mixA
  rw [tabA_at _ d h, if_neg (Nat.lt_irrefl k)]
theorem mixA_skip {α : Type} (g f : Nat → α) {n k : Nat} (h : f k = g k) : mixA g f n k = mixA g f n (k + 1) := by
  apply tabA_congr
  intro i _
  by_cases e : i = k
  · subst e; rw [if_neg (Nat.lt_irrefl i), if_pos (Nat.lt_succ_self i), h]
  · by_cases q : i < k
    · rw [if_pos q, if_pos (by omega)]
    · rw [if_neg q, if_neg (by omega)]
theorem mixA_set {α : Type} (g f : Nat → α) {n k : Nat} : (mixA g f n k).set k (f k) = mixA g f n (k + 1) := by
  apply List.ext_getElem
  · rw [List.length_set, mixA_len, mixA_len]
  · intro i h1 h2
    rw [List.getElem_set]
    have e1 : (mixA g f n (k + 1))[i] = if i < k + 1 then f i else g i := tabA_get _ h2
    have e2 : ∀ h, (mixA g f n k)[i]'h = if i < k then f i else g i := fun h => tabA_get _ h
    rw [e1]
    simp only [e2]
    by_cases e : k = i
    · subst e
      rw [if_pos rfl, if_pos (Nat.lt_succ_self k)]
    · rw [if_neg e]
      by_cases q : i < k
      · rw [if_pos q, if_pos (by omega)]
      · rw [if_neg q, if_neg (by omega)]
theorem rep_tabA {α : Type} (x : α) (n : Nat) : List.replicate n x = tabA (fun _ => x) n := by
  apply List.ext_getElem
  · rw [tabA_len, List.length_replicate]
  · intro i h1 h2
    rw [List.getElem_replicate, tabA_get]

/-! ### how many of the commits have an ancestor -/
noncomputable def cntA (l : List Cm) (ns : List Int) (i : Nat) : Int := ((ns.countP fun n => (ancB l [n]).getD i false : Nat) : Int)
theorem cntA_0 (l : List Cm) (i : Nat) : cntA l [] i = 0 := rfl
theorem cntA_le (l : List Cm) (ns : List Int) (i : Nat) : 0 ≤ cntA l ns i ∧ cntA l ns i ≤ ns.length := by
  have : ns.countP (fun n => (ancB l [n]).getD i false) ≤ ns.length := List.countP_le_length
  unfold cntA
  omega
theorem cntA_take {l : List Cm} {ns : List Int} {q : Nat} (hq : q < ns.length) (i : Nat) : cntA l (ns.take (q + 1)) i = if (ancB l [ns[q]]).getD i false = true then cntA l (ns.take q) i + 1 else cntA l (ns.take q) i := by
  unfold cntA
  rw [List.take_add_one, List.getElem?_eq_getElem hq, Option.toList_some, List.countP_append, List.countP_singleton]
  split
  · omega
  · omega
noncomputable def comS (l : List Cm) (ns : List Int) : List Bool := tabB (fun i => ns.all fun n => (ancB l [n]).getD i false) l.length
theorem comS_len (l : List Cm) (ns : List Int) : (comS l ns).length = l.length := tabB_len _ _
theorem cntA_all {l : List Cm} {ns : List Int} {i : Nat} (hi : i < l.length) : ¬ cntA l ns i < ns.length ↔ (comS l ns).getD i false = true := by
  unfold comS
  rw [tabB_at _ hi, List.all_eq_true]
  have h1 : ns.countP (fun n => (ancB l [n]).getD i false) ≤ ns.length := List.countP_le_length
  have h2 : ns.countP (fun n => (ancB l [n]).getD i false) = ns.length ↔ ∀ n ∈ ns, (ancB l [n]).getD i false = true := List.countP_eq_length
  rw [← h2]
  unfold cntA
  omega

/-! ### heads -/
def HdP (l : List Cm) (S : List Bool) (i : Nat) : Prop := S.getD i false = true ∧ ¬ ∃ j, j < l.length ∧ j ≠ i ∧ S.getD j false = true ∧ Rch l j i
theorem hdS_len {l : List Cm} {S : List Bool} (h : S.length = l.length) : (hdS l S).length = l.length := by unfold hdS; rw [minB_len, h]
theorem hdS_at {l : List Cm} (hl : ParOk l) {S : List Bool} (hS : S.length = l.length) {i : Nat} (hi : i < l.length) : (hdS l S).getD i false = true ↔ HdP l S i := by
  unfold hdS minB
  rw [tabB_at _ (by omega)]
  unfold minF HdP
  rw [Bool.and_eq_true, Bool.not_eq_true', ← Bool.not_eq_true]
  have key : (ancB l (selI (relB l S))).getD i false = true ↔ ∃ j, j < l.length ∧ j ≠ i ∧ S.getD j false = true ∧ Rch l j i := by
    unfold ancB
    rw [setB_at hi]
    unfold Anc
    constructor
    · rintro ⟨n, hn, hr⟩
      obtain ⟨c, h1, h2, rfl⟩ := selI_mem.1 hn
      obtain ⟨j, j1, j2, p, p1, p2⟩ := (rlS_at hl l.length (Nat.le_refl _) c).1 h2
      rw [parO_of j1] at p1
      have hpj := hl j j1 p p1
      have hci : Rch l c i := by simpa using hr
      have := hci.le hl
      exact ⟨j, j1, by omega, j2, .step j1 p1 (p2 ▸ hci)⟩
    · rintro ⟨j, j1, hne, j2, hr⟩
      rcases Rch.iff.1 hr with h | ⟨_, p, hp, h⟩
      · exact absurd h.symm hne
      · have hpj := hl j j1 p hp
        refine ⟨(p.toNat : Int), selI_mem.2 ⟨p.toNat, by show p.toNat < (rlS l S _).length; rw [rlS_len]; omega, (rlS_at hl l.length (Nat.le_refl _) _).2 ⟨j, j1, j2, p, by rw [parO_of j1]; exact hp, rfl⟩, rfl⟩, by rw [Int.toNat_natCast]; exact h⟩
  rw [key]
/-- above every commit of a set lies one of its heads -/
theorem hd_up {l : List Cm} (hl : ParOk l) {S : List Bool} : ∀ (d j : Nat), l.length - j = d → j < l.length → S.getD j false = true → ∃ h, h < l.length ∧ HdP l S h ∧ Rch l h j := by
  intro d
  induction d using Nat.strongRecOn with
  | ind d ih =>
    intro j hd hj hs
    by_cases h : HdP l S j
    · exact ⟨j, hj, h, .refl _⟩
    · unfold HdP at h
      have h : ∃ j2, j2 < l.length ∧ j2 ≠ j ∧ S.getD j2 false = true ∧ Rch l j2 j := Classical.byContradiction fun q => h ⟨hs, q⟩
      obtain ⟨j2, h1, h2, h3, h4⟩ := h
      have := h4.le hl
      obtain ⟨t, t1, t2, t3⟩ := ih (l.length - j2) (by omega) j2 rfl h1 h3
      exact ⟨t, t1, t2, t3.trans h4⟩
/-- what is covered by the heads from m on -/
noncomputable def covR (l : List Cm) (S : List Bool) (m : Nat) : List Bool := setB l.length fun c => ∃ j, m ≤ j ∧ j < l.length ∧ HdP l S j ∧ Rch l j c
theorem covR_len (l : List Cm) (S : List Bool) (m : Nat) : (covR l S m).length = l.length := setB_len _ _
theorem covR_n (l : List Cm) (S : List Bool) : covR l S l.length = List.replicate l.length false := by
  symm
  apply setB_eq List.length_replicate
  intro i hi
  rw [List.getD_eq_getElem?_getD, List.getElem?_replicate, if_pos hi]
  simp only [Option.getD_some, Bool.false_eq_true, false_iff]
  rintro ⟨j, h1, h2, _⟩
  omega
theorem hd_cov {l : List Cm} (hl : ParOk l) {S : List Bool} {i : Nat} (hi : i < l.length) : HdP l S i ↔ S.getD i false = true ∧ ¬ (covR l S (i + 1)).getD i false = true := by
  unfold covR
  rw [setB_at hi]
  constructor
  · intro h
    refine ⟨h.1, ?_⟩
    rintro ⟨j, h1, h2, h3, h4⟩
    exact h.2 ⟨j, h2, by omega, h3.1, h4⟩
  · rintro ⟨h1, h2⟩
    refine ⟨h1, ?_⟩
    rintro ⟨j, j1, j2, j3, j4⟩
    obtain ⟨t, t1, t2, t3⟩ := hd_up hl _ j rfl j1 j3
    have := j4.le hl
    have := t3.le hl
    exact h2 ⟨t, by omega, t1, t2, t3.trans j4⟩
theorem covR_no {l : List Cm} {S : List Bool} {i : Nat} (h : ¬ HdP l S i) : covR l S i = covR l S (i + 1) := by
  apply setB_congr
  intro c _
  constructor
  · rintro ⟨j, h1, h2, h3, h4⟩
    exact ⟨j, by rcases Nat.lt_or_ge i j with q | q; exact q; exact absurd (show HdP l S i by rw [show i = j by omega]; exact h3) h, h2, h3, h4⟩
  · rintro ⟨j, h1, h2⟩; exact ⟨j, by omega, h2⟩
theorem covR_yes {l : List Cm} {S : List Bool} {i : Nat} (hi : i < l.length) (h : HdP l S i) : covR l S i = tabB (uniF (covR l S (i + 1)) (ancB l [(i : Int)])) l.length := by
  symm
  apply setB_eq (tabB_len _ _)
  intro c hc
  rw [tabB_at _ hc]
  unfold uniF
  rw [Bool.or_eq_true]
  have e1 : (covR l S (i + 1)).getD c false = true ↔ ∃ j, i + 1 ≤ j ∧ j < l.length ∧ HdP l S j ∧ Rch l j c := setB_at hc
  have e2 : (ancB l [(i : Int)]).getD c false = true ↔ Rch l i c := rowR_at hc
  rw [e1, e2]
  constructor
  · rintro (⟨j, h1, h2⟩ | h2)
    · exact ⟨j, by omega, h2⟩
    · exact ⟨i, Nat.le_refl _, hi, h, h2⟩
  · rintro ⟨j, h1, h2, h3, h4⟩
    rcases Nat.lt_or_ge i j with q | q
    · exact .inl ⟨j, q, h2, h3, h4⟩
    · obtain rfl : j = i := by omega
      exact .inr h4

/-! ### numbers from the top down -/
def selT (f : Nat → Bool) (n : Nat) : Nat → List Int
  | 0 => []
  | d + 1 => if f (n - 1 - d) then ((n - 1 - d : Nat) : Int) :: selT f n d else selT f n d
theorem selT_len (f : Nat → Bool) (n : Nat) : ∀ d, (selT f n d).length ≤ d
  | 0 => Nat.le_refl 0
  | d + 1 => by
    have := selT_len f n d
    unfold selT
    split
    · rw [List.length_cons]; omega
    · omega
theorem selT_app (f : Nat → Bool) (n : Nat) : ∀ d, d ≤ n → selK f (n - d) ++ selT f n d = selK f n
  | 0, _ => by unfold selT; rw [List.append_nil]; rfl
  | d + 1, h => by
    rw [← selT_app f n d (by omega)]
    obtain ⟨m, hm⟩ : ∃ m, n - d = m + 1 := ⟨n - d - 1, by omega⟩
    rw [hm, show n - (d + 1) = m by omega]
    have e1 : selT f n (d + 1) = if f (n - 1 - d) then ((n - 1 - d : Nat) : Int) :: selT f n d else selT f n d := rfl
    have e2 : selK f (m + 1) = if f m then selK f m ++ [(m : Int)] else selK f m := rfl
    rw [e1, e2, show n - 1 - d = m by omega]
    split
    · rw [List.append_assoc]; rfl
    · rfl
def upK (f : Nat → Bool) (n m : Nat) : List Int := selT f n (n - m)
theorem upK_n (f : Nat → Bool) (n : Nat) : upK f n n = [] := by unfold upK; rw [Nat.sub_self]; rfl
theorem upK_0 (f : Nat → Bool) (n : Nat) : upK f n 0 = selK f n := by
  have := selT_app f n n (Nat.le_refl n)
  rw [Nat.sub_self] at this
  exact this
theorem upK_len (f : Nat → Bool) (n m : Nat) : (upK f n m).length ≤ n - m := selT_len _ _ _
theorem upK_step (f : Nat → Bool) {n k : Nat} (h : k < n) : upK f n k = if f k then (k : Int) :: upK f n (k + 1) else upK f n (k + 1) := by
  unfold upK
  obtain ⟨d, hd⟩ : ∃ d, n - k = d + 1 := ⟨n - k - 1, by omega⟩
  rw [hd, show n - (k + 1) = d by omega]
  have e1 : selT f n (d + 1) = if f (n - 1 - d) then ((n - 1 - d : Nat) : Int) :: selT f n d else selT f n d := rfl
  rw [e1, show n - 1 - d = k by omega]

noncomputable def hdF (l : List Cm) (ns : List Int) (i : Nat) : Bool := (hdS l (comS l ns)).getD i false
noncomputable def bestP (l : List Cm) (ns : List Int) : List Int := selK (hdF l ns) l.length
theorem hdF_iff {l : List Cm} (hl : ParOk l) {ns : List Int} {i : Nat} (hi : i < l.length) : hdF l ns i = true ↔ ¬ cntA l ns i < ns.length ∧ ¬ (covR l (comS l ns) (i + 1)).getD i false = true := by
  unfold hdF
  rw [hdS_at hl (comS_len _ _) hi, hd_cov hl hi, cntA_all hi]

/-! ### the law -/
def basF (l : List Cm) (a b : Int) : Int × Int :=
  if hC l ≠ 0 then (hC l, hI l) else if ¬ (0 ≤ a ∧ a < l.length) then (6, 0) else if ¬ (0 ≤ b ∧ b < l.length) then (6, 1) else (0, 0)
theorem basF_ok {l : List Cm} {a b : Int} (h : (basF l a b).1 = 0) : hC l = 0 ∧ (0 ≤ a ∧ a < l.length) ∧ (0 ≤ b ∧ b < l.length) ∧ basF l a b = (0, 0) := by
  unfold basF at h ⊢
  split at h
  · rename_i q; exact absurd h q
  split at h
  · exact absurd h (by decide)
  split at h
  · exact absurd h (by decide)
  rename_i h1 h2 h3
  refine ⟨Classical.not_not.1 h1, Classical.not_not.1 h2, Classical.not_not.1 h3, ?_⟩
  rw [if_neg h1, if_neg h2, if_neg h3]
def basQ (a b : Int) : Qx := .un 12 (.bi 15 (.un 8 (comK [a])) (.un 8 (comK [b])))
theorem basQ_size (a b : Int) : (basQ a b).size = 10 := by
  show ((comK [a]).size + 1) + ((comK [b]).size + 1) + 1 + 1 = _
  rw [comK_size, comK_size]
  rfl
theorem basQ_good {l : List Cm} {a b : Int} (hl : l.length ≤ 60) (ha : 0 ≤ a ∧ a < l.length) (hb : 0 ≤ b ∧ b < l.length) : (basQ a b).good :=
  ⟨.inr rfl, .inr (.inl rfl), ⟨.inl rfl, comK_good fun n hn => by rw [List.mem_singleton] at hn; rw [hn]; omega⟩, .inl rfl, comK_good fun n hn => by rw [List.mem_singleton] at hn; rw [hn]; omega⟩
theorem basQ_ev {l : List Cm} {a b : Int} (ha : 0 ≤ a ∧ a < l.length) (hb : 0 ≤ b ∧ b < l.length) : selI ((basQ a b).ev l) = bestP l [a, b] := by
  show selI (unB l 12 (biB 15 (unB l 8 ((comK [a]).ev l)) (unB l 8 ((comK [b]).ev l)))) = _
  have e1 : unB l 8 ((comK [a]).ev l) = ancB l [a] := (if_pos rfl).trans (ancS_com fun n hn => by rw [List.mem_singleton] at hn; rw [hn]; exact ha)
  have e2 : unB l 8 ((comK [b]).ev l) = ancB l [b] := (if_pos rfl).trans (ancS_com fun n hn => by rw [List.mem_singleton] at hn; rw [hn]; exact hb)
  have e3 : biB 15 (ancB l [a]) (ancB l [b]) = comS l [a, b] := by
    unfold biB comS
    rw [ancB_len]
    apply tabB_congr
    intro i _
    show ((ancB l [a]).getD i false && (ancB l [b]).getD i false) = ([a, b].all fun n => (ancB l [n]).getD i false)
    simp only [List.all_cons, List.all_nil, Bool.and_true]
  have e4 : ∀ S, unB l 12 S = hdS l S := fun S => if_neg (by decide)
  rw [e1, e2, e3, e4]
  unfold selI bestP hdF
  rw [hdS_len (comS_len _ _)]
end Go.Proofs.Ytgdlbpihkodeoaa
