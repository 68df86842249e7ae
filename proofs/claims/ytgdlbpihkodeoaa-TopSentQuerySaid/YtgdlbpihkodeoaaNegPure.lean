/- Negotiations as plain data: the check, the rounds, what is sent; the query for it. -/
import Derived.Test.YtgdlbpihkodeoaaOrdPure
namespace Go.Proofs.Ytgdlbpihkodeoaa
open Go.RowKit

/-! ### gaps -/
def gapN (s : List Bool) (ps : List Int) : Bool := ps.any fun p => !s.getD p.toNat false
def idxI (s : List Bool) : Int → List Int → Int
  | _, [] => -1
  | k, p :: r => if s.getD p.toNat false = false then k else idxI s (k + 1) r
theorem idxI_step {s : List Bool} {l : List Int} {k : Nat} (h : k < l.length) : idxI s k (l.drop k) = if s.getD l[k].toNat false = false then (k : Int) else idxI s (k + 1) (l.drop (k + 1)) := by
  rw [List.drop_eq_getElem_cons h]; rfl
theorem idxI_any {s : List Bool} : ∀ {l : List Int} {k : Int}, 0 ≤ k → (0 ≤ idxI s k l ↔ gapN s l = true)
  | [], k, _ => ⟨fun h => absurd h (by show ¬ (0 : Int) ≤ -1; decide), fun h => by cases h⟩
  | p :: r, k, hk => by
    unfold idxI gapN
    rw [List.any_cons]
    by_cases h : s.getD p.toNat false = false
    · rw [if_pos h, h]; simp [hk]
    · rw [if_neg h, idxI_any (by omega)]
      have : s.getD p.toNat false = true := by simpa using h
      rw [this]
      simp [gapN]
def gapI (s : List Bool) : Nat → List Cm → Int
  | _, [] => -1
  | k, c :: r => if s.getD k false = true ∧ gapN s c.1 = true then (k : Int) else gapI s (k + 1) r
def gapP (l : List Cm) (s : List Bool) : Int := gapI s 0 l
theorem gapI_step {s : List Bool} {l : List Cm} {k : Nat} (h : k < l.length) : gapI s k (l.drop k) = if s.getD k false = true ∧ gapN s l[k].1 = true then (k : Int) else gapI s (k + 1) (l.drop (k + 1)) := by
  rw [List.drop_eq_getElem_cons h]; rfl
theorem gapI_bd {s : List Bool} : ∀ {l : List Cm} {k : Nat}, gapI s k l = -1 ∨ ((k : Int) ≤ gapI s k l ∧ gapI s k l < k + l.length)
  | [], _ => .inl rfl
  | c :: r, k => by
    unfold gapI
    rw [List.length_cons]
    split
    · exact .inr (by omega)
    · rcases gapI_bd (s := s) (l := r) (k := k + 1) with h | h
      · exact .inl h
      · exact .inr (by omega)
def ClosedP (l : List Cm) (s : List Bool) : Prop := ∀ j (h : j < l.length), s.getD j false = true → ∀ p ∈ l[j].1, s.getD p.toNat false = true
theorem gapN_not {s : List Bool} {ps : List Int} : ¬ gapN s ps = true ↔ ∀ p ∈ ps, s.getD p.toNat false = true := by
  unfold gapN
  rw [List.any_eq_true]
  constructor
  · intro h p hp
    cases e : s.getD p.toNat false with
    | true => rfl
    | false => exact absurd ⟨p, hp, by rw [e]; rfl⟩ h
  · rintro h ⟨p, hp, e⟩
    rw [h p hp] at e; cases e
theorem gapI_neg {s : List Bool} : ∀ {l : List Cm} {k : Nat}, gapI s k l < 0 ↔ ∀ j (h : j < l.length), s.getD (k + j) false = true → ∀ p ∈ l[j].1, s.getD p.toNat false = true
  | [], k => ⟨fun _ j h => absurd h (Nat.not_lt_zero j), fun _ => by show (-1 : Int) < 0; decide⟩
  | c :: r, k => by
    unfold gapI
    split
    · rename_i h
      constructor
      · intro q; omega
      · intro q; exact absurd (q 0 (by simp) h.1) (fun z => absurd h.2 (gapN_not.2 z))
    · rename_i h
      rw [gapI_neg]
      constructor
      · intro q j hj hs
        cases j with
        | zero =>
          have : ¬ gapN s c.1 = true := fun z => h ⟨hs, z⟩
          exact gapN_not.1 this
        | succ j => exact q j (by simpa using hj) (by rw [show k + 1 + j = k + (j + 1) by omega]; exact hs)
      · intro q j hj hs
        exact q (j + 1) (by simpa using hj) (by rw [show k + (j + 1) = k + 1 + j by omega]; exact hs)
theorem gapP_neg {l : List Cm} {s : List Bool} : gapP l s < 0 ↔ ClosedP l s := by
  unfold gapP ClosedP
  rw [gapI_neg]
  simp only [Nat.zero_add]
theorem ClosedP.up {l : List Cm} {s : List Bool} (h : ClosedP l s) {a b : Nat} (hr : Rch l a b) : s.getD a false = true → s.getD b false = true := by
  induction hr with
  | refl => exact id
  | step hj hp _ ih => exact fun hs => ih (h _ hj hs _ hp)

/-! ### the check -/
def owI (n : Int) (s : List Bool) : Int → List Int → Int
  | _, [] => -1
  | k, g :: r => if (0 ≤ g ∧ g < n) ∧ s.getD g.toNat false = true then owI n s (k + 1) r else k
theorem owI_step {n : Int} {s : List Bool} {l : List Int} {k : Nat} (h : k < l.length) : owI n s k (l.drop k) = if (0 ≤ l[k] ∧ l[k] < n) ∧ s.getD l[k].toNat false = true then owI n s (k + 1) (l.drop (k + 1)) else k := by
  rw [List.drop_eq_getElem_cons h]; rfl
theorem owI_neg {n : Int} {s : List Bool} : ∀ {l : List Int} {k : Int}, 0 ≤ k → (owI n s k l < 0 ↔ ∀ g ∈ l, (0 ≤ g ∧ g < n) ∧ s.getD g.toNat false = true)
  | [], k, _ => ⟨fun _ g hg => (by cases hg), fun _ => (by show (-1 : Int) < 0; decide)⟩
  | g :: r, k, hk => by
    unfold owI
    split
    · rename_i h
      rw [owI_neg (by omega)]
      constructor
      · intro q x hx
        rcases List.mem_cons.1 hx with rfl | hx
        · exact h
        · exact q x hx
      · exact fun q x hx => q x (by simp [hx])
    · rename_i h
      constructor
      · intro q; omega
      · intro q; exact absurd (q g (by simp)) h
def ngF (l : List Cm) (s r : List Bool) (w : List Int) : Int × Int :=
  if hC l ≠ 0 then (hC l, hI l) else if s.length ≠ l.length then (9, -1) else if r.length ≠ l.length then (9, -2) else
  if 0 ≤ gapP l s then (5, gapP l s) else if 0 ≤ gapP l r then (5, -3 - gapP l r) else if 60 < w.length then (2, -1) else
  if 0 ≤ owI l.length s 0 w then (6, owI l.length s 0 w) else (0, 0)
structure ngOk (l : List Cm) (s r : List Bool) (w : List Int) : Prop where
  hc : hC l = 0
  ls : s.length = l.length
  lr : r.length = l.length
  cs : ClosedP l s
  cr : ClosedP l r
  len : w.length ≤ 60
  hw : ∀ g ∈ w, (0 ≤ g ∧ g < l.length) ∧ s.getD g.toNat false = true
theorem ngF_ok {l : List Cm} {s r : List Bool} {w : List Int} (h : (ngF l s r w).1 = 0) : ngOk l s r w ∧ ngF l s r w = (0, 0) := by
  unfold ngF at h ⊢
  split at h
  · rename_i q; exact absurd h q
  split at h
  · exact absurd h (by decide)
  split at h
  · exact absurd h (by decide)
  split at h
  · exact absurd h (show ¬ (5 : Int) = 0 by decide)
  split at h
  · exact absurd h (show ¬ (5 : Int) = 0 by decide)
  split at h
  · exact absurd h (by decide)
  split at h
  · exact absurd h (show ¬ (6 : Int) = 0 by decide)
  rename_i h1 h2 h3 h4 h5 h6 h7
  refine ⟨⟨Classical.not_not.1 h1, Classical.not_not.1 h2, Classical.not_not.1 h3, gapP_neg.1 (by omega), gapP_neg.1 (by omega), by omega, (owI_neg (Int.le_refl 0)).1 (by omega)⟩, ?_⟩
  rw [if_neg h1, if_neg h2, if_neg h3, if_neg h4, if_neg h5, if_neg h6, if_neg h7]

/-! ### rounds -/
def addR (m : Int) (P : Int → Bool) (a : List Int) (n : Int) : List Int := if (a.length : Int) < m ∧ P n = true then a ++ [n] else a
def rdR (m : Int) (P : Int → Bool) (ns : List Int) : List Int := ns.foldl (addR m P) []
theorem rdR_take {m : Int} {P : Int → Bool} {ns : List Int} {q : Nat} (hq : q < ns.length) : rdR m P (ns.take (q + 1)) = addR m P (rdR m P (ns.take q)) ns[q] := by
  unfold rdR
  rw [List.take_add_one, List.getElem?_eq_getElem hq, Option.toList_some, List.foldl_append]
  rfl
theorem addR_len (m : Int) (P : Int → Bool) (a : List Int) (n : Int) : (addR m P a n).length ≤ a.length + 1 := by
  unfold addR
  split
  · rw [List.length_append]; exact Nat.le_refl _
  · omega
theorem foldR_len (m : Int) (P : Int → Bool) : ∀ (ns a : List Int), (ns.foldl (addR m P) a).length ≤ a.length + ns.length
  | [], a => Nat.le_refl _
  | n :: ns, a => by
    have h1 := foldR_len m P ns (addR m P a n)
    have h2 := addR_len m P a n
    rw [List.foldl_cons, List.length_cons]
    omega
theorem rdR_len (m : Int) (P : Int → Bool) (ns : List Int) : (rdR m P ns).length ≤ ns.length := by
  have := foldR_len m P ns []
  unfold rdR
  simpa using this
theorem foldR_mem {m : Int} {P : Int → Bool} : ∀ {ns a : List Int} {x : Int}, x ∈ ns.foldl (addR m P) a → x ∈ a ∨ (x ∈ ns ∧ P x = true)
  | [], a, x, h => .inl h
  | n :: ns, a, x, h => by
    rcases foldR_mem (ns := ns) h with h | ⟨h1, h2⟩
    · unfold addR at h
      split at h
      · rename_i q
        rcases List.mem_append.1 h with h | h
        · exact .inl h
        · rw [List.mem_singleton] at h
          rw [h]
          exact .inr ⟨by simp, q.2⟩
      · exact .inl h
    · exact .inr ⟨by simp [h1], h2⟩
theorem rdR_mem {m : Int} {P : Int → Bool} {ns : List Int} {x : Int} (h : x ∈ rdR m P ns) : x ∈ ns ∧ P x = true := by
  rcases foldR_mem h with h | h
  · cases h
  · exact h
theorem foldR_nil {m : Int} (hm : 1 ≤ m) {P : Int → Bool} : ∀ {ns a : List Int}, ns.foldl (addR m P) a = [] → a = [] ∧ ∀ n ∈ ns, P n = false
  | [], a, h => ⟨h, fun n hn => by cases hn⟩
  | n :: ns, a, h => by
    obtain ⟨h1, h2⟩ := foldR_nil hm (ns := ns) h
    unfold addR at h1
    split at h1
    · simp at h1
    · rename_i q
      subst h1
      refine ⟨rfl, fun x hx => ?_⟩
      rcases List.mem_cons.1 hx with rfl | hx
      · cases e : P x with
        | false => rfl
        | true => exact absurd ⟨by show ((0 : Nat) : Int) < m; omega, e⟩ q
      · exact h2 x hx
theorem rdR_nil {m : Int} (hm : 1 ≤ m) {P : Int → Bool} {ns : List Int} (h : rdR m P ns = []) : ∀ n ∈ ns, P n = false := (foldR_nil hm h).2
def opP (r t c : List Bool) (n : Int) : Bool := r.getD n.toNat false && !t.getD n.toNat false && !c.getD n.toNat false
/-- what both sides have, behind some announcements -/
noncomputable def shO (l : List Cm) (s : List Bool) (c : List Bool) (n : Int) : List Bool := if s.getD n.toNat false = true then tabB (uniF c (ancB l [n])) l.length else c
noncomputable def shS (l : List Cm) (s : List Bool) (ns : List Int) (c : List Bool) : List Bool := ns.foldl (shO l s) c
theorem shS_take {l : List Cm} {s c : List Bool} {ns : List Int} {q : Nat} (hq : q < ns.length) : shS l s (ns.take (q + 1)) c = shO l s (shS l s (ns.take q) c) ns[q] := by
  unfold shS
  rw [List.take_add_one, List.getElem?_eq_getElem hq, Option.toList_some, List.foldl_append]
  rfl
theorem shO_len {l : List Cm} {s c : List Bool} {n : Int} (h : c.length = l.length) : (shO l s c n).length = l.length := by
  unfold shO
  split
  · exact tabB_len _ _
  · exact h
theorem shS_len {l : List Cm} {s : List Bool} : ∀ {ns : List Int} {c : List Bool}, c.length = l.length → (shS l s ns c).length = l.length
  | [], c, h => h
  | n :: ns, c, h => shS_len (ns := ns) (shO_len h)
theorem shO_at {l : List Cm} {s c : List Bool} {n : Int} {i : Nat} (hi : i < l.length) : (shO l s c n).getD i false = true ↔ c.getD i false = true ∨ (s.getD n.toNat false = true ∧ (ancB l [n]).getD i false = true) := by
  unfold shO
  split
  · rename_i h
    rw [tabB_at _ hi]
    unfold uniF
    rw [Bool.or_eq_true, h]
    simp
  · rename_i h
    constructor
    · exact .inl
    · rintro (q | ⟨q, -⟩)
      · exact q
      · exact absurd q h
theorem shS_at {l : List Cm} {s : List Bool} {i : Nat} (hi : i < l.length) : ∀ {ns : List Int} {c : List Bool}, (shS l s ns c).getD i false = true ↔ c.getD i false = true ∨ ∃ n ∈ ns, s.getD n.toNat false = true ∧ (ancB l [n]).getD i false = true
  | [], c => by simp [shS]
  | n :: ns, c => by
    show (shS l s ns (shO l s c n)).getD i false = true ↔ _
    rw [shS_at hi (ns := ns), shO_at hi]
    simp only [List.mem_cons, exists_eq_or_imp]
    constructor
    · rintro ((h | h) | h)
      · exact .inl h
      · exact .inr (.inl h)
      · exact .inr (.inr h)
    · rintro (h | h | h)
      · exact .inl (.inl h)
      · exact .inl (.inr h)
      · exact .inr h
/-- how many are not told -/
def muT (t : List Bool) : Nat := (t.filter fun b => !b).length
theorem muT_le : ∀ (t : List Bool) (i : Nat), muT (t.set i true) ≤ muT t
  | [], i => Nat.le_refl _
  | b :: t, 0 => by
    unfold muT
    rw [List.set_cons_zero]
    cases b <;> simp
  | b :: t, i + 1 => by
    have := muT_le t i
    unfold muT at this ⊢
    rw [List.set_cons_succ]
    cases b <;> simp <;> omega
theorem muT_lt : ∀ (t : List Bool) (i : Nat), i < t.length → t.getD i false = false → muT (t.set i true) < muT t
  | [], i, h, _ => absurd h (Nat.not_lt_zero i)
  | b :: t, 0, _, h => by
    obtain rfl : b = false := h
    unfold muT
    rw [List.set_cons_zero]
    simp
  | b :: t, i + 1, h, hb => by
    have := muT_lt t i (by simpa using h) (by simpa using hb)
    unfold muT at this ⊢
    rw [List.set_cons_succ]
    cases b <;> simp <;> omega
theorem muT_on : ∀ (ns : List Int) (t : List Bool), muT (onS ns t) ≤ muT t
  | [], t => Nat.le_refl _
  | n :: ns, t => Nat.le_trans (muT_on ns (onO t n)) (muT_le t _)
theorem muT_rep (n : Nat) : muT (List.replicate n false) = n := by
  unfold muT
  rw [List.filter_replicate]
  simp

abbrev Ng : Type := Int × List Bool × List Bool × List (List Int)
def rdN (r : List Bool) (o : List Int) (x : Ng) : List Int := rdR x.1 (opP r x.2.2.1 x.2.1) o
noncomputable def nxN (l : List Cm) (s r : List Bool) (o : List Int) (x : Ng) : Ng := (min (2 * x.1) 16, shS l s (rdN r o x) x.2.1, onS (rdN r o x) x.2.2.1, x.2.2.2 ++ [rdN r o x])
noncomputable def runN (l : List Cm) (s r : List Bool) (o : List Int) : Nat → Ng → Ng
  | 0, x => x
  | f + 1, x => if rdN r o x = [] then x else runN l s r o f (nxN l s r o x)
structure NgJ (l : List Cm) (s r : List Bool) (x : Ng) : Prop where
  most : 1 ≤ x.1 ∧ x.1 ≤ 16
  lc : x.2.1.length = l.length
  lt : x.2.2.1.length = l.length
  cr : ∀ i, i < l.length → x.2.1.getD i false = true → r.getD i false = true
  ts : ∀ i, i < l.length → x.2.2.1.getD i false = true → s.getD i false = true → x.2.1.getD i false = true
  few : x.2.2.2.length + muT x.2.2.1 ≤ l.length
theorem NgJ.init (l : List Cm) (s r : List Bool) : NgJ l s r (1, List.replicate l.length false, List.replicate l.length false, []) := by
  have hz : ∀ i, ¬ (List.replicate l.length false).getD i false = true := fun i h => by
    rw [List.getD_eq_getElem?_getD, List.getElem?_replicate] at h
    split at h <;> cases h
  exact ⟨by show (1 : Int) ≤ 1 ∧ (1 : Int) ≤ 16; decide, List.length_replicate, List.length_replicate, fun i _ h => absurd h (hz i), fun i _ h => absurd h (hz i), by show 0 + muT _ ≤ _; rw [muT_rep]; omega⟩
theorem rdN_mem {r : List Bool} {o : List Int} {x : Ng} {n : Int} (h : n ∈ rdN r o x) : n ∈ o ∧ r.getD n.toNat false = true ∧ x.2.2.1.getD n.toNat false = false ∧ x.2.1.getD n.toNat false = false := by
  obtain ⟨h1, h2⟩ := rdR_mem h
  unfold opP at h2
  simp only [Bool.and_eq_true, Bool.not_eq_true'] at h2
  exact ⟨h1, h2.1.1, h2.1.2, h2.2⟩
theorem NgJ.next {l : List Cm} {s r : List Bool} {o : List Int} (ho : ∀ n ∈ o, 0 ≤ n ∧ n < l.length) (hcr : ClosedP l r) {x : Ng} (h : NgJ l s r x) (hne : rdN r o x ≠ []) : NgJ l s r (nxN l s r o x) ∧ muT (nxN l s r o x).2.2.1 < muT x.2.2.1 := by
  have hmu : muT (onS (rdN r o x) x.2.2.1) < muT x.2.2.1 := by
    cases e : rdN r o x with
    | nil => exact absurd e hne
    | cons n ns =>
      have hn : n ∈ rdN r o x := by rw [e]; simp
      obtain ⟨h1, h2, h3, h4⟩ := rdN_mem hn
      have := ho n h1
      exact Nat.lt_of_le_of_lt (muT_on ns (onO x.2.2.1 n)) (muT_lt _ _ (by rw [h.lt]; omega) h3)
  refine ⟨⟨?_, shS_len h.lc, (onS_len _ _).trans h.lt, ?_, ?_, ?_⟩, hmu⟩
  · have := h.most
    show 1 ≤ min (2 * x.1) 16 ∧ min (2 * x.1) 16 ≤ 16
    omega
  · intro i hi hs
    rcases (shS_at hi).1 hs with q | ⟨n, hn, q1, q2⟩
    · exact h.cr i hi q
    · obtain ⟨h1, h2, h3, h4⟩ := rdN_mem hn
      obtain ⟨m, hm, hr⟩ := (setB_at hi).1 q2
      rw [List.mem_singleton] at hm
      rw [hm] at hr
      exact hcr.up hr h2
  · intro i hi ht hs
    rcases (onS_at (rdN r o x) x.2.2.1 i (fun n hn => by rw [h.lt]; exact ho n (rdN_mem hn).1)).1 ht with ⟨n, hn, rfl⟩ | q
    · exact (shS_at hi).2 (.inr ⟨n, hn, hs, (setB_at hi).2 ⟨n, by simp, .refl _⟩⟩)
    · exact (shS_at hi).2 (.inl (h.ts i hi q hs))
  · have := h.few
    show (x.2.2.2 ++ [rdN r o x]).length + muT (onS (rdN r o x) x.2.2.1) ≤ l.length
    rw [List.length_append, List.length_singleton]
    omega
theorem runN_end {l : List Cm} {s r : List Bool} {o : List Int} (ho : ∀ n ∈ o, 0 ≤ n ∧ n < l.length) (hcr : ClosedP l r) : ∀ (f : Nat) (x : Ng), NgJ l s r x → muT x.2.2.1 ≤ f → NgJ l s r (runN l s r o f x) ∧ rdN r o (runN l s r o f x) = []
  | 0, x, h, hf => by
    refine ⟨h, Classical.byContradiction fun q => ?_⟩
    have := (h.next ho hcr q).2
    omega
  | f + 1, x, h, hf => by
    unfold runN
    split
    · rename_i q; exact ⟨h, q⟩
    · rename_i q
      obtain ⟨h1, h2⟩ := h.next ho hcr q
      exact runN_end ho hcr f _ h1 (by omega)
noncomputable def endN (l : List Cm) (s r : List Bool) : Ng := runN l s r (ordP l) l.length (1, List.replicate l.length false, List.replicate l.length false, [])
noncomputable def sentP (l : List Cm) (c : List Bool) (w : List Int) : List Int := selK (minF (ancB l w) c) l.length
/-- what is sent is what the receiver lacks -/
theorem sent_eq {l : List Cm} {s r : List Bool} {w : List Int} (h : ngOk l s r w) : sentP l (endN l s r).2.1 w = sentP l r w := by
  have hl := parOk_of h.hc
  obtain ⟨hj, hz⟩ := runN_end (s := s) (ordP_rng hl) h.cr l.length (1, List.replicate l.length false, List.replicate l.length false, []) (NgJ.init l s r) (by show muT (List.replicate l.length false) ≤ _; rw [muT_rep]; exact Nat.le_refl _)
  change NgJ l s r (endN l s r) at hj
  change rdN r (ordP l) (endN l s r) = [] at hz
  apply selK_congr
  intro i hi
  unfold minF
  cases ha : (ancB l w).getD i false with
  | false => rfl
  | true =>
    obtain ⟨n, hn, hr⟩ := (setB_at hi).1 ha
    have hs : s.getD i false = true := h.cs.up hr (h.hw n hn).2
    have hop := rdR_nil hj.most.1 hz (i : Int) (ordP_all hl hi)
    unfold opP at hop
    rw [Int.toNat_natCast] at hop
    have h1 := hj.cr i hi
    have h2 := fun q => hj.ts i hi q hs
    rw [Bool.true_and, Bool.true_and]
    congr 1
    generalize (endN l s r).2.1.getD i false = x at *
    generalize (endN l s r).2.2.1.getD i false = y at *
    generalize r.getD i false = z at *
    cases x <;> cases y <;> cases z <;> simp_all

/-! ### the query -/
def haveP (l : List Cm) (r : List Bool) (k : Nat) : List Int := selK (fun i => r.getD i false) k
def sentQ (w h : List Int) : Qx := .bi 16 (.un 8 (comK w)) (comK h)
theorem sentQ_size (w h : List Int) : (sentQ w h).size = 4 + 2 * w.length + 2 * h.length := by
  show ((comK w).size + 1) + (comK h).size + 1 = _
  rw [comK_size, comK_size]
  omega
theorem sentQ_good {l : List Cm} {s r : List Bool} {w : List Int} (h : ngOk l s r w) : (sentQ w (selK (fun i => r.getD i false) l.length)).good := by
  have hl : l.length ≤ 60 := (hC_all.1 h.hc).1
  refine ⟨.inr (.inr rfl), ⟨.inl rfl, comK_good fun n hn => by have := (h.hw n hn).1; omega⟩, comK_good fun n hn => ?_⟩
  obtain ⟨i, h1, h2, h3⟩ := (selK_mem _ _ _).1 hn
  omega
theorem sentQ_ev {l : List Cm} {s r : List Bool} {w : List Int} (h : ngOk l s r w) : selI ((sentQ w (selK (fun i => r.getD i false) l.length)).ev l) = sentP l r w := by
  show selI (biB 16 (unB l 8 ((comK w).ev l)) ((comK _).ev l)) = _
  have e1 : unB l 8 ((comK w).ev l) = ancB l w := (if_pos rfl).trans (ancS_com fun n hn => (h.hw n hn).1)
  rw [e1]
  unfold biB
  rw [selI_tab, ancB_len]
  apply selK_congr
  intro i hi
  show ((ancB l w).getD i false && !((comK _).ev l).getD i false) = ((ancB l w).getD i false && !r.getD i false)
  congr 2
  rw [Bool.eq_iff_iff, comK_ev hi]
  constructor
  · rintro ⟨n, hn, rfl⟩
    obtain ⟨j, h1, h2, h3⟩ := (selK_mem _ _ _).1 hn
    obtain rfl : i = j := by omega
    exact h2
  · intro q
    exact ⟨(i : Int), (selK_mem _ _ _).2 ⟨i, hi, q, rfl⟩, rfl⟩
end Go.Proofs.Ytgdlbpihkodeoaa
