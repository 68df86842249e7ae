/- Three-way merges as plain data. No program in sight. -/
import Derived.Test.YtppmhjaooiameaaCommPure
import Derived.Test.YtppmhjaooiameaaDiffPure
import Derived.Test.YtppmhjaooiameaaColPure
namespace Go.Proofs.Ytppmhjaooiameaa
open Go.RowKit

abbrev Ch : Type := Bool × List ByteArray × List ByteArray × List ByteArray × List ByteArray
/-! ### regions -/
abbrev Pr2 : Type := Int × Int
def prj (r : Rg) : Pr2 := (r.1, r.2.1)
def tchP (a b : Pr2) : Bool := decide (b.1 ≤ a.2) && decide (a.1 ≤ b.2)
theorem tchP_prj (a b : Rg) : tchP (prj a) (prj b) = touch a b := rfl
def mrgC : Rg → List Rg → List Rg
  | c, [] => [c]
  | c, r :: l => if touch c r = true then mrgC (c.1, max c.2.1 r.2.1, c.2.2) l else c :: mrgC r l
def mrgR : List Rg → List Rg
  | [] => []
  | r :: l => mrgC r l
def mrgPC : Pr2 → List Pr2 → List Pr2
  | c, [] => [c]
  | c, r :: l => if tchP c r = true then mrgPC (c.1, max c.2 r.2) l else c :: mrgPC r l
def mrgP : List Pr2 → List Pr2
  | [] => []
  | r :: l => mrgPC r l
theorem mrgC_prj : ∀ (l : List Rg) (c : Rg), (mrgC c l).map prj = mrgPC (prj c) (l.map prj)
  | [], c => rfl
  | r :: l, c => by
    show (if touch c r = true then mrgC (c.1, max c.2.1 r.2.1, c.2.2) l else c :: mrgC r l).map prj = if tchP (prj c) (prj r) = true then mrgPC ((prj c).1, max (prj c).2 (prj r).2) (l.map prj) else prj c :: mrgPC (prj r) (l.map prj)
    rw [tchP_prj]
    split
    · exact mrgC_prj l _
    · rw [List.map_cons, mrgC_prj l r]
theorem mrgR_prj (l : List Rg) : (mrgR l).map prj = mrgP (l.map prj) := by
  cases l with
  | nil => rfl
  | cons r l => exact mrgC_prj l r
/-- the order of pairs -/
def leP (a b : Pr2) : Prop := a.1 < b.1 ∨ (a.1 = b.1 ∧ a.2 ≤ b.2)
instance (a b : Pr2) : Decidable (leP a b) := by unfold leP; infer_instance
def insP (x : Pr2) : List Pr2 → List Pr2
  | [] => [x]
  | y :: l => if leP x y then x :: y :: l else y :: insP x l
def srtP : List Pr2 → List Pr2
  | [] => []
  | x :: l => insP x (srtP l)
theorem insP_perm (x : Pr2) : ∀ l, (insP x l).Perm (x :: l)
  | [] => .refl _
  | y :: l => by
    unfold insP
    split
    · exact .refl _
    · exact ((insP_perm x l).cons y).trans (.swap x y l)
theorem srtP_perm : ∀ l, (srtP l).Perm l
  | [] => .refl _
  | x :: l => (insP_perm x (srtP l)).trans ((srtP_perm l).cons x)
theorem leP_total (a b : Pr2) : leP a b ∨ leP b a := by unfold leP; omega
theorem leP_trans {a b c : Pr2} (h : leP a b) (g : leP b c) : leP a c := by unfold leP at *; omega
theorem leP_anti {a b : Pr2} (h : leP a b) (g : leP b a) : a = b := by
  unfold leP at h g
  exact Prod.ext (by omega) (by omega)
def SrtP (l : List Pr2) : Prop := l.Pairwise leP
theorem insP_srt (x : Pr2) : ∀ l, SrtP l → SrtP (insP x l)
  | [], _ => List.pairwise_singleton _ _
  | y :: l, h => by
    unfold insP
    split
    · rename_i hxy
      refine List.Pairwise.cons (fun z hz => ?_) h
      rcases List.mem_cons.1 hz with rfl | hz
      · exact hxy
      · exact leP_trans hxy ((List.pairwise_cons.1 h).1 z hz)
    · rename_i hxy
      refine List.Pairwise.cons (fun z hz => ?_) (insP_srt x l (List.pairwise_cons.1 h).2)
      rcases List.mem_cons.1 ((insP_perm x l).mem_iff.1 hz) with rfl | hz
      · exact (leP_total z y).resolve_left hxy
      · exact (List.pairwise_cons.1 h).1 z hz
theorem srtP_srt : ∀ l, SrtP (srtP l)
  | [] => List.Pairwise.nil
  | x :: l => insP_srt x _ (srtP_srt l)
theorem srt_uniq : ∀ {l m : List Pr2}, l.Perm m → SrtP l → SrtP m → l = m
  | [], m, h, _, _ => (List.nil_perm.1 h).symm
  | x :: l, [], h, _, _ => absurd (List.perm_nil.1 h) (by simp)
  | x :: l, y :: m, h, hl, hm => by
    have e : x = y := by
      have h1 : x ∈ y :: m := h.mem_iff.1 List.mem_cons_self
      have h2 : y ∈ x :: l := h.mem_iff.2 List.mem_cons_self
      rcases List.mem_cons.1 h1 with e | h1
      · exact e
      · rcases List.mem_cons.1 h2 with e | h2
        · exact e.symm
        · exact leP_anti ((List.pairwise_cons.1 hl).1 y h2) ((List.pairwise_cons.1 hm).1 x h1)
    subst e
    rw [srt_uniq ((List.perm_cons x).1 h) (List.pairwise_cons.1 hl).2 (List.pairwise_cons.1 hm).2]
theorem srtP_eq {l m : List Pr2} (h : l.Perm m) (hl : SrtP l) : l = srtP m := srt_uniq (h.trans (srtP_perm m).symm) hl (srtP_srt m)
/-- the regions of two patches -/
def rgP (p q : List Hk) : List Pr2 := mrgP (srtP ((oldR p ++ oldR q).map prj))

/-! ### chunks -/
abbrev MSt : Type := List Ch × Option (List ByteArray)
def plCh (l : List ByteArray) : Ch := (false, l, [], [], [])
def flushM (s : MSt) : List Ch := match s.2 with
  | none => s.1
  | some l => s.1 ++ [plCh l]
def plF (s : MSt) (l : List ByteArray) : MSt := if l.length = 0 then s else match s.2 with
  | none => (s.1, some l)
  | some m => (s.1, some (m ++ l))
def cfF (s : MSt) (b l r : List ByteArray) : MSt := (flushM s ++ [(true, [], b, l, r)], none)
def inR (p : List Hk) (lo hi : Int) : List Hk := p.filter fun h => decide (lo ≤ h.1) && decide (hkEnd h ≤ hi)
def mgS (base : List ByteArray) (p q : List Hk) (lo hi : Int) (s : MSt) : MSt :=
  if (inR q lo hi).length = 0 ∨ raw base hi lo (inR p lo hi) = raw base hi lo (inR q lo hi) then plF s (raw base hi lo (inR p lo hi))
  else if (inR p lo hi).length = 0 then plF s (raw base hi lo (inR q lo hi))
  else cfF s ((base.take hi.toNat).drop lo.toNat) (raw base hi lo (inR p lo hi)) (raw base hi lo (inR q lo hi))
def mgN (base : List ByteArray) (p q : List Hk) : List Pr2 → Int → MSt → MSt
  | [], at', s => plF s (base.drop at'.toNat)
  | r :: l, at', s => mgN base p q l r.2 (mgS base p q r.1 r.2 (plF s ((base.take r.1.toNat).drop at'.toNat)))
def mgL (base : List ByteArray) (p q : List Hk) : List Ch := flushM (mgN base p q (rgP p q) 0 ([], none))
def mgC (b l r : List ByteArray) : Int := if bC b l ≠ 0 then bC b l else vC r
def mgI (b l r : List ByteArray) : Int := if bC b l ≠ 0 then bI b l else if vC r = 0 then 0 else -3
def mgV (b l r : List ByteArray) : List Ch := if mgC b l r = 0 then mgL b (script b l) (script b r) else []

/-! ### what the walk needs of regions -/
/-- regions in order, from at' on, within n lines -/
def rgnOk (n : Int) : Int → List Pr2 → Prop
  | at', [] => 0 ≤ at' ∧ at' ≤ n
  | at', r :: l => 0 ≤ at' ∧ at' ≤ r.1 ∧ r.1 ≤ r.2 ∧ r.2 ≤ n ∧ rgnOk n r.2 l
theorem mrgPC_ok {n : Int} : ∀ (l : List Pr2) (c : Pr2) (a : Int), 0 ≤ a → a ≤ c.1 → c.1 ≤ c.2 → c.2 ≤ n → (∀ r ∈ l, c.1 ≤ r.1 ∧ r.1 ≤ r.2 ∧ r.2 ≤ n) → SrtP l → rgnOk n a (mrgPC c l)
  | [], c, a, h0, h1, h2, h3, _, _ => ⟨h0, h1, h2, h3, by show 0 ≤ c.2; omega, h3⟩
  | r :: l, c, a, h0, h1, h2, h3, h4, h5 => by
    have hr := h4 r List.mem_cons_self
    have hl := List.pairwise_cons.1 h5
    have hg : ∀ s ∈ l, r.1 ≤ s.1 := fun s hs => by have := hl.1 s hs; unfold leP at this; omega
    unfold mrgPC
    split
    · refine mrgPC_ok l (c.1, max c.2 r.2) a h0 h1 ?_ ?_ (fun s hs => h4 s (List.mem_cons_of_mem _ hs)) hl.2
      · show c.1 ≤ max c.2 r.2; omega
      · show max c.2 r.2 ≤ n; omega
    · rename_i ht
      have ht : c.2 < r.1 := by
        unfold tchP at ht
        simp only [Bool.and_eq_true, decide_eq_true_eq, not_and] at ht
        omega
      exact ⟨h0, h1, h2, h3, mrgPC_ok l r c.2 (by omega) (by omega) hr.2.1 hr.2.2 (fun s hs => ⟨hg s hs, (h4 s (List.mem_cons_of_mem _ hs)).2⟩) hl.2⟩
theorem rgP_ok {n : Int} (hn : 0 ≤ n) {p q : List Hk} (hp : ∀ h ∈ p, 0 ≤ h.1 ∧ hkEnd h ≤ n) (hq : ∀ h ∈ q, 0 ≤ h.1 ∧ hkEnd h ≤ n) : rgnOk n 0 (rgP p q) := by
  unfold rgP mrgP
  have hall : ∀ r ∈ srtP ((oldR p ++ oldR q).map prj), 0 ≤ r.1 ∧ r.1 ≤ r.2 ∧ r.2 ≤ n := by
    intro r hr
    obtain ⟨s, hs, rfl⟩ := List.mem_map.1 ((srtP_perm _).mem_iff.1 hr)
    rcases List.mem_append.1 hs with hs | hs
    · obtain ⟨h, hh, rfl⟩ := List.mem_map.1 hs
      exact ⟨(hp h hh).1, by show h.1 ≤ hkEnd h; unfold hkEnd; omega, (hp h hh).2⟩
    · obtain ⟨h, hh, rfl⟩ := List.mem_map.1 hs
      exact ⟨(hq h hh).1, by show h.1 ≤ hkEnd h; unfold hkEnd; omega, (hq h hh).2⟩
  have hs := srtP_srt ((oldR p ++ oldR q).map prj)
  generalize srtP ((oldR p ++ oldR q).map prj) = l at hall hs
  cases l with
  | nil => exact ⟨Int.le_refl _, hn⟩
  | cons r l =>
    have h0 := hall r List.mem_cons_self
    refine mrgPC_ok l r 0 (Int.le_refl _) h0.1 h0.2.1 h0.2.2 (fun s hs' => ⟨?_, (hall s (List.mem_cons_of_mem _ hs')).2⟩) (List.pairwise_cons.1 hs).2
    have := (List.pairwise_cons.1 hs).1 s hs'
    unfold leP at this; omega
theorem mrgPC_len : ∀ (l : List Pr2) (c : Pr2), (mrgPC c l).length ≤ l.length + 1
  | [], c => Nat.le_refl _
  | r :: l, c => by
    unfold mrgPC
    split
    · have := mrgPC_len l (c.1, max c.2 r.2); rw [List.length_cons]; omega
    · have := mrgPC_len l r; rw [List.length_cons, List.length_cons]; omega
theorem inR_raw {t : List ByteArray} {hi : Int} (hhi : hi ≤ t.length) : ∀ (p : List Hk) (e lo : Int), phC e p = 0 → 0 ≤ lo → lo ≤ hi → rawOk t hi lo (inR p lo hi) := by
  have gen : ∀ (p : List Hk) (e lo cut : Int), phC e p = 0 → 0 ≤ cut → cut ≤ hi → (cut ≤ e ∨ cut ≤ lo) → rawOk t hi cut (p.filter fun h => decide (lo ≤ h.1) && decide (hkEnd h ≤ hi)) := by
    intro p
    induction p with
    | nil => exact fun e lo cut _ h0 h1 _ => ⟨h0, h1, hhi⟩
    | cons h p ih =>
      intro e lo cut hp h0 h1 h2
      unfold phC at hp
      by_cases hc : hkC h e = 0
      · rw [if_pos hc] at hp
        obtain ⟨k1, k2, k3, k4, k5, k6, k7⟩ := hkC_good.1 hc
        have l1 := vC_len _ k3
        have l2 := vC_len _ k4
        rw [List.filter_cons]
        split
        · rename_i hb
          simp only [Bool.and_eq_true, decide_eq_true_eq] at hb
          have hb2 := hb.2
          unfold hkEnd at hb2
          refine ⟨h0, by omega, by omega, l1, l2, ih (hkEnd h) lo (hkEnd h) hp (by unfold hkEnd; omega) hb.2 (.inl (Int.le_refl _))⟩
        · refine ih (hkEnd h) lo cut hp h0 h1 ?_
          rcases h2 with h2 | h2
          · exact .inl (by unfold hkEnd; omega)
          · exact .inr h2
      · rw [if_neg hc] at hp
        exact absurd hp hc
  exact fun p e lo hp h0 h1 => gen p e lo lo hp h0 h1 (.inr (Int.le_refl _))
end Go.Proofs.Ytppmhjaooiameaa
