/- Plain: the collector of hunks; the script of two texts leads from one to the other; nothing is shorter. -/
import Derived.Test.YthacjpemeaekdaaApPure
import Derived.Test.YthacjpemeaekdaaHlPure
namespace Go.Proofs.Ythacjpemeaekdaa
open Go.RowKit

/-- the hunk that a step goes on with -/
def cuDel (at' : Int) (cu : Option Hk) (x : ByteArray) : Hk := match cu with
  | some h => (h.1, h.2.1 ++ [x], h.2.2)
  | none => (at', [x], [])
def cuIns (at' : Int) (cu : Option Hk) (x : ByteArray) : Hk := match cu with
  | some h => (h.1, h.2.1, h.2.2 ++ [x])
  | none => (at', [], [x])
/-- what the steps `l` add behind the hunk `cu` that is open; `at'`: lines of the old text so far -/
def col : Int → Option Hk → List (Int × ByteArray) → List Hk
  | _, cu, [] => cu.toList
  | a, cu, s :: l => if s.1 = 0 then cu.toList ++ col (a + 1) none l else if s.1 = 1 then col (a + 1) (some (cuDel a cu s.2)) l else col a (some (cuIns a cu s.2)) l
theorem col_keep {a : Int} {cu : Option Hk} {x : ByteArray} {l : List (Int × ByteArray)} : col a cu ((0, x) :: l) = cu.toList ++ col (a + 1) none l := rfl
theorem col_del {a : Int} {cu : Option Hk} {x : ByteArray} {l : List (Int × ByteArray)} : col a cu ((1, x) :: l) = col (a + 1) (some (cuDel a cu x)) l := rfl
theorem col_ins {a : Int} {cu : Option Hk} {x : ByteArray} {l : List (Int × ByteArray)} : col a cu ((2, x) :: l) = col a (some (cuIns a cu x)) l := rfl

def okS (l : List (Int × ByteArray)) : Prop := ∀ p ∈ l, p.1 = 0 ∨ p.1 = 1 ∨ p.1 = 2
theorem okS_cons {s : Int × ByteArray} {l : List (Int × ByteArray)} (h : okS (s :: l)) : (s.1 = 0 ∨ s.1 = 1 ∨ s.1 = 2) ∧ okS l := ⟨h s (by simp), fun p hp => h p (by simp [hp])⟩
theorem oldT_cons (s : Int × ByteArray) (l : List (Int × ByteArray)) : oldT (s :: l) = if s.1 = 2 then oldT l else s.2 :: oldT l := by
  unfold oldT
  rw [List.filterMap_cons]
  by_cases h : s.1 = 2 <;> simp [h]
theorem newT_cons (s : Int × ByteArray) (l : List (Int × ByteArray)) : newT (s :: l) = if s.1 = 1 then newT l else s.2 :: newT l := by
  unfold newT
  rw [List.filterMap_cons]
  by_cases h : s.1 = 1 <;> simp [h]
theorem oldT_0 (x : ByteArray) (l : List (Int × ByteArray)) : oldT ((0, x) :: l) = x :: oldT l := by rw [oldT_cons]; rfl
theorem oldT_1 (x : ByteArray) (l : List (Int × ByteArray)) : oldT ((1, x) :: l) = x :: oldT l := by rw [oldT_cons]; rfl
theorem oldT_2 (x : ByteArray) (l : List (Int × ByteArray)) : oldT ((2, x) :: l) = oldT l := by rw [oldT_cons]; rfl
theorem newT_0 (x : ByteArray) (l : List (Int × ByteArray)) : newT ((0, x) :: l) = x :: newT l := by rw [newT_cons]; rfl
theorem newT_1 (x : ByteArray) (l : List (Int × ByteArray)) : newT ((1, x) :: l) = newT l := by rw [newT_cons]; rfl
theorem newT_2 (x : ByteArray) (l : List (Int × ByteArray)) : newT ((2, x) :: l) = x :: newT l := by rw [newT_cons]; rfl
def cuOk (a : Int) : Option Hk → Prop
  | none => True
  | some h => hkEnd h = a
def cuAt (a : Int) : Option Hk → Int
  | none => a
  | some h => h.1
def cuOld : Option Hk → List ByteArray
  | none => []
  | some h => h.2.1
def cuNew : Option Hk → List ByteArray
  | none => []
  | some h => h.2.2
theorem cuDel_ok {a : Int} {cu : Option Hk} {x : ByteArray} (h : cuOk a cu) : cuOk (a + 1) (some (cuDel a cu x)) := by
  cases cu with
  | none => show hkEnd (a, [x], []) = a + 1; unfold hkEnd; simp
  | some k =>
    have h : hkEnd k = a := h
    show hkEnd (k.1, k.2.1 ++ [x], k.2.2) = a + 1
    unfold hkEnd at h ⊢
    dsimp only
    rw [List.length_append, List.length_singleton]
    omega
theorem cuIns_ok {a : Int} {cu : Option Hk} {x : ByteArray} (h : cuOk a cu) : cuOk a (some (cuIns a cu x)) := by
  cases cu with
  | none => show hkEnd (a, [], [x]) = a; unfold hkEnd; simp
  | some k => exact h
theorem col_ap : ∀ (l : List (Int × ByteArray)) (a : Int) (cu : Option Hk), okS l → cuOk a cu → Ap (col a cu l) (cuAt a cu) (cuOld cu ++ oldT l) (cuNew cu ++ newT l)
  | [], a, none, _, _ => rfl
  | [], a, some h, _, _ => ⟨[], [], [], by show (0 : Int) = h.1 - h.1; omega, rfl, rfl, rfl⟩
  | (k, x) :: l, a, cu, hl, hc => by
    rcases (okS_cons hl).1 with h0 | h0 | h0 <;> dsimp only at h0 <;> subst h0
    · have ih := col_ap l (a + 1) none (okS_cons hl).2 True.intro
      have ih : Ap (col (a + 1) none l) (a + 1) (oldT l) (newT l) := ih
      have ih := ih.front (lo := a) [x] (by show (1 : Int) = a + 1 - a; omega)
      rw [col_keep, oldT_0, newT_0]
      cases cu with
      | none => exact ih
      | some h =>
        have hc : hkEnd h = a := hc
        exact ⟨[], _, _, by show (0 : Int) = h.1 - h.1; omega, rfl, rfl, by rw [hc]; exact ih⟩
    · have ih := col_ap l (a + 1) (some (cuDel a cu x)) (okS_cons hl).2 (cuDel_ok hc)
      rw [col_del, oldT_1, newT_1]
      cases cu with
      | none => exact ih
      | some h =>
        have ih : Ap (col (a + 1) (some (cuDel a (some h) x)) l) h.1 ((h.2.1 ++ [x]) ++ oldT l) (h.2.2 ++ newT l) := ih
        rw [List.append_assoc] at ih
        exact ih
    · have ih := col_ap l a (some (cuIns a cu x)) (okS_cons hl).2 (cuIns_ok hc)
      rw [col_ins, oldT_2, newT_2]
      cases cu with
      | none => exact ih
      | some h =>
        have ih : Ap (col a (some (cuIns a (some h) x)) l) h.1 (h.2.1 ++ oldT l) ((h.2.2 ++ [x]) ++ newT l) := ih
        rw [List.append_assoc] at ih
        exact ih
theorem col_ch : ∀ (l : List (Int × ByteArray)) (a : Int) (cu : Option Hk) (e : Int), cuOk a cu → e < cuAt a cu → ch e (col a cu l)
  | [], a, none, e, _, _ => True.intro
  | [], a, some h, e, _, he => ⟨he, True.intro⟩
  | s :: l, a, cu, e, hc, he => by
    show ch e (if s.1 = 0 then cu.toList ++ col (a + 1) none l else if s.1 = 1 then col (a + 1) (some (cuDel a cu s.2)) l else col a (some (cuIns a cu s.2)) l)
    split
    · cases cu with
      | none => exact col_ch l (a + 1) none e True.intro (by show e < a + 1; have : e < a := he; omega)
      | some h =>
        have hc : hkEnd h = a := hc
        exact ⟨he, col_ch l (a + 1) none _ True.intro (by show hkEnd h < a + 1; omega)⟩
    · split
      · exact col_ch l (a + 1) _ e (cuDel_ok hc) (by cases cu <;> exact he)
      · exact col_ch l a _ e (cuIns_ok hc) (by cases cu <;> exact he)
/-- what each hunk is: between the lines, of the lines -/
theorem col_mem : ∀ (l : List (Int × ByteArray)) (a : Int) (cu : Option Hk), okS l → cuOk a cu → (∀ h, cu = some h → 0 < h.2.1.length + h.2.2.length) → ∀ h ∈ col a cu l, cuAt a cu ≤ h.1 ∧ hkEnd h ≤ a + (oldT l).length ∧ 0 < h.2.1.length + h.2.2.length ∧ (∀ x ∈ h.2.1, x ∈ cuOld cu ∨ x ∈ oldT l) ∧ (∀ x ∈ h.2.2, x ∈ cuNew cu ∨ x ∈ newT l) ∧ h.2.1.length ≤ (cuOld cu).length + (oldT l).length ∧ h.2.2.length ≤ (cuNew cu).length + (newT l).length
  | [], a, none, _, _, _, h, hm => by simp [col] at hm
  | [], a, some k, _, hc, hp, h, hm => by
    obtain rfl : h = k := by simpa [col] using hm
    have hc : hkEnd h = a := hc
    exact ⟨Int.le_refl _, by rw [hc]; simp [oldT], hp h rfl, fun x hx => .inl hx, fun x hx => .inl hx, Nat.le_add_right _ _, Nat.le_add_right _ _⟩
  | (k, x) :: l, a, cu, hl, hc, hp, h, hm => by
    rcases (okS_cons hl).1 with h0 | h0 | h0 <;> dsimp only at h0 <;> subst h0
    · rw [col_keep] at hm
      rw [oldT_0, newT_0]
      rcases List.mem_append.1 hm with hm | hm
      · cases cu with
        | none => simp at hm
        | some k =>
          obtain rfl : h = k := by simpa using hm
          have hc : hkEnd h = a := hc
          exact ⟨Int.le_refl _, by rw [hc, List.length_cons]; omega, hp h rfl, fun x hx => .inl hx, fun x hx => .inl hx, Nat.le_add_right _ _, Nat.le_add_right _ _⟩
      · obtain ⟨i1, i2, i3, i4, i5, i6, i7⟩ := col_mem l (a + 1) none (okS_cons hl).2 True.intro (fun h e => by cases e) h hm
        have i1 : a + 1 ≤ h.1 := i1
        have i6 : h.2.1.length ≤ 0 + (oldT l).length := i6
        have i7 : h.2.2.length ≤ 0 + (newT l).length := i7
        have h0 : cuAt a cu ≤ a := by
          cases cu with
          | none => exact Int.le_refl _
          | some k => have hc : hkEnd k = a := hc; have := hkEnd_ge k; show k.1 ≤ a; omega
        refine ⟨by omega, by rw [List.length_cons]; omega, i3, fun y hy => ?_, fun y hy => ?_, by rw [List.length_cons]; omega, by rw [List.length_cons]; omega⟩
        · rcases i4 y hy with q | q
          · simp [cuOld] at q
          · exact .inr (List.mem_cons_of_mem _ q)
        · rcases i5 y hy with q | q
          · simp [cuNew] at q
          · exact .inr (List.mem_cons_of_mem _ q)
    · rw [col_del] at hm
      rw [oldT_1, newT_1]
      obtain ⟨i1, i2, i3, i4, i5, i6, i7⟩ := col_mem l (a + 1) (some (cuDel a cu x)) (okS_cons hl).2 (cuDel_ok hc) (fun h e => by cases e; cases cu <;> simp only [cuDel, List.length_append, List.length_singleton, List.length_nil] <;> omega) h hm
      cases cu with
      | none =>
        have i6 : h.2.1.length ≤ 1 + (oldT l).length := i6
        have i7 : h.2.2.length ≤ 0 + (newT l).length := i7
        refine ⟨i1, by rw [List.length_cons]; omega, i3, fun y hy => ?_, fun y hy => ?_, by rw [List.length_cons]; show _ ≤ 0 + _; omega, i7⟩
        · rcases i4 y hy with q | q
          · exact .inr (by rw [show y = x by simpa [cuOld, cuDel] using q]; simp)
          · exact .inr (List.mem_cons_of_mem _ q)
        · rcases i5 y hy with q | q
          · simp [cuNew, cuDel] at q
          · exact .inr q
      | some k =>
        have i6 : h.2.1.length ≤ (k.2.1 ++ [x]).length + (oldT l).length := i6
        have i7 : h.2.2.length ≤ k.2.2.length + (newT l).length := i7
        rw [List.length_append, List.length_singleton] at i6
        refine ⟨i1, by rw [List.length_cons]; omega, i3, fun y hy => ?_, fun y hy => i5 y hy, by rw [List.length_cons]; show _ ≤ k.2.1.length + _; omega, i7⟩
        rcases i4 y hy with q | q
        · have q : y ∈ k.2.1 ++ [x] := q
          rcases List.mem_append.1 q with q | q
          · exact .inl q
          · exact .inr (by rw [show y = x by simpa using q]; simp)
        · exact .inr (List.mem_cons_of_mem _ q)
    · rw [col_ins] at hm
      rw [oldT_2, newT_2]
      obtain ⟨i1, i2, i3, i4, i5, i6, i7⟩ := col_mem l a (some (cuIns a cu x)) (okS_cons hl).2 (cuIns_ok hc) (fun h e => by cases e; cases cu <;> simp only [cuIns, List.length_append, List.length_singleton, List.length_nil] <;> omega) h hm
      cases cu with
      | none =>
        have i6 : h.2.1.length ≤ 0 + (oldT l).length := i6
        have i7 : h.2.2.length ≤ 1 + (newT l).length := i7
        refine ⟨i1, i2, i3, fun y hy => ?_, fun y hy => ?_, i6, by rw [List.length_cons]; show _ ≤ 0 + _; omega⟩
        · rcases i4 y hy with q | q
          · simp [cuOld, cuIns] at q
          · exact .inr q
        · rcases i5 y hy with q | q
          · exact .inr (by rw [show y = x by simpa [cuNew, cuIns] using q]; simp)
          · exact .inr (List.mem_cons_of_mem _ q)
      | some k =>
        have i6 : h.2.1.length ≤ k.2.1.length + (oldT l).length := i6
        have i7 : h.2.2.length ≤ (k.2.2 ++ [x]).length + (newT l).length := i7
        rw [List.length_append, List.length_singleton] at i7
        refine ⟨i1, i2, i3, fun y hy => i4 y hy, fun y hy => ?_, i6, by rw [List.length_cons]; show _ ≤ k.2.2.length + _; omega⟩
        rcases i5 y hy with q | q
        · have q : y ∈ k.2.2 ++ [x] := q
          rcases List.mem_append.1 q with q | q
          · exact .inl q
          · exact .inr (by rw [show y = x by simpa using q]; simp)
        · exact .inr (List.mem_cons_of_mem _ q)
theorem col_len : ∀ (l : List (Int × ByteArray)) (a : Int) (cu : Option Hk), (col a cu l).length ≤ l.length + cu.toList.length
  | [], a, cu => by simp [col]
  | s :: l, a, cu => by
    show (if s.1 = 0 then cu.toList ++ col (a + 1) none l else if s.1 = 1 then col (a + 1) (some (cuDel a cu s.2)) l else col a (some (cuIns a cu s.2)) l).length ≤ _
    split
    · have := col_len l (a + 1) none
      rw [List.length_append, List.length_cons]
      have this : (col (a + 1) none l).length ≤ l.length + 0 := this
      omega
    · split
      · have := col_len l (a + 1) (some (cuDel a cu s.2))
        have this : _ ≤ l.length + 1 := this
        rw [List.length_cons]; omega
      · have := col_len l a (some (cuIns a cu s.2))
        have this : _ ≤ l.length + 1 := this
        rw [List.length_cons]; omega
/-- hunks are kept apart by kept lines -/
theorem col_few : ∀ (l : List (Int × ByteArray)) (a : Int) (cu : Option Hk), (col a cu l).length ≤ (kept l).length + 1
  | [], a, cu => by cases cu <;> simp [col, kept]
  | s :: l, a, cu => by
    have hk : kept (s :: l) = if s.1 = 0 then s.2 :: kept l else kept l := by
      unfold kept
      rw [List.filterMap_cons]
      by_cases h : s.1 = 0 <;> simp [h]
    rw [hk]
    show (if s.1 = 0 then cu.toList ++ col (a + 1) none l else if s.1 = 1 then col (a + 1) (some (cuDel a cu s.2)) l else col a (some (cuIns a cu s.2)) l).length ≤ _
    split
    · have := col_few l (a + 1) none
      rw [List.length_append, List.length_cons]
      have : cu.toList.length ≤ 1 := by cases cu <;> simp
      omega
    · split
      · exact col_few l (a + 1) _
      · exact col_few l a _
/-- how many lines a patch changes -/
def pCost : List Hk → Int
  | [] => 0
  | h :: p => h.2.1.length + h.2.2.length + pCost p
theorem pCost_append : ∀ (p q : List Hk), pCost (p ++ q) = pCost p + pCost q
  | [], q => by simp [pCost]
  | h :: p, q => by
    simp only [List.cons_append, pCost, pCost_append p]
    omega
theorem col_cost : ∀ (l : List (Int × ByteArray)) (a : Int) (cu : Option Hk), okS l → pCost (col a cu l) = pCost cu.toList + ((oldT l).length + (newT l).length - 2 * (kept l).length : Int)
  | [], a, cu, _ => by simp [col, oldT, newT, kept]
  | s :: l, a, cu, hl => by
    have hk : kept (s :: l) = if s.1 = 0 then s.2 :: kept l else kept l := by
      unfold kept
      rw [List.filterMap_cons]
      by_cases h : s.1 = 0 <;> simp [h]
    rw [hk, oldT_cons, newT_cons]
    obtain ⟨h1, h2⟩ := okS_cons hl
    show pCost (if s.1 = 0 then cu.toList ++ col (a + 1) none l else if s.1 = 1 then col (a + 1) (some (cuDel a cu s.2)) l else col a (some (cuIns a cu s.2)) l) = _
    by_cases e0 : s.1 = 0
    · rw [if_pos e0, if_pos e0, if_neg (by omega), if_neg (by omega), pCost_append, col_cost l _ _ h2]
      simp only [List.length_cons, Option.toList_none, pCost]
      omega
    · rw [if_neg e0, if_neg e0]
      by_cases e1 : s.1 = 1
      · rw [if_pos e1, if_pos e1, if_neg (by omega), col_cost l _ _ h2]
        have : pCost (some (cuDel a cu s.2)).toList = pCost cu.toList + 1 := by
          cases cu with
          | none => simp [cuDel, pCost]
          | some h => simp only [cuDel, Option.toList_some, pCost, List.length_append, List.length_singleton]; omega
        rw [this]
        simp only [List.length_cons]
        omega
      · rw [if_neg e1, if_neg e1, if_pos (by omega), col_cost l _ _ h2]
        have : pCost (some (cuIns a cu s.2)).toList = pCost cu.toList + 1 := by
          cases cu with
          | none => simp [cuIns, pCost]
          | some h => simp only [cuIns, Option.toList_some, pCost, List.length_append, List.length_singleton]; omega
        rw [this]
        simp only [List.length_cons]
        omega

/-- the script of two texts -/
def script (a b : List ByteArray) : List Hk := col 0 none (steps a b)
theorem steps_ok (a b : List ByteArray) : okS (steps a b) ∧ oldT (steps a b) = a ∧ newT (steps a b) = b ∧ (kept (steps a b)).length = lcs a b := by
  obtain ⟨h1, h2, h3, h4⟩ := steps_facts (a.length + b.length) a b (Nat.le_refl _)
  exact ⟨h1, h2, h3, by unfold steps; rw [h4]; exact (kp_sub a b).2.2⟩
theorem script_ap (a b : List ByteArray) : Ap (script a b) 0 a b := by
  obtain ⟨h1, h2, h3, h4⟩ := steps_ok a b
  have := col_ap (steps a b) 0 none h1 True.intro
  rw [h2, h3] at this
  exact this
theorem script_good {a b : List ByteArray} (ha : vC a = 0) (hb : vC b = 0) : pC (script a b) = 0 := by
  obtain ⟨h1, h2, h3, h4⟩ := steps_ok a b
  obtain ⟨la, ga⟩ := (vC_good a).1 ha
  obtain ⟨lb, gb⟩ := (vC_good b).1 hb
  refine pC_iff.2 ⟨?_, col_ch _ _ _ _ True.intro (by decide), fun h hm => ?_⟩
  · have := col_few (steps a b) 0 none
    have := lcs_le_l a b
    unfold script
    omega
  · obtain ⟨i1, i2, i3, i4, i5, i6, i7⟩ := col_mem (steps a b) 0 none h1 True.intro (fun h e => by cases e) h hm
    rw [h2] at i2 i4 i6
    rw [h3] at i5 i7
    have i1 : 0 ≤ h.1 := i1
    have i6 : h.2.1.length ≤ 0 + a.length := i6
    have i7 : h.2.2.length ≤ 0 + b.length := i7
    have := hkEnd_ge h
    have i2' := i2
    unfold hkEnd at i2'
    refine ⟨i1, by omega, (vC_good _).2 ⟨by omega, fun x hx => ?_⟩, (vC_good _).2 ⟨by omega, fun x hx => ?_⟩, i3, by omega⟩
    · rcases i4 x hx with q | q
      · simp [cuOld] at q
      · exact ga x q
    · rcases i5 x hx with q | q
      · simp [cuNew] at q
      · exact gb x q
theorem script_cost (a b : List ByteArray) : pCost (script a b) = (a.length : Int) + b.length - 2 * (lcs a b : Nat) := by
  obtain ⟨h1, h2, h3, h4⟩ := steps_ok a b
  unfold script
  rw [col_cost _ _ _ h1, h2, h3, h4]
  simp [pCost]
/-- what a patch leaves is common -/
theorem ap_lcs : ∀ {p : List Hk} {lo : Int} {t s : List ByteArray}, Ap p lo t s → (t.length : Int) + s.length - 2 * (lcs t s : Nat) ≤ pCost p
  | [], lo, t, s, h => by
    rw [show s = t from h, lcs_self]
    simp only [pCost]
    omega
  | h :: p, lo, t, s, ha => by
    obtain ⟨m, t', s', e1, e2, e3, e4⟩ := ha
    have ih := ap_lcs e4
    obtain ⟨l, l1, l2, l3⟩ := lcs_ex t' s'
    have hge : (m ++ l).length ≤ lcs t s := by
      refine lcs_ge _ _ _ ?_ ?_
      · rw [e2]; exact (List.Sublist.refl m).append (l1.trans (List.sublist_append_right _ _))
      · rw [e3]; exact (List.Sublist.refl m).append (l2.trans (List.sublist_append_right _ _))
    rw [List.length_append, l3] at hge
    rw [e2, e3]
    rw [← e2, ← e3]
    have k1 : t.length = m.length + (h.2.1.length + t'.length) := by rw [e2, List.length_append, List.length_append]
    have k2 : s.length = m.length + (h.2.2.length + s'.length) := by rw [e3, List.length_append, List.length_append]
    simp only [pCost]
    omega
theorem script_least {p : List Hk} {a b : List ByteArray} (h : Ap p 0 a b) : pCost (script a b) ≤ pCost p := by
  rw [script_cost]; exact ap_lcs h
theorem script_apply {a b : List ByteArray} (ha : vC a = 0) (hb : vC b = 0) : (apF (script a b) a).1 = 0 ∧ apL (script a b) a = b :=
  apply_ok (script_good ha hb) ha (script_ap a b) ((vC_good b).1 hb).1
end Go.Proofs.Ythacjpemeaekdaa
