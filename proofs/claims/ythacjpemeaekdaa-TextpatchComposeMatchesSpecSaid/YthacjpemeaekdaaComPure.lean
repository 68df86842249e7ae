/- Plain: the composition of patches. -/
import Derived.Test.YthacjpemeaekdaaColPure
import Derived.Test.YthacjpemeaekdaaCommPure
namespace Go.Proofs.Ythacjpemeaekdaa
open Go.RowKit

/-- a line of the middle text: inserted, its text, the old lines that are deleted ahead of it -/
abbrev Md : Type := Bool × ByteArray × List ByteArray
abbrev MS : Type := List Md × List ByteArray
def addS (S : MS) (b : Bool) (l : ByteArray) : MS := (S.1 ++ [(b, l, S.2)], [])
def plainS : Nat → MS → MS
  | 0, S => S
  | n + 1, S => plainS n (addS S false ByteArray.empty)
def insS : List ByteArray → MS → MS
  | [], S => S
  | x :: l, S => insS l (addS S true x)
def goneS (o : List ByteArray) (S : MS) : MS := (S.1, S.2 ++ o)
def midF : Int → List Hk → MS → MS
  | _, [], S => plainS 480 S
  | a, h :: p, S => midF (hkEnd h) p (insS h.2.2 (goneS h.2.1 (plainS (h.1 - a).toNat S)))
/-- the same as lists -/
def plainL : Nat → List ByteArray → List Md
  | 0, _ => []
  | n + 1, g => (false, ByteArray.empty, g) :: plainL n []
def plainG : Nat → List ByteArray → List ByteArray
  | 0, g => g
  | _ + 1, _ => []
def insL : List ByteArray → List ByteArray → List Md
  | [], _ => []
  | x :: l, g => (true, x, g) :: insL l []
def insG : List ByteArray → List ByteArray → List ByteArray
  | [], g => g
  | _ :: _, _ => []
def midL : Int → List Hk → List ByteArray → List Md
  | _, [], g => plainL 480 g
  | a, h :: p, g => plainL (h.1 - a).toNat g ++ insL h.2.2 (plainG (h.1 - a).toNat g ++ h.2.1) ++ midL (hkEnd h) p (insG h.2.2 (plainG (h.1 - a).toNat g ++ h.2.1))
theorem plainS_eq : ∀ (n : Nat) (S : MS), plainS n S = (S.1 ++ plainL n S.2, plainG n S.2)
  | 0, S => by simp [plainS, plainL, plainG]
  | n + 1, S => by
    rw [plainS, plainS_eq n]
    simp only [addS, plainL, plainG, List.append_assoc, List.cons_append, List.nil_append]
    congr 1
    cases n <;> rfl
theorem insS_eq : ∀ (l : List ByteArray) (S : MS), insS l S = (S.1 ++ insL l S.2, insG l S.2)
  | [], S => by simp [insS, insL, insG]
  | x :: l, S => by
    rw [insS, insS_eq l]
    simp only [addS, insL, insG, List.append_assoc, List.cons_append, List.nil_append]
    congr 1
    cases l <;> rfl
theorem midF_eq : ∀ (p : List Hk) (a : Int) (S : MS), (midF a p S).1 = S.1 ++ midL a p S.2
  | [], a, S => by rw [midF, plainS_eq]; rfl
  | h :: p, a, S => by
    rw [midF, midF_eq p, insS_eq, plainS_eq]
    simp only [goneS, midL, List.append_assoc]

/-- the middle lines against the old text and the middle text -/
def MR : List Md → List ByteArray → List ByteArray → Prop
  | [], _, _ => False
  | m :: M, t0, t1 => ∃ t, t0 = m.2.2 ++ t ∧ (if m.1 = true then ∃ s, t1 = m.2.1 :: s ∧ MR M t s
      else (t = [] ∧ t1 = [] ∧ ∀ x ∈ M, x.1 = false ∧ x.2.2 = []) ∨ ∃ x t' s, t = x :: t' ∧ t1 = x :: s ∧ MR M t' s)
theorem plain_all : ∀ (n : Nat), ∀ x ∈ plainL n [], x.1 = false ∧ x.2.2 = []
  | 0, x, hx => by simp [plainL] at hx
  | n + 1, x, hx => by
    rcases List.mem_cons.1 (show x ∈ (false, ByteArray.empty, []) :: plainL n [] from hx) with rfl | hx
    · exact ⟨rfl, rfl⟩
    · exact plain_all n x hx
theorem MR_plain_end : ∀ (n : Nat) (g t : List ByteArray), t.length < n → MR (plainL n g) (g ++ t) t
  | 0, _, _, h => absurd h (Nat.not_lt_zero _)
  | n + 1, g, [], h => ⟨[], rfl, by rw [if_neg Bool.false_ne_true]; exact .inl ⟨rfl, rfl, plain_all n⟩⟩
  | n + 1, g, x :: t, h => ⟨x :: t, rfl, by
      rw [if_neg Bool.false_ne_true]
      exact .inr ⟨x, t, t, rfl, rfl, MR_plain_end n [] t (by simpa using h)⟩⟩
theorem MR_plain {M : List Md} {t0 t1 : List ByteArray} : ∀ (m g : List ByteArray), MR M (plainG m.length g ++ t0) t1 → MR (plainL m.length g ++ M) (g ++ (m ++ t0)) (m ++ t1)
  | [], g, h => h
  | x :: m, g, h => ⟨x :: (m ++ t0), rfl, by
      rw [if_neg Bool.false_ne_true]
      refine .inr ⟨x, m ++ t0, m ++ t1, rfl, rfl, ?_⟩
      have := MR_plain (M := M) (t0 := t0) (t1 := t1) m [] (by
        have h : MR M ([] ++ t0) t1 := h
        cases m <;> exact h)
      exact this⟩
theorem MR_ins {M : List Md} {t0 t1 : List ByteArray} : ∀ (l g : List ByteArray), MR M (insG l g ++ t0) t1 → MR (insL l g ++ M) (g ++ t0) (l ++ t1)
  | [], g, h => h
  | x :: l, g, h => ⟨t0, rfl, by
      rw [if_pos rfl]
      refine ⟨l ++ t1, rfl, ?_⟩
      have := MR_ins (M := M) (t0 := t0) (t1 := t1) l [] (by
        have h : MR M ([] ++ t0) t1 := h
        cases l <;> exact h)
      exact this⟩
theorem mid_MR : ∀ (p : List Hk) (a : Int) (g t0 t1 : List ByteArray), t1.length < 480 → Ap p a t0 t1 → MR (midL a p g) (g ++ t0) t1
  | [], a, g, t0, t1, hl, h => by
    rw [show t1 = t0 from h] at hl ⊢
    exact MR_plain_end 480 g t0 hl
  | h :: p, a, g, t0, t1, hl, ha => by
    obtain ⟨m, t', s', e1, e2, e3, e4⟩ := ha
    have em : (h.1 - a).toNat = m.length := by omega
    rw [e2, e3]
    unfold midL
    rw [em, List.append_assoc]
    refine MR_plain m g ?_
    have hls : s'.length < 480 := by rw [e3, List.length_append, List.length_append] at hl; omega
    have ih := mid_MR p (hkEnd h) (insG h.2.2 (plainG m.length g ++ h.2.1)) t' s' hls e4
    have := MR_ins (M := midL (hkEnd h) p (insG h.2.2 (plainG m.length g ++ h.2.1))) (t0 := t') (t1 := s') h.2.2 (plainG m.length g ++ h.2.1) ih
    rw [List.append_assoc] at this
    exact this

/-- the steps of a middle line that stays -/
def kev (m : Md) : List (Int × ByteArray) := m.2.2.map (fun x => ((1 : Int), x)) ++ [if m.1 = true then (2, m.2.1) else (0, ByteArray.empty)]
/-- the steps of a middle line that the second patch deletes -/
def dev (m : Md) (s : ByteArray) : List (Int × ByteArray) := m.2.2.map (fun x => ((1 : Int), x)) ++ if m.1 = true then [] else [(1, s)]
def devs : List Md → List ByteArray → List (Int × ByteArray)
  | m :: M, s :: o => dev m s ++ devs M o
  | _, _ => []
def evs : Int → List Md → List Hk → List (Int × ByteArray)
  | _, M, [] => M.flatMap kev
  | a, M, h :: q => (M.take (h.1 - a).toNat).flatMap kev ++ (h.2.2.map (fun x => ((2 : Int), x)) ++ (devs (M.drop (h.1 - a).toNat) h.2.1 ++ evs (hkEnd h) (M.drop (hkEnd h - a).toNat) q))
/-- the lines that disagree -/
def bad : List Md → List ByteArray → Bool
  | m :: M, s :: o => (m.1 && !decide (m.2.1 = s)) || bad M o
  | _, _ => false
def confI : Nat → List Md → List Hk → Option Nat
  | _, _, [] => none
  | i, M, h :: q => if bad (M.drop h.1.toNat) h.2.1 = true then some i else confI (i + 1) M q

/-- steps that lead from one text to another; kept lines have no text; at the end lines may be kept beyond the text -/
def Ev : List (Int × ByteArray) → List ByteArray → List ByteArray → Prop
  | [], t, s => t = s
  | e :: l, t, s => ((∀ x ∈ e :: l, x.1 = 0) ∧ t = s) ∨ (e.1 = 0 ∧ ∃ x t' s', t = x :: t' ∧ s = x :: s' ∧ Ev l t' s') ∨ (e.1 = 1 ∧ ∃ t', t = e.2 :: t' ∧ Ev l t' s) ∨ (e.1 = 2 ∧ ∃ s', s = e.2 :: s' ∧ Ev l t s')
theorem evK {l : List (Int × ByteArray)} {t s : List ByteArray} {x z : ByteArray} (h : Ev l t s) : Ev ((0, z) :: l) (x :: t) (x :: s) := .inr (.inl ⟨rfl, x, t, s, rfl, rfl, h⟩)
theorem evD {l : List (Int × ByteArray)} {t s : List ByteArray} {y : ByteArray} (h : Ev l t s) : Ev ((1, y) :: l) (y :: t) s := .inr (.inr (.inl ⟨rfl, t, rfl, h⟩))
theorem evI {l : List (Int × ByteArray)} {t s : List ByteArray} {y : ByteArray} (h : Ev l t s) : Ev ((2, y) :: l) t (y :: s) := .inr (.inr (.inr ⟨rfl, s, rfl, h⟩))
theorem evE {e : Int × ByteArray} {l : List (Int × ByteArray)} {t : List ByteArray} (h : ∀ x ∈ e :: l, x.1 = 0) : Ev (e :: l) t t := .inl ⟨h, rfl⟩
theorem col_keeps : ∀ (l : List (Int × ByteArray)) (a : Int) (cu : Option Hk), (∀ x ∈ l, x.1 = 0) → col a cu l = cu.toList
  | [], _, _, _ => rfl
  | e :: l, a, cu, h => by
    show (if e.1 = 0 then cu.toList ++ col (a + 1) none l else _) = _
    rw [if_pos (h e (by simp)), col_keeps l _ _ fun x hx => h x (by simp [hx])]
    simp
theorem okS_keep (t : List ByteArray) : okS (t.map fun x => ((0 : Int), x)) ∧ oldT (t.map fun x => ((0 : Int), x)) = t ∧ newT (t.map fun x => ((0 : Int), x)) = t := by
  induction t with
  | nil => exact ⟨fun p hp => by simp at hp, rfl, rfl⟩
  | cons x t ih =>
    obtain ⟨h1, h2, h3⟩ := ih
    refine ⟨fun p hp => ?_, ?_, ?_⟩
    · rcases List.mem_cons.1 (show p ∈ ((0 : Int), x) :: t.map (fun x => ((0 : Int), x)) from hp) with rfl | hp
      · exact .inl rfl
      · exact h1 p hp
    · rw [List.map_cons, oldT_0, h2]
    · rw [List.map_cons, newT_0, h3]
theorem ev_text : ∀ (l : List (Int × ByteArray)) (t s : List ByteArray), Ev l t s → ∃ l', okS l' ∧ oldT l' = t ∧ newT l' = s ∧ ∀ a cu, col a cu l = col a cu l'
  | [], t, s, h => by
    obtain rfl := (show t = s from h)
    obtain ⟨h1, h2, h3⟩ := okS_keep t
    exact ⟨_, h1, h2, h3, fun a cu => (show cu.toList = _ from (col_keeps (t.map fun x => ((0 : Int), x)) a cu (fun x hx => by obtain ⟨y, _, rfl⟩ := List.mem_map.1 hx; rfl)).symm)⟩
  | (k, y) :: l, t, s, h => by
    rcases h with ⟨h1, rfl⟩ | ⟨h1, x, t', s', rfl, rfl, h2⟩ | ⟨h1, t', rfl, h2⟩ | ⟨h1, s', rfl, h2⟩
    · obtain ⟨k1, k2, k3⟩ := okS_keep t
      exact ⟨_, k1, k2, k3, fun a cu => by rw [col_keeps _ _ _ h1, col_keeps _ _ _ (fun x hx => by obtain ⟨z, _, rfl⟩ := List.mem_map.1 hx; rfl)]⟩
    · obtain rfl : k = 0 := h1
      obtain ⟨l', k1, k2, k3, k4⟩ := ev_text l t' s' h2
      exact ⟨(0, x) :: l', fun p hp => (List.mem_cons.1 hp).elim (fun e => .inl (by rw [e])) (k1 p), by rw [oldT_0, k2], by rw [newT_0, k3], fun a cu => by rw [col_keep, col_keep, k4]⟩
    · obtain rfl : k = 1 := h1
      obtain ⟨l', k1, k2, k3, k4⟩ := ev_text l t' s h2
      exact ⟨(1, y) :: l', fun p hp => (List.mem_cons.1 hp).elim (fun e => .inr (.inl (by rw [e]))) (k1 p), by rw [oldT_1, k2], by rw [newT_1, k3], fun a cu => by rw [col_del, col_del, k4]⟩
    · obtain rfl : k = 2 := h1
      obtain ⟨l', k1, k2, k3, k4⟩ := ev_text l t s' h2
      exact ⟨(2, y) :: l', fun p hp => (List.mem_cons.1 hp).elim (fun e => .inr (.inr (by rw [e]))) (k1 p), by rw [oldT_2, k2], by rw [newT_2, k3], fun a cu => by rw [col_ins, col_ins, k4]⟩
theorem ev_ap {l : List (Int × ByteArray)} {t s : List ByteArray} (h : Ev l t s) : Ap (col 0 none l) 0 t s := by
  obtain ⟨l', k1, k2, k3, k4⟩ := ev_text l t s h
  rw [k4]
  have := col_ap l' 0 none k1 True.intro
  rw [k2, k3] at this
  exact this
theorem ev_dels {l : List (Int × ByteArray)} {t s : List ByteArray} (h : Ev l t s) : ∀ o : List ByteArray, Ev (o.map (fun x => ((1 : Int), x)) ++ l) (o ++ t) s
  | [] => h
  | x :: o => .inr (.inr (.inl ⟨rfl, o ++ t, rfl, ev_dels h o⟩))
theorem ev_inss {l : List (Int × ByteArray)} {t s : List ByteArray} (h : Ev l t s) : ∀ o : List ByteArray, Ev (o.map (fun x => ((2 : Int), x)) ++ l) t (o ++ s)
  | [] => h
  | x :: o => .inr (.inr (.inr ⟨rfl, o ++ s, rfl, ev_inss h o⟩))
/-- the middle lines that stay -/
theorem MR_keep : ∀ (m : List ByteArray) (M : List Md) (t0 t1 : List ByteArray), MR M t0 (m ++ t1) → ∃ t, MR (M.drop m.length) t t1 ∧ ∀ l s, Ev l t s → Ev ((M.take m.length).flatMap kev ++ l) t0 (m ++ s)
  | [], M, t0, t1, h => ⟨t0, h, fun l s hl => hl⟩
  | x :: m, [], t0, t1, h => h.elim
  | x :: m, k :: M, t0, t1, h => by
    obtain ⟨t, e1, e2⟩ := h
    obtain ⟨kb, kl, kg⟩ := k
    replace e1 : t0 = kg ++ t := e1
    cases kb with
    | true =>
      rw [if_pos rfl] at e2
      obtain ⟨s, f1, f2⟩ := e2
      obtain ⟨f3, f4⟩ := List.cons.inj (show x :: (m ++ t1) = kl :: s from f1)
      subst f3; subst f4
      obtain ⟨t', i1, i2⟩ := MR_keep m M t t1 f2
      refine ⟨t', i1, fun l s hl => ?_⟩
      show Ev ((kev (true, x, kg) ++ (M.take m.length).flatMap kev) ++ l) t0 (x :: (m ++ s))
      rw [e1, List.append_assoc]
      show Ev ((kg.map (fun x => ((1 : Int), x)) ++ [(2, x)]) ++ ((M.take m.length).flatMap kev ++ l)) (kg ++ t) (x :: (m ++ s))
      rw [List.append_assoc]
      exact ev_dels (evI (i2 l s hl)) kg
    | false =>
      rw [if_neg Bool.false_ne_true] at e2
      rcases e2 with ⟨-, f, -⟩ | ⟨y, t', s, f0, f1, f2⟩
      · cases f
      · obtain ⟨f3, f4⟩ := List.cons.inj (show x :: (m ++ t1) = y :: s from f1)
        subst f3; subst f4
        obtain ⟨t2, i1, i2⟩ := MR_keep m M t' t1 f2
        refine ⟨t2, i1, fun l s hl => ?_⟩
        show Ev ((kev (false, kl, kg) ++ (M.take m.length).flatMap kev) ++ l) t0 (x :: (m ++ s))
        rw [e1, List.append_assoc, f0]
        show Ev ((kg.map (fun x => ((1 : Int), x)) ++ [(0, ByteArray.empty)]) ++ ((M.take m.length).flatMap kev ++ l)) (kg ++ x :: t') (x :: (m ++ s))
        rw [List.append_assoc]
        exact ev_dels (evK (i2 l s hl)) kg
/-- the middle lines that the second patch deletes -/
theorem MR_del : ∀ (o : List ByteArray) (M : List Md) (t0 t1 : List ByteArray), MR M t0 (o ++ t1) → bad M o = false ∧ ∃ t, MR (M.drop o.length) t t1 ∧ ∀ l s, Ev l t s → Ev (devs M o ++ l) t0 s
  | [], M, t0, t1, h => by
    refine ⟨by cases M <;> rfl, t0, h, fun l s hl => ?_⟩
    cases M <;> exact hl
  | x :: o, [], t0, t1, h => h.elim
  | x :: o, k :: M, t0, t1, h => by
    obtain ⟨t, e1, e2⟩ := h
    obtain ⟨kb, kl, kg⟩ := k
    replace e1 : t0 = kg ++ t := e1
    cases kb with
    | true =>
      rw [if_pos rfl] at e2
      obtain ⟨s, f1, f2⟩ := e2
      obtain ⟨f3, f4⟩ := List.cons.inj (show x :: (o ++ t1) = kl :: s from f1)
      subst f3; subst f4
      obtain ⟨i0, t', i1, i2⟩ := MR_del o M t t1 f2
      refine ⟨by show ((true && !decide (x = x)) || bad M o) = false; rw [i0]; simp, t', i1, fun l s hl => ?_⟩
      show Ev ((dev (true, x, kg) x ++ devs M o) ++ l) t0 s
      rw [e1, List.append_assoc]
      show Ev ((kg.map (fun x => ((1 : Int), x)) ++ []) ++ (devs M o ++ l)) (kg ++ t) s
      rw [List.append_nil]
      exact ev_dels (i2 l s hl) kg
    | false =>
      rw [if_neg Bool.false_ne_true] at e2
      rcases e2 with ⟨-, f, -⟩ | ⟨y, t', s, f0, f1, f2⟩
      · cases f
      · obtain ⟨f3, f4⟩ := List.cons.inj (show x :: (o ++ t1) = y :: s from f1)
        subst f3; subst f4
        obtain ⟨i0, t2, i1, i2⟩ := MR_del o M t' t1 f2
        refine ⟨by show ((false && _) || bad M o) = false; rw [i0]; rfl, t2, i1, fun l s hl => ?_⟩
        show Ev ((dev (false, kl, kg) x ++ devs M o) ++ l) t0 s
        rw [e1, List.append_assoc, f0]
        show Ev ((kg.map (fun x => ((1 : Int), x)) ++ [(1, x)]) ++ (devs M o ++ l)) (kg ++ x :: t') s
        rw [List.append_assoc]
        exact ev_dels (evD (i2 l s hl)) kg
/-- all that is left -/
theorem MR_rest : ∀ (M : List Md) (t0 t1 : List ByteArray), MR M t0 t1 → Ev (M.flatMap kev) t0 t1
  | [], _, _, h => h.elim
  | (kb, kl, kg) :: M, t0, t1, h => by
    obtain ⟨t, e1, e2⟩ := h
    replace e1 : t0 = kg ++ t := e1
    show Ev (kev (kb, kl, kg) ++ M.flatMap kev) t0 t1
    rw [e1]
    cases kb with
    | true =>
      rw [if_pos rfl] at e2
      obtain ⟨s, f1, f2⟩ := e2
      show Ev ((kg.map (fun x => ((1 : Int), x)) ++ [(2, kl)]) ++ M.flatMap kev) (kg ++ t) t1
      rw [f1, List.append_assoc]
      exact ev_dels (evI (MR_rest M t s f2)) kg
    | false =>
      rw [if_neg Bool.false_ne_true] at e2
      show Ev ((kg.map (fun x => ((1 : Int), x)) ++ [(0, ByteArray.empty)]) ++ M.flatMap kev) (kg ++ t) t1
      rw [List.append_assoc]
      rcases e2 with ⟨rfl, rfl, f⟩ | ⟨y, t', s, rfl, rfl, f2⟩
      · refine ev_dels (evE fun x hx => ?_) kg
        rcases List.mem_cons.1 (show x ∈ (0, ByteArray.empty) :: M.flatMap kev from hx) with rfl | hx
        · rfl
        · obtain ⟨m, hm, hx⟩ := List.mem_flatMap.1 hx
          obtain ⟨f1, f2⟩ := f m hm
          unfold kev at hx
          rw [f2, f1] at hx
          have hx : x = (0, ByteArray.empty) := by simpa using hx
          rw [hx]
      · exact ev_dels (evK (MR_rest M t' s f2)) kg
theorem evs_ap : ∀ (q : List Hk) (a : Int) (M : List Md) (t0 t1 t2 : List ByteArray), MR M t0 t1 → Ap q a t1 t2 → Ev (evs a M q) t0 t2
  | [], a, M, t0, t1, t2, h, hq => by
    rw [show t2 = t1 from hq]
    exact MR_rest M t0 t1 h
  | h :: q, a, M, t0, t1, t2, hM, hq => by
    obtain ⟨m, t', s', e1, e2, e3, e4⟩ := hq
    have em : (h.1 - a).toNat = m.length := by omega
    have en : (hkEnd h - a).toNat = m.length + h.2.1.length := by unfold hkEnd; omega
    rw [e2] at hM
    obtain ⟨ta, i1, i2⟩ := MR_keep m M t0 _ hM
    obtain ⟨-, tb, j1, j2⟩ := MR_del h.2.1 _ ta t' i1
    rw [List.drop_drop] at j1
    have ih := evs_ap q (hkEnd h) _ tb t' s' j1 e4
    unfold evs
    rw [em, en, e3]
    exact i2 _ _ (ev_inss (j2 _ _ ih) _)
theorem conf_ap : ∀ (q : List Hk) (a : Int) (M : List Md) (t0 t1 t2 : List ByteArray) (i : Nat), 0 ≤ a → (∃ t, MR (M.drop a.toNat) t t1) → Ap q a t1 t2 → confI i M q = none
  | [], _, _, _, _, _, _, _, _, _ => rfl
  | h :: q, a, M, t0, t1, t2, i, ha, ⟨t, hM⟩, hq => by
    obtain ⟨m, t', s', e1, e2, e3, e4⟩ := hq
    rw [e2] at hM
    obtain ⟨ta, i1, -⟩ := MR_keep m _ t _ hM
    rw [List.drop_drop, show a.toNat + m.length = h.1.toNat by omega] at i1
    obtain ⟨j0, tb, j1, -⟩ := MR_del h.2.1 _ ta t' i1
    rw [List.drop_drop, show h.1.toNat + h.2.1.length = (hkEnd h).toNat by unfold hkEnd; omega] at j1
    unfold confI
    rw [if_neg (by rw [j0]; decide)]
    exact conf_ap q (hkEnd h) M t0 t' s' (i + 1) (by unfold hkEnd; omega) ⟨tb, j1⟩ e4

/-- textpatch.Compose -/
def coM (p : List Hk) : List Md := midL 0 p []
def coR (p q : List Hk) : List Hk := col 0 none (evs 0 (coM p) q)
def coC (p q : List Hk) : Int := if pC p ≠ 0 then pC p else if pC q ≠ 0 then pC q else match confI 0 (coM p) q with
  | some _ => 19
  | none => if pC (coR p q) ≠ 0 then 10 else 0
def coI (p q : List Hk) : Int := if pC p ≠ 0 then pI p else if pC q ≠ 0 then -2 else match confI 0 (coM p) q with
  | some i => -3 - i
  | none => if pC (coR p q) ≠ 0 then -1 else 0
def coP (p q : List Hk) : List Hk := if coC p q = 0 then coR p q else []
theorem co_good {p q : List Hk} (h : coC p q = 0) : pC p = 0 ∧ pC q = 0 ∧ confI 0 (coM p) q = none ∧ pC (coR p q) = 0 ∧ coP p q = coR p q := by
  have h' := h
  unfold coC at h
  split at h
  · contradiction
  split at h
  · contradiction
  rename_i h1 h2
  split at h
  · exact absurd h (by decide)
  · rename_i h3
    split at h
    · exact absurd h (by decide)
    · rename_i h4
      exact ⟨Classical.not_not.1 h1, Classical.not_not.1 h2, h3, Classical.not_not.1 h4, if_pos h'⟩
theorem co_effect {p q : List Hk} {t : List ByteArray} (hp : (apF p t).1 = 0) (hq : (apF q (apL p t)).1 = 0) : (coC p q = 0 ∨ coC p q = 10) ∧ Ap (coR p q) 0 t (apL q (apL p t)) ∧ confI 0 (coM p) q = none := by
  obtain ⟨a1, a2, a3, a4, a5⟩ := ap_apply hp
  obtain ⟨b1, b2, b3, b4, b5⟩ := ap_apply hq
  have hM := mid_MR p 0 [] t (apL p t) (by omega) a3
  rw [List.nil_append] at hM
  have hc := conf_ap q 0 (coM p) t (apL p t) _ 0 (Int.le_refl _) ⟨t, hM⟩ b3
  refine ⟨?_, ev_ap (evs_ap q 0 _ t _ _ hM b3), hc⟩
  unfold coC
  rw [if_neg (by rw [a1]; decide), if_neg (by rw [b1]; decide), hc]
  dsimp only
  split
  · exact .inr rfl
  · exact .inl rfl
theorem co_apply {p q : List Hk} {t : List ByteArray} (hp : (apF p t).1 = 0) (hq : (apF q (apL p t)).1 = 0) (hc : coC p q = 0) : (apF (coP p q) t).1 = 0 ∧ apL (coP p q) t = apL q (apL p t) := by
  obtain ⟨-, h2, -⟩ := co_effect hp hq
  obtain ⟨k1, k2, k3, k4, k5⟩ := co_good hc
  obtain ⟨a1, a2, a3, a4, a5⟩ := ap_apply hp
  obtain ⟨b1, b2, b3, b4, b5⟩ := ap_apply hq
  rw [k5]
  exact apply_ok k4 a2 h2 b4
end Go.Proofs.Ythacjpemeaekdaa
