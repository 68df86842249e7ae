/- Plain: the lines of a formatted patch as events; what a reader of them collects. No program in sight. -/
import Derived.Test.YtppmhjaooiameaaDoorPrsStr
namespace Go.Proofs.YtppmhjaooiameaaDoor
open Go.RowKit

inductive Ev where
  | hd (a k b m : Int)
  | ln (s : Int) (x : ByteArray)
def mkE (s : Int) : UInt8 := if s = 0 then 32 else if s = 1 then 45 else 43
def evB : Ev → List UInt8
  | .hd a k b m => [64, 64, 32, 45] ++ side a k ++ [32, 43] ++ side b m ++ [32, 64, 64]
  | .ln s x => mkE s :: x.data.toList
def evT (l : List Ev) : List UInt8 := l.flatMap fun e => evB e ++ [10]
theorem evT_cons (e : Ev) (l : List Ev) : evT (e :: l) = evB e ++ ([10] ++ evT l) := by
  show (evB e ++ [10]) ++ evT l = _
  rw [List.append_assoc]
theorem evT_app (l m : List Ev) : evT (l ++ m) = evT l ++ evT m := List.flatMap_append
def cuD (at' : Int) (cu : Option Hk) (x : ByteArray) : Hk := match cu with
  | some h => (h.1, h.2.1 ++ [x], h.2.2)
  | none => (at', [x], [])
def cuI (at' : Int) (cu : Option Hk) (x : ByteArray) : Hk := match cu with
  | some h => (h.1, h.2.1, h.2.2 ++ [x])
  | none => (at', [], [x])
/-- what the events add behind the hunk that is open -/
def pCol : List Ev → Int → Option Hk → List Hk
  | [], _, cu => cu.toList
  | .hd a _ _ _ :: E, _, cu => cu.toList ++ pCol E a none
  | .ln s x :: E, at', cu => if s = 0 then cu.toList ++ pCol E (at' + 1) none else if s = 1 then pCol E (at' + 1) (some (cuD at' cu x)) else pCol E at' (some (cuI at' cu x))
def numOk (n : Int) : Prop := 0 ≤ n ∧ n ≤ 120
/-- that the reader takes the events -/
def pOk : List Ev → Int → Int → Int → Int → Bool → Option Hk → Prop
  | [], _, o, n, _, _, _ => o = 0 ∧ n = 0
  | .hd a k b m :: E, at', o, n, g, ad, cu => o = 0 ∧ n = 0 ∧ (0 ≤ a ∧ 0 ≤ b ∧ 0 ≤ k ∧ 0 ≤ m ∧ a + k ≤ 120 ∧ b + m ≤ 120 ∧ 0 < k + m) ∧ b - a = g ∧ (at' < a ∨ (at' = a ∧ cu = none)) ∧ pOk E a k m g (if at' < a then false else ad) none
  | .ln s x :: E, at', o, n, g, ad, cu => lineC x = 0 ∧ 0 ≤ o ∧ 0 ≤ n ∧ (if s = 0 then 0 < o ∧ 0 < n ∧ pOk E (at' + 1) (o - 1) (n - 1) g false none
      else if s = 1 then 0 < o ∧ ad = false ∧ pOk E (at' + 1) (o - 1) n (g - 1) false (some (cuD at' cu x))
      else 0 < n ∧ s = 2 ∧ pOk E at' o (n - 1) (g + 1) true (some (cuI at' cu x)))
/-! ### the events of a formatted patch -/
def lnE (s : Int) (l : List ByteArray) : List Ev := l.map (Ev.ln s)
def gbE (t : List ByteArray) (hi : Int) : Int → List Hk → List Ev
  | a, [] => lnE 0 (sub t a hi)
  | a, h :: q => lnE 0 (sub t a h.1) ++ lnE 1 h.2.1 ++ lnE 2 h.2.2 ++ gbE t hi (hkEnd h) q
def grpE (t : List ByteArray) (c g : Int) (q : List Hk) : List Ev :=
  let lo := gLow c (q.getD 0 (0, [], [])); let hi := gHigh t c (q.getD (q.length - 1) (0, [], []))
  .hd lo (hi - lo) (lo + g) (hi - lo + pGrow q) :: gbE t hi lo q
def fmE (t : List ByteArray) (c : Int) : Nat → Int → List Hk → List Ev
  | 0, _, _ => []
  | _ + 1, _, [] => []
  | n + 1, g, h :: r => grpE t c g ((h :: r).take (gn c h r)) ++ fmE t c n (g + pGrow ((h :: r).take (gn c h r))) ((h :: r).drop (gn c h r))
theorem lnE_T (s : Int) (l : List ByteArray) : evT (lnE s l) = pfx (mkE s) l := by
  unfold evT lnE pfx
  rw [List.flatMap_map]
  rfl
theorem gbE_T (t : List ByteArray) (hi : Int) : ∀ (q : List Hk) (a : Int), evT (gbE t hi a q) = gb t hi a q
  | [], a => lnE_T 0 _
  | h :: q, a => by
    show evT (lnE 0 (sub t a h.1) ++ lnE 1 h.2.1 ++ lnE 2 h.2.2 ++ gbE t hi (hkEnd h) q) = pfx 32 (sub t a h.1) ++ pfx 45 h.2.1 ++ pfx 43 h.2.2 ++ gb t hi (hkEnd h) q
    rw [evT_app, evT_app, evT_app, lnE_T, lnE_T, lnE_T, gbE_T t hi q]; rfl
theorem grpE_T (t : List ByteArray) (c g : Int) (q : List Hk) : evT (grpE t c g q) = grp t c g q := by
  unfold grpE grp
  dsimp only
  rw [evT_cons, gbE_T]
  simp only [evB, List.append_assoc]; rfl
theorem fmE_T (t : List ByteArray) (c : Int) : ∀ (n : Nat) (g : Int) (q : List Hk), evT (fmE t c n g q) = fm t c n g q
  | 0, _, _ => rfl
  | _ + 1, _, [] => rfl
  | n + 1, g, h :: r => by
    show evT (grpE t c g ((h :: r).take (gn c h r)) ++ fmE t c n _ _) = grp t c g ((h :: r).take (gn c h r)) ++ fm t c n _ _
    rw [evT_app, grpE_T, fmE_T t c n]
/-! ### reading the lines -/
theorem keepRun : ∀ (l : List ByteArray) (E : List Ev) (at' o n g : Int) (ad : Bool) (cu : Option Hk), (∀ x ∈ l, lineC x = 0) → (l.length : Int) ≤ o → (l.length : Int) ≤ n →
    pOk E (at' + l.length) (o - l.length) (n - l.length) g (if l = [] then ad else false) (if l = [] then cu else none) → pOk (lnE 0 l ++ E) at' o n g ad cu
  | [], E, at', o, n, g, ad, cu, _, _, _, h => by
    rw [if_pos rfl, if_pos rfl] at h
    simp only [List.length_nil, Int.natCast_zero, Int.add_zero, Int.sub_zero] at h
    exact h
  | x :: l, E, at', o, n, g, ad, cu, hx, ho, hn, h => by
    rw [List.length_cons] at ho hn h
    rw [if_neg (by simp), if_neg (by simp)] at h
    show pOk (.ln 0 x :: (lnE 0 l ++ E)) at' o n g ad cu
    refine ⟨hx x (by simp), by omega, by omega, ?_⟩
    rw [if_pos rfl]
    refine ⟨by omega, by omega, keepRun l E _ _ _ g false none (fun y hy => hx y (by simp [hy])) (by omega) (by omega) ?_⟩
    rw [ite_self, ite_self, show at' + 1 + (l.length : Int) = at' + ((l.length + 1 : Nat) : Int) from by omega, show o - 1 - (l.length : Int) = o - ((l.length + 1 : Nat) : Int) from by omega, show n - 1 - (l.length : Int) = n - ((l.length + 1 : Nat) : Int) from by omega]
    exact h
theorem keepCol : ∀ (l : List ByteArray) (E : List Ev) (at' : Int) (cu : Option Hk), pCol (lnE 0 l ++ E) at' cu = if l = [] then pCol E at' cu else cu.toList ++ pCol E (at' + l.length) none
  | [], E, at', cu => by rw [if_pos rfl]; rfl
  | x :: l, E, at', cu => by
    rw [if_neg (by simp)]
    show (if (0 : Int) = 0 then cu.toList ++ pCol (lnE 0 l ++ E) (at' + 1) none else _) = _
    rw [if_pos rfl, keepCol l E (at' + 1) none]
    split
    · rename_i e; subst e; rfl
    · rw [List.length_cons, show at' + 1 + (l.length : Int) = at' + ((l.length + 1 : Nat) : Int) from by omega]; rfl
theorem delRun : ∀ (l : List ByteArray) (E : List Ev) (at' o n g : Int) (h : Hk), (∀ x ∈ l, lineC x = 0) → (l.length : Int) ≤ o → 0 ≤ n →
    pOk E (at' + l.length) (o - l.length) n (g - l.length) false (some (h.1, h.2.1 ++ l, h.2.2)) → pOk (lnE 1 l ++ E) at' o n g false (some h)
  | [], E, at', o, n, g, h, _, _, _, q => by
    simp only [List.length_nil, Int.natCast_zero, Int.add_zero, Int.sub_zero, List.append_nil] at q
    exact q
  | x :: l, E, at', o, n, g, h, hx, ho, hn, q => by
    rw [List.length_cons] at ho q
    show pOk (.ln 1 x :: (lnE 1 l ++ E)) at' o n g false (some h)
    refine ⟨hx x (by simp), by omega, by omega, ?_⟩
    rw [if_neg (by decide), if_pos rfl]
    refine ⟨by omega, rfl, delRun l E _ _ _ _ _ (fun y hy => hx y (by simp [hy])) (by omega) hn ?_⟩
    rw [show at' + 1 + (l.length : Int) = at' + ((l.length + 1 : Nat) : Int) from by omega, show o - 1 - (l.length : Int) = o - ((l.length + 1 : Nat) : Int) from by omega, show g - 1 - (l.length : Int) = g - ((l.length + 1 : Nat) : Int) from by omega]
    show pOk _ _ _ _ _ _ (some (h.1, (h.2.1 ++ [x]) ++ l, h.2.2))
    rw [List.append_assoc]; exact q
theorem delCol : ∀ (l : List ByteArray) (E : List Ev) (at' : Int) (h : Hk), pCol (lnE 1 l ++ E) at' (some h) = pCol E (at' + l.length) (some (h.1, h.2.1 ++ l, h.2.2))
  | [], E, at', h => by simp [lnE]
  | x :: l, E, at', h => by
    show (if (1 : Int) = 0 then _ else if (1 : Int) = 1 then pCol (lnE 1 l ++ E) (at' + 1) (some (cuD at' (some h) x)) else _) = _
    rw [if_neg (by decide), if_pos rfl, delCol l E]
    rw [List.length_cons, show at' + 1 + (l.length : Int) = at' + ((l.length + 1 : Nat) : Int) from by omega]
    show pCol _ _ (some (h.1, (h.2.1 ++ [x]) ++ l, h.2.2)) = _
    rw [List.append_assoc]; rfl
theorem insRun : ∀ (l : List ByteArray) (E : List Ev) (at' o n g : Int) (ad : Bool) (h : Hk), (∀ x ∈ l, lineC x = 0) → (l.length : Int) ≤ n → 0 ≤ o →
    (∀ ad, pOk E at' o (n - l.length) (g + l.length) ad (some (h.1, h.2.1, h.2.2 ++ l))) → pOk (lnE 2 l ++ E) at' o n g ad (some h)
  | [], E, at', o, n, g, ad, h, _, _, _, q => by
    have q := q ad
    simp only [List.length_nil, Int.natCast_zero, Int.add_zero, Int.sub_zero, List.append_nil] at q
    exact q
  | x :: l, E, at', o, n, g, ad, h, hx, ho, hn, q => by
    rw [List.length_cons] at ho q
    show pOk (.ln 2 x :: (lnE 2 l ++ E)) at' o n g ad (some h)
    refine ⟨hx x (by simp), by omega, by omega, ?_⟩
    rw [if_neg (by decide), if_neg (by decide)]
    refine ⟨by omega, rfl, insRun l E _ _ _ _ _ _ (fun y hy => hx y (by simp [hy])) (by omega) hn fun ad => ?_⟩
    rw [show n - 1 - (l.length : Int) = n - ((l.length + 1 : Nat) : Int) from by omega, show g + 1 + (l.length : Int) = g + ((l.length + 1 : Nat) : Int) from by omega]
    show pOk _ _ _ _ _ _ (some (h.1, h.2.1, (h.2.2 ++ [x]) ++ l))
    rw [List.append_assoc]; exact q ad
theorem insCol : ∀ (l : List ByteArray) (E : List Ev) (at' : Int) (h : Hk), pCol (lnE 2 l ++ E) at' (some h) = pCol E at' (some (h.1, h.2.1, h.2.2 ++ l))
  | [], E, at', h => by simp [lnE]
  | x :: l, E, at', h => by
    show (if (2 : Int) = 0 then _ else if (2 : Int) = 1 then _ else pCol (lnE 2 l ++ E) at' (some (cuI at' (some h) x))) = _
    rw [if_neg (by decide), if_neg (by decide), insCol l E]
    show pCol _ _ (some (h.1, h.2.1, (h.2.2 ++ [x]) ++ l)) = _
    rw [List.append_assoc]; rfl
/-- one hunk -/
theorem hunkRun {o n : List ByteArray} (E : List Ev) (at' ol nw g : Int) (hne : 0 < o.length + n.length) (ho : ∀ x ∈ o, lineC x = 0) (hn : ∀ x ∈ n, lineC x = 0) (h1 : (o.length : Int) ≤ ol) (h2 : (n.length : Int) ≤ nw)
    (q : ∀ ad, pOk E (at' + o.length) (ol - o.length) (nw - n.length) (g - o.length + n.length) ad (some (at', o, n))) : pOk (lnE 1 o ++ (lnE 2 n ++ E)) at' ol nw g false none := by
  cases o with
  | cons x o =>
    rw [List.length_cons] at h1 q
    show pOk (.ln 1 x :: (lnE 1 o ++ (lnE 2 n ++ E))) at' ol nw g false none
    refine ⟨ho x (by simp), by omega, by omega, ?_⟩
    rw [if_neg (by decide), if_pos rfl]
    refine ⟨by omega, rfl, delRun o _ _ _ _ _ _ (fun y hy => ho y (by simp [hy])) (by omega) (by omega) ?_⟩
    refine insRun n E _ _ _ _ _ _ hn (by omega) (by omega) fun ad => ?_
    have := q ad
    rw [show at' + 1 + (o.length : Int) = at' + ((o.length + 1 : Nat) : Int) from by omega, show ol - 1 - (o.length : Int) = ol - ((o.length + 1 : Nat) : Int) from by omega, show g - 1 - (o.length : Int) + (n.length : Int) = g - ((o.length + 1 : Nat) : Int) + (n.length : Int) from by omega]
    exact this
  | nil =>
    cases n with
    | nil => exact absurd hne (by simp)
    | cons x n =>
      rw [List.length_cons] at h2 q
      show pOk (.ln 2 x :: (lnE 2 n ++ E)) at' ol nw g false none
      have h1 : (0 : Int) ≤ ol := h1
      refine ⟨hn x (by simp), by omega, by omega, ?_⟩
      rw [if_neg (by decide), if_neg (by decide)]
      refine ⟨by omega, rfl, insRun n E _ _ _ _ _ _ (fun y hy => hn y (by simp [hy])) (by omega) h1 fun ad => ?_⟩
      have := q ad
      rw [show (([] : List ByteArray).length : Int) = 0 from rfl, Int.add_zero, Int.sub_zero, Int.sub_zero] at this
      rw [show nw - 1 - (n.length : Int) = nw - ((n.length + 1 : Nat) : Int) from by omega, show g + 1 + (n.length : Int) = g + ((n.length + 1 : Nat) : Int) from by omega]
      exact this
theorem hunkCol {o n : List ByteArray} (E : List Ev) (at' : Int) (hne : 0 < o.length + n.length) : pCol (lnE 1 o ++ (lnE 2 n ++ E)) at' none = pCol E (at' + o.length) (some (at', o, n)) := by
  cases o with
  | cons x o =>
    show (if (1 : Int) = 0 then _ else if (1 : Int) = 1 then pCol (lnE 1 o ++ (lnE 2 n ++ E)) (at' + 1) (some (at', [x], [])) else _) = _
    rw [if_neg (by decide), if_pos rfl, delCol, insCol, List.length_cons, show at' + 1 + (o.length : Int) = at' + ((o.length + 1 : Nat) : Int) from by omega]; rfl
  | nil =>
    cases n with
    | nil => exact absurd hne (by simp)
    | cons x n =>
      show (if (2 : Int) = 0 then _ else if (2 : Int) = 1 then _ else pCol (lnE 2 n ++ E) at' (some (at', [], [x]))) = _
      rw [if_neg (by decide), if_neg (by decide), insCol]
      show _ = pCol E (at' + 0) _
      rw [Int.add_zero]; rfl

/-! ### groups -/
theorem sub_length {t : List ByteArray} {a b : Int} (h0 : 0 ≤ a) (h1 : a ≤ b) (h2 : b ≤ t.length) : ((sub t a b).length : Int) = b - a := by
  unfold sub
  rw [List.length_drop, List.length_take]
  omega
/-- hunks between two lines of a text, one behind the other -/
def seg (t : List ByteArray) (hi : Int) : Int → List Hk → Prop
  | a, [] => 0 ≤ a ∧ a ≤ hi ∧ hi ≤ t.length
  | a, h :: q => 0 ≤ a ∧ a ≤ h.1 ∧ h.1 ≤ t.length ∧ HkGood h ∧ (∀ k r, q = k :: r → hkEnd h < k.1) ∧ seg t hi (hkEnd h) q
theorem seg_bd {t : List ByteArray} {hi : Int} : ∀ (q : List Hk) (a : Int), seg t hi a q → 0 ≤ a ∧ a ≤ hi ∧ hi ≤ t.length ∧ 0 ≤ hi - a + pGrow q
  | [], a, h => by
    obtain ⟨h1, h2, h3⟩ := h
    show 0 ≤ a ∧ a ≤ hi ∧ hi ≤ t.length ∧ 0 ≤ hi - a + 0
    omega
  | k :: q, a, h => by
    obtain ⟨h1, h2, h3, h4, h5, h6⟩ := h
    obtain ⟨i1, i2, i3, i4⟩ := seg_bd q _ h6
    show 0 ≤ a ∧ a ≤ hi ∧ hi ≤ t.length ∧ 0 ≤ hi - a + (hkGrow k + pGrow q)
    unfold hkEnd at i1 i2 i4
    unfold hkGrow
    omega
theorem vC_lines {l : List ByteArray} (h : vC l = 0) : ∀ x ∈ l, lineC x = 0 := fun x hx => (lineC_ok x).2 (((vC_good l).1 h).2 x hx)
theorem gb_ok {t : List ByteArray} {hi : Int} (ht : ∀ x ∈ t, lineC x = 0) : ∀ (q : List Hk) (a g : Int) (ad : Bool) (cu : Option Hk) (E : List Ev), seg t hi a q → (∀ h r, q = h :: r → a = h.1 → cu = none ∧ ad = false) →
    (∀ ad cu, pOk E hi 0 0 (g + pGrow q) ad cu) → pOk (gbE t hi a q ++ E) a (hi - a) (hi - a + pGrow q) g ad cu
  | [], a, g, ad, cu, E, hs, _, hE => by
    obtain ⟨h1, h2, h3⟩ := hs
    have e := sub_length h1 h2 h3
    refine keepRun (sub t a hi) E _ _ _ _ _ _ (fun x hx => ht x (sub_mem hx)) (by omega) (by show _ ≤ hi - a + 0; omega) ?_
    have := hE (if sub t a hi = [] then ad else false) (if sub t a hi = [] then cu else none)
    have e0 : pGrow ([] : List Hk) = 0 := rfl
    rw [e0, Int.add_zero] at this ⊢
    rw [e, show a + (hi - a) = hi from by omega, show hi - a - (hi - a) = 0 from by omega]
    exact this
  | h :: q, a, g, ad, cu, E, hs, hc, hE => by
    obtain ⟨h1, h2, h3, ⟨g1, g2, g3, g4, g5, g6⟩, h5, h6⟩ := hs
    obtain ⟨i1, i2, i3, i4⟩ := seg_bd q _ h6
    have e := sub_length h1 h2 h3
    have e0 : pGrow (h :: q) = hkGrow h + pGrow q := rfl
    rw [e0] at hE ⊢
    unfold hkEnd at i1 i2 i4
    unfold hkGrow at hE ⊢
    show pOk (lnE 0 (sub t a h.1) ++ lnE 1 h.2.1 ++ lnE 2 h.2.2 ++ gbE t hi (hkEnd h) q ++ E) a _ _ g ad cu
    simp only [List.append_assoc]
    refine keepRun (sub t a h.1) _ _ _ _ _ _ _ (fun x hx => ht x (sub_mem hx)) (by omega) (by omega) ?_
    have ec : (if sub t a h.1 = [] then cu else none) = none := by
      split
      · rename_i e1
        rw [e1] at e
        exact (hc h q rfl (by simp only [List.length_nil] at e; omega)).1
      · rfl
    have ea : (if sub t a h.1 = [] then ad else false) = false := by
      split
      · rename_i e1
        rw [e1] at e
        exact (hc h q rfl (by simp only [List.length_nil] at e; omega)).2
      · rfl
    rw [ec, ea, e, show a + (h.1 - a) = h.1 from by omega]
    refine hunkRun _ _ _ _ _ g5 (vC_lines g3) (vC_lines g4) (by omega) (by omega) fun ad' => ?_
    have ih := gb_ok ht q (hkEnd h) (g - h.2.1.length + h.2.2.length) ad' (some (h.1, h.2.1, h.2.2)) E h6 (fun k r e1 e2 => by have := h5 k r e1; omega) (fun ad cu => by
      have := hE ad cu
      rw [show g + ((h.2.2.length : Int) - h.2.1.length + pGrow q) = g - h.2.1.length + h.2.2.length + pGrow q from by omega] at this
      exact this)
    unfold hkEnd at ih
    rw [show hi - a - (h.1 - a) - (h.2.1.length : Int) = hi - (h.1 + h.2.1.length) from by omega, show hi - a + ((h.2.2.length : Int) - h.2.1.length + pGrow q) - (h.1 - a) - h.2.2.length = hi - (h.1 + h.2.1.length) + pGrow q from by omega]
    exact ih
theorem gb_col {t : List ByteArray} {hi : Int} : ∀ (q : List Hk) (a : Int) (cu : Option Hk) (E : List Ev) (R : List Hk), seg t hi a q → (∀ h r, q = h :: r → a = h.1 → cu = none) →
    (∀ cu, pCol E hi cu = cu.toList ++ R) → pCol (gbE t hi a q ++ E) a cu = cu.toList ++ q ++ R
  | [], a, cu, E, R, hs, _, hE => by
    obtain ⟨h1, h2, h3⟩ := hs
    have e := sub_length h1 h2 h3
    show pCol (lnE 0 (sub t a hi) ++ E) a cu = _
    rw [keepCol]
    split
    · rename_i e1
      rw [e1] at e
      simp only [List.length_nil] at e
      rw [show a = hi from by omega, hE, List.append_nil]
    · rw [e, show a + (hi - a) = hi from by omega, hE, List.append_nil]; rfl
  | h :: q, a, cu, E, R, hs, hc, hE => by
    obtain ⟨h1, h2, h3, ⟨g1, g2, g3, g4, g5, g6⟩, h5, h6⟩ := hs
    have e := sub_length h1 h2 h3
    show pCol (lnE 0 (sub t a h.1) ++ lnE 1 h.2.1 ++ lnE 2 h.2.2 ++ gbE t hi (hkEnd h) q ++ E) a cu = _
    simp only [List.append_assoc]
    have ih := gb_col q (hkEnd h) (some (h.1, h.2.1, h.2.2)) E R h6 (fun k r e1 e2 => by have := h5 k r e1; omega) hE
    have hk := hunkCol (o := h.2.1) (n := h.2.2) (gbE t hi (hkEnd h) q ++ E) h.1 g5
    rw [show h.1 + (h.2.1.length : Int) = hkEnd h from rfl, ih] at hk
    rw [keepCol]
    split
    · rename_i e1
      rw [e1] at e
      simp only [List.length_nil] at e
      have ea : a = h.1 := by omega
      rw [hc h q rfl ea, ea, hk]
      show ([] ++ [h]) ++ q ++ R = _
      simp
    · rw [e, show a + (h.1 - a) = h.1 from by omega, hk]
      simp
end Go.Proofs.YtppmhjaooiameaaDoor
