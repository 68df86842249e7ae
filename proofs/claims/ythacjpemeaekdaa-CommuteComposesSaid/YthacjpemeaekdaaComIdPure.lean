/- Plain: the composition with the empty patch is the patch; what a composition costs. -/
import Derived.Test.YthacjpemeaekdaaComBd
import Derived.Test.YthacjpemeaekdaaUndoPure
namespace Go.Proofs.Ythacjpemeaekdaa
open Go.RowKit

theorem col_dels : ∀ (g : List ByteArray) (a : Int) (c : Hk) (X : List (Int × ByteArray)), col a (some c) (g.map (fun x => ((1 : Int), x)) ++ X) = col (a + g.length) (some (c.1, c.2.1 ++ g, c.2.2)) X
  | [], a, c, X => by simp
  | x :: g, a, c, X => by
    show col a (some c) ((1, x) :: (g.map (fun x => ((1 : Int), x)) ++ X)) = _
    rw [col_del, col_dels g]
    show col (a + 1 + g.length) (some (c.1, (c.2.1 ++ [x]) ++ g, c.2.2)) X = _
    rw [List.append_assoc, List.length_cons, show a + 1 + (g.length : Int) = a + ((g.length + 1 : Nat) : Int) by omega]
    rfl
theorem col_inss : ∀ (l : List ByteArray) (a : Int) (c : Hk) (X : List (Int × ByteArray)), col a (some c) (l.map (fun x => ((2 : Int), x)) ++ X) = col a (some (c.1, c.2.1, c.2.2 ++ l)) X
  | [], a, c, X => by simp
  | x :: l, a, c, X => by
    show col a (some c) ((2, x) :: (l.map (fun x => ((2 : Int), x)) ++ X)) = _
    rw [col_ins, col_inss l]
    show col a (some (c.1, c.2.1, (c.2.2 ++ [x]) ++ l)) X = _
    rw [List.append_assoc]
    rfl
theorem col_hunk1 {o n : List ByteArray} (h : 0 < o.length + n.length) (a : Int) (X : List (Int × ByteArray)) : col a none (o.map (fun x => ((1 : Int), x)) ++ (n.map (fun x => ((2 : Int), x)) ++ X)) = col (a + o.length) (some (a, o, n)) X := by
  cases o with
  | nil =>
    cases n with
    | nil => simp at h
    | cons y n =>
      show col a none ((2, y) :: (n.map (fun x => ((2 : Int), x)) ++ X)) = _
      rw [col_ins, col_inss n]
      show col a (some (a, [], [y] ++ n)) X = col (a + 0) (some (a, [], y :: n)) X
      rw [Int.add_zero]; rfl
  | cons x o =>
    show col a none ((1, x) :: (o.map (fun x => ((1 : Int), x)) ++ (n.map (fun x => ((2 : Int), x)) ++ X))) = _
    rw [col_del, col_dels o, col_inss n, List.length_cons, show a + 1 + (o.length : Int) = a + ((o.length + 1 : Nat) : Int) by omega]
    rfl
theorem col_hunk2 {o n : List ByteArray} (h : 0 < o.length + n.length) (a : Int) (X : List (Int × ByteArray)) : col a none (n.map (fun x => ((2 : Int), x)) ++ (o.map (fun x => ((1 : Int), x)) ++ X)) = col (a + o.length) (some (a, o, n)) X := by
  cases n with
  | nil =>
    cases o with
    | nil => simp at h
    | cons x o =>
      show col a none ((1, x) :: (o.map (fun x => ((1 : Int), x)) ++ X)) = _
      rw [col_del, col_dels o, List.length_cons, show a + 1 + (o.length : Int) = a + ((o.length + 1 : Nat) : Int) by omega]
      rfl
  | cons y n =>
    show col a none ((2, y) :: (n.map (fun x => ((2 : Int), x)) ++ (o.map (fun x => ((1 : Int), x)) ++ X))) = _
    rw [col_ins, col_inss n, col_dels o]
    rfl
/-- plain lines with nothing ahead of them -/
def keeps (n : Nat) : List (Int × ByteArray) := (plainL n []).flatMap kev
theorem keeps_succ (n : Nat) : keeps (n + 1) = (0, ByteArray.empty) :: keeps n := rfl
theorem col_plain : ∀ (n : Nat) (a : Int) (X : List (Int × ByteArray)), col a none (keeps n ++ X) = col (a + n) none X
  | 0, a, X => by rw [show a + ((0 : Nat) : Int) = a by omega]; rfl
  | n + 1, a, X => by
    rw [keeps_succ]
    show col a none ((0, ByteArray.empty) :: (keeps n ++ X)) = _
    rw [col_keep, col_plain n, show a + 1 + (n : Int) = a + ((n + 1 : Nat) : Int) by omega]
    rfl
theorem insL_nil : ∀ (l : List ByteArray), (insL l []).flatMap kev = l.map (fun x => ((2 : Int), x))
  | [] => rfl
  | x :: l => by
    show kev (true, x, []) ++ (insL l []).flatMap kev = _
    rw [insL_nil l]; rfl
theorem insL_ev (y : ByteArray) (l g : List ByteArray) : (insL (y :: l) g).flatMap kev = g.map (fun x => ((1 : Int), x)) ++ (y :: l).map (fun x => ((2 : Int), x)) := by
  show kev (true, y, g) ++ (insL l []).flatMap kev = _
  rw [insL_nil l]
  show (g.map (fun x => ((1 : Int), x)) ++ [(2, y)]) ++ _ = _
  rw [List.append_assoc]
  rfl
theorem plain_ev (n : Nat) (g : List ByteArray) : (plainL (n + 1) g).flatMap kev = g.map (fun x => ((1 : Int), x)) ++ (0, ByteArray.empty) :: keeps n := by
  show kev (false, ByteArray.empty, g) ++ (plainL n []).flatMap kev = _
  unfold kev
  rw [List.append_assoc]
  rfl
/-- one hunk, and what comes behind it -/
theorem mid_hunk {h : Hk} {p : List Hk} (hg : 0 < h.2.1.length + h.2.2.length)
    (ih : ∀ (g : List ByteArray) (cu : Option Hk), (∀ X, col (hkEnd h - g.length) cu (g.map (fun x => ((1 : Int), x)) ++ X) = col (hkEnd h) (some h) X) → col (hkEnd h - g.length) cu ((midL (hkEnd h) p g).flatMap kev) = h :: p) :
    col h.1 none ((insL h.2.2 h.2.1).flatMap kev ++ (midL (hkEnd h) p (insG h.2.2 h.2.1)).flatMap kev) = h :: p := by
  rcases h with ⟨a, o, n⟩
  dsimp only at hg ih ⊢
  cases n with
  | nil =>
    have i := ih o none (fun X => by
      have := col_hunk1 hg a X
      rw [show hkEnd (a, o, ([] : List ByteArray)) = a + o.length from rfl, show a + (o.length : Int) - o.length = a by omega]
      exact this)
    rw [show hkEnd (a, o, ([] : List ByteArray)) - o.length = a by unfold hkEnd; dsimp only; omega] at i
    exact i
  | cons y n =>
    have i := ih [] (some (a, o, y :: n)) (fun X => by
      show col (hkEnd (a, o, y :: n) - 0) _ X = _
      rw [Int.sub_zero])
    rw [insL_ev]
    show col a none ((o.map (fun x => ((1 : Int), x)) ++ (y :: n).map (fun x => ((2 : Int), x))) ++ (midL (hkEnd (a, o, y :: n)) p []).flatMap kev) = _
    rw [List.append_assoc, col_hunk1 hg]
    have i : col (hkEnd (a, o, y :: n) - 0) (some (a, o, y :: n)) ((midL (hkEnd (a, o, y :: n)) p []).flatMap kev) = _ := i
    rw [Int.sub_zero] at i
    exact i
theorem mid_id : ∀ (p : List Hk) (b : Int) (h : Hk) (g : List ByteArray) (cu : Option Hk), ch b p → (∀ x ∈ p, 0 < x.2.1.length + x.2.2.length) → (∀ X, col (b - g.length) cu (g.map (fun x => ((1 : Int), x)) ++ X) = col b (some h) X) → col (b - g.length) cu ((midL b p g).flatMap kev) = h :: p
  | [], b, h, g, cu, _, _, hP => by
    show col _ cu ((plainL (479 + 1) g).flatMap kev) = _
    rw [plain_ev, hP, col_keep]
    have : col (b + 1) none (keeps 479 ++ []) = [] := by rw [col_plain]; rfl
    rw [List.append_nil] at this
    rw [this]; rfl
  | h' :: p, b, h, g, cu, ⟨c1, c2⟩, hp, hP => by
    obtain ⟨n, hn⟩ : ∃ n, (h'.1 - b).toNat = n + 1 := ⟨(h'.1 - b).toNat - 1, by omega⟩
    have hm := mid_hunk (p := p) (hp h' (by simp)) (fun g cu q => mid_id p (hkEnd h') h' g cu c2 (fun x hx => hp x (by simp [hx])) q)
    rw [midL, hn]
    show col _ cu (((plainL (n + 1) g ++ insL h'.2.2 ([] ++ h'.2.1)) ++ midL (hkEnd h') p (insG h'.2.2 ([] ++ h'.2.1))).flatMap kev) = _
    rw [List.nil_append, List.flatMap_append, List.flatMap_append, plain_ev, List.append_assoc, List.append_assoc, hP]
    show col b (some h) ((0, ByteArray.empty) :: (keeps n ++ _)) = _
    rw [col_keep, col_plain, show b + 1 + (n : Int) = h'.1 by omega, hm]
    rfl
theorem co_nil_right {p : List Hk} (hp : pC p = 0) : coR p [] = p := by
  obtain ⟨-, p2, p3⟩ := pC_iff.1 hp
  have hz : ∀ x ∈ p, 0 < x.2.1.length + x.2.2.length := fun x hx => (p3 x hx).2.2.2.2.1
  show col 0 none ((midL 0 p []).flatMap kev) = p
  cases p with
  | nil =>
    have : col 0 none (keeps 480 ++ []) = [] := by rw [col_plain]; rfl
    rw [List.append_nil] at this
    exact this
  | cons h p =>
    obtain ⟨c1, c2⟩ := p2
    have hm := mid_hunk (p := p) (hz h (by simp)) (fun g cu q => mid_id p (hkEnd h) h g cu c2 (fun x hx => hz x (by simp [hx])) q)
    have eg : plainG (h.1 - 0).toNat ([] : List ByteArray) = [] := by cases (h.1 - 0).toNat <;> rfl
    rw [midL, eg, List.nil_append, List.flatMap_append, List.flatMap_append, List.append_assoc]
    show col 0 none (keeps (h.1 - 0).toNat ++ _) = _
    rw [col_plain, show (0 : Int) + ((h.1 - 0).toNat : Int) = h.1 by omega, hm]
theorem plain_take {m n : Nat} (h : n ≤ m) : (plainL m []).take n = plainL n [] := by
  induction n generalizing m with
  | zero => rfl
  | succ n ih =>
    cases m with
    | zero => omega
    | succ m => show _ :: (plainL m []).take n = _ :: plainL n []; rw [ih (by omega)]
theorem plain_drop {m n : Nat} : (plainL m []).drop n = plainL (m - n) [] := by
  induction n generalizing m with
  | zero => rfl
  | succ n ih =>
    cases m with
    | zero => simp [plainL]
    | succ m => show (plainL m []).drop n = _; rw [ih]; congr 1; omega
theorem plain_devs : ∀ (o : List ByteArray) (m : Nat), o.length ≤ m → devs (plainL m []) o = o.map (fun x => ((1 : Int), x))
  | [], m, _ => by cases m <;> rfl
  | x :: o, 0, h => by simp at h
  | x :: o, m + 1, h => by
    show (1, x) :: devs (plainL m []) o = (1, x) :: o.map _
    rw [plain_devs o m (by simpa using h)]
theorem plain_bad : ∀ (o : List ByteArray) (m : Nat), bad (plainL m []) o = false
  | [], m => by cases m <;> rfl
  | x :: o, 0 => rfl
  | x :: o, m + 1 => by show (false && _ || bad (plainL m []) o) = false; rw [plain_bad o m]; rfl
theorem plain_conf : ∀ (q : List Hk) (i m : Nat), confI i (plainL m []) q = none
  | [], _, _ => rfl
  | h :: q, i, m => by
    rw [confI, plain_drop, plain_bad, if_neg (by simp), plain_conf q]
/-- one hunk of the second patch on plain lines, and what comes behind it -/
theorem pl_hunk {h : Hk} {q : List Hk} (hg : 0 < h.2.1.length + h.2.2.length) (h1 : 0 ≤ h.1) (hb : hkEnd h ≤ 120)
    (ih : col (hkEnd h) (some h) (evs (hkEnd h) (plainL (480 - (hkEnd h).toNat) []) q) = h :: q) :
    col h.1 none (h.2.2.map (fun x => ((2 : Int), x)) ++ (devs (plainL (480 - h.1.toNat) []) h.2.1 ++ evs (hkEnd h) (plainL (480 - (hkEnd h).toNat) []) q)) = h :: q := by
  rcases h with ⟨a, o, n⟩
  dsimp only at hg ih h1 ⊢
  unfold hkEnd at hb
  rw [plain_devs o _ (by dsimp only at hb; omega), col_hunk2 hg]
  exact ih
theorem pl_id : ∀ (q : List Hk) (b : Int) (h : Hk), 0 ≤ b → b ≤ 120 → ch b q → (∀ x ∈ q, 0 < x.2.1.length + x.2.2.length ∧ hkEnd x ≤ 120) → col b (some h) (evs b (plainL (480 - b.toNat) []) q) = h :: q
  | [], b, h, h0, h1, _, _ => by
    obtain ⟨m, hm⟩ : ∃ m, 480 - b.toNat = m + 1 := ⟨480 - b.toNat - 1, by omega⟩
    rw [evs, hm, plain_ev]
    show col b (some h) ((0, ByteArray.empty) :: keeps m) = _
    rw [col_keep]
    have : col (b + 1) none (keeps m ++ []) = [] := by rw [col_plain]; rfl
    rw [List.append_nil] at this
    rw [this]; rfl
  | h' :: q, b, h, h0, h1, ⟨c1, c2⟩, hq => by
    have e := hkEnd_ge h'
    obtain ⟨q1, q2⟩ := hq h' (by simp)
    obtain ⟨n, hn⟩ : ∃ n, (h'.1 - b).toNat = n + 1 := ⟨(h'.1 - b).toNat - 1, by omega⟩
    have hm := pl_hunk (q := q) q1 (by omega) q2 (pl_id q (hkEnd h') h' (by omega) q2 c2 fun x hx => hq x (by simp [hx]))
    rw [evs, hn, plain_take (by omega), plain_drop, plain_drop, plain_ev]
    show col b (some h) ((0, ByteArray.empty) :: (keeps n ++ _)) = _
    rw [col_keep, col_plain, show b + 1 + (n : Int) = h'.1 by omega, show 480 - b.toNat - (n + 1) = 480 - h'.1.toNat by omega, show 480 - b.toNat - (hkEnd h' - b).toNat = 480 - (hkEnd h').toNat by omega, hm]
    rfl
theorem co_nil_left {p : List Hk} (hp : pC p = 0) : coR [] p = p := by
  obtain ⟨-, p2, p3⟩ := pC_iff.1 hp
  have hz : ∀ x ∈ p, 0 < x.2.1.length + x.2.2.length ∧ hkEnd x ≤ 120 := fun x hx => ⟨(p3 x hx).2.2.2.2.1, (p3 x hx).2.2.2.2.2⟩
  show col 0 none (evs 0 (plainL 480 []) p) = p
  cases p with
  | nil =>
    have : col 0 none (keeps 480 ++ []) = [] := by rw [col_plain]; rfl
    rw [List.append_nil] at this
    exact this
  | cons h p =>
    obtain ⟨c1, c2⟩ := p2
    have e := hkEnd_ge h
    obtain ⟨q1, q2⟩ := hz h (by simp)
    have hm := pl_hunk (q := p) q1 (by omega) q2 (pl_id p (hkEnd h) h (by omega) q2 c2 fun x hx => hz x (by simp [hx]))
    rw [evs, plain_take (by omega), plain_drop, plain_drop]
    show col 0 none (keeps (h.1 - 0).toNat ++ _) = _
    rw [col_plain, show (0 : Int) + ((h.1 - 0).toNat : Int) = h.1 by omega, show 480 - (h.1 - 0).toNat = 480 - h.1.toNat by omega, show 480 - (hkEnd h - 0).toNat = 480 - (hkEnd h).toNat by omega, hm]
theorem id_right {p : List Hk} (hp : pC p = 0) : coC p [] = 0 ∧ coP p [] = p := by
  have h : coC p [] = 0 := by
    unfold coC
    rw [if_neg (by simp [hp]), if_neg (by decide)]
    show (if pC (coR p []) ≠ 0 then (10 : Int) else 0) = 0
    rw [co_nil_right hp, if_neg (by simp [hp])]
  exact ⟨h, by unfold coP; rw [if_pos h, co_nil_right hp]⟩
theorem id_left {p : List Hk} (hp : pC p = 0) : coC [] p = 0 ∧ coP [] p = p := by
  have h : coC [] p = 0 := by
    unfold coC
    rw [if_neg (by decide), if_neg (by simp [hp]), show confI 0 (coM []) p = none from plain_conf p 0 480]
    show (if pC (coR [] p) ≠ 0 then (10 : Int) else 0) = 0
    rw [co_nil_left hp, if_neg (by simp [hp])]
  exact ⟨h, by unfold coP; rw [if_pos h, co_nil_left hp]⟩
end Go.Proofs.Ythacjpemeaekdaa
