/- Plain: exchanging patches. -/
import Derived.Test.YthacjpemeaekdaaApPure
namespace Go.Proofs.Ythacjpemeaekdaa
open Go.RowKit

/-- a range: low, high, growth -/
abbrev Rg : Type := Int × Int × Int
def rgOld (h : Hk) : Rg := (h.1, hkEnd h, hkGrow h)
def rgNew (g : Int) (h : Hk) : Rg := (h.1 + g, h.1 + g + h.2.2.length, hkGrow h)
def oldR (p : List Hk) : List Rg := p.map rgOld
def newR : Int → List Hk → List Rg
  | _, [] => []
  | g, h :: p => rgNew g h :: newR (g + hkGrow h) p
def touch (a b : Rg) : Bool := decide (b.1 ≤ a.2.1) && decide (a.1 ≤ b.2.1)
def meet (a b : List Rg) : Bool := a.any fun x => b.any fun y => touch x y
def dl : List Rg → Int → Int
  | [], _ => 0
  | r :: l, x => (if r.2.1 < x then r.2.2 else 0) + dl l x
def shiftH (l : List Rg) (s : Int) (h : Hk) : Hk := (h.1 + s * dl l h.1, h.2)
def shiftP (p : List Hk) (l : List Rg) (s : Int) : List Hk := p.map (shiftH l s)

theorem touch_comm (a b : Rg) : touch a b = touch b a := by unfold touch; rw [Bool.and_comm]
theorem meet_iff {a b : List Rg} : meet a b = false ↔ ∀ x ∈ a, ∀ y ∈ b, touch x y = false := by
  unfold meet
  simp [List.any_eq_false]
theorem meet_comm (a b : List Rg) : meet a b = meet b a := by
  cases h : meet b a with
  | false =>
    rw [meet_iff] at h ⊢
    intro x hx y hy
    rw [touch_comm]
    exact h y hy x hx
  | true =>
    cases h' : meet a b with
    | true => rfl
    | false =>
      exfalso
      rw [meet_iff] at h'
      have : meet b a = false := meet_iff.2 fun x hx y hy => by rw [touch_comm]; exact h' y hy x hx
      rw [h] at this; cases this

abbrev Mxl : Type := List (Bool × Hk)
def pj (b : Bool) : Mxl → List Hk
  | [] => []
  | (c, h) :: M => bif c == b then h :: pj b M else pj b M
/-- the hunks marked b, moved by g and by what the others ahead of them grow -/
def sh (b : Bool) : Int → Mxl → List Hk
  | _, [] => []
  | g, (c, h) :: M => bif c == b then (h.1 + g, h.2) :: sh b g M else sh b (g + hkGrow h) M
def sep : Int → Mxl → Prop
  | _, [] => True
  | e, x :: M => e < x.2.1 ∧ sep (hkEnd x.2) M
def un (M : Mxl) : List Hk := M.map Prod.snd
def sw (M : Mxl) : Mxl := M.map fun x => (!x.1, x.2)
theorem pj_sw : ∀ (M : Mxl) (b : Bool), pj b (sw M) = pj (!b) M
  | [], _ => rfl
  | (c, h) :: M, b => by
    show (bif (!c) == b then h :: pj b (sw M) else pj b (sw M)) = bif c == (!b) then h :: pj (!b) M else pj (!b) M
    rw [pj_sw M b]
    cases c <;> cases b <;> rfl
theorem sh_sw : ∀ (M : Mxl) (b : Bool) (g : Int), sh b g (sw M) = sh (!b) g M
  | [], _, _ => rfl
  | (c, h) :: M, b, g => by
    show (bif (!c) == b then (h.1 + g, h.2) :: sh b g (sw M) else sh b (g + hkGrow h) (sw M)) = bif c == (!b) then (h.1 + g, h.2) :: sh (!b) g M else sh (!b) (g + hkGrow h) M
    rw [sh_sw M b g, sh_sw M b (g + hkGrow h)]
    cases c <;> cases b <;> rfl
theorem sep_sw : ∀ (M : Mxl) (e : Int), sep e M → sep e (sw M)
  | [], _, _ => True.intro
  | _ :: M, _, h => ⟨h.1, sep_sw M _ h.2⟩
theorem un_sw : ∀ (M : Mxl), un (sw M) = un M
  | [] => rfl
  | x :: M => by
    show x.2 :: un (sw M) = x.2 :: un M
    rw [un_sw M]
theorem sep_le {e e' : Int} (h : e' ≤ e) : ∀ {M : Mxl}, sep e M → sep e' M
  | [], _ => True.intro
  | _ :: _, q => ⟨by have := q.1; omega, q.2⟩
theorem sep_pj : ∀ (M : Mxl) (b : Bool) (e : Int), sep e M → ch e (pj b M)
  | [], _, _, _ => True.intro
  | (c, h) :: M, b, e, q => by
    show ch e (bif c == b then h :: pj b M else pj b M)
    have ih := sep_pj M b _ q.2
    cases (c == b) with
    | true => exact ⟨q.1, ih⟩
    | false => exact ch_le (by have := q.1; have := hkEnd_ge h; dsimp only at *; omega) ih
theorem sh_low : ∀ (M : Mxl) (b : Bool) (e g : Int), sep e M → ∀ h ∈ sh b g M, e + g < h.1
  | [], _, _, _, _, h, hm => by simp [sh] at hm
  | (c, k) :: M, b, e, g, q, h, hm => by
    obtain ⟨q1, q2⟩ := q
    replace q1 : e < k.1 := q1
    replace q2 : sep (hkEnd k) M := q2
    have hm : h ∈ (bif c == b then (k.1 + g, k.2) :: sh b g M else sh b (g + hkGrow k) M) := hm
    cases hcb : (c == b) with
    | true =>
      rw [hcb] at hm
      rcases List.mem_cons.1 hm with rfl | hm
      · show e + g < k.1 + g; omega
      · have := sh_low M b _ g q2 h hm
        have := hkEnd_ge k
        omega
    | false =>
      rw [hcb] at hm
      have := sh_low M b _ (g + hkGrow k) q2 h hm
      unfold hkEnd hkGrow at this
      omega
theorem newR_low : ∀ (p : List Hk) (e g : Int), ch e p → ∀ r ∈ newR g p, e + g < r.1 ∧ e + g < r.2.1
  | [], _, _, _, r, hm => by simp [newR] at hm
  | k :: p, e, g, q, r, hm => by
    obtain ⟨q1, q2⟩ := q
    rcases List.mem_cons.1 (show r ∈ rgNew g k :: newR (g + hkGrow k) p from hm) with rfl | hm
    · unfold rgNew; dsimp only; omega
    · have := newR_low p _ (g + hkGrow k) q2 r hm
      unfold hkEnd hkGrow at this
      omega
theorem oldR_low {p : List Hk} {e : Int} (h : ch e p) : ∀ r ∈ oldR p, e < r.1 ∧ e < r.2.1 := by
  intro r hr
  obtain ⟨k, hk, rfl⟩ := List.mem_map.1 hr
  have := ch_all h k hk
  have := hkEnd_ge k
  unfold rgOld
  dsimp only
  omega
theorem dl_zero {x : Int} : ∀ {l : List Rg}, (∀ r ∈ l, ¬ r.2.1 < x) → dl l x = 0
  | [], _ => rfl
  | r :: l, h => by
    unfold dl
    rw [if_neg (h r (by simp)), dl_zero fun q hq => h q (by simp [hq])]
    rfl
theorem dl_pos {r : Rg} {l : List Rg} {x : Int} (h : r.2.1 < x) : dl (r :: l) x = r.2.2 + dl l x := by
  show (if r.2.1 < x then r.2.2 else 0) + dl l x = _
  rw [if_pos h]
theorem dl_neg {r : Rg} {l : List Rg} {x : Int} (h : ¬ r.2.1 < x) : dl (r :: l) x = dl l x := by
  show (if r.2.1 < x then r.2.2 else 0) + dl l x = _
  rw [if_neg h, Int.zero_add]

theorem mix : ∀ (p q : List Hk) (e g : Int), ch e p → ch (e + g) q → (∀ x ∈ newR g p, ∀ y ∈ oldR q, touch x y = false) → ∃ M, sep e M ∧ pj true M = p ∧ sh false g M = q
  | [], [], _, _, _, _, _ => ⟨[], True.intro, rfl, rfl⟩
  | h :: p, [], e, g, hp, hq, hm => by
    obtain ⟨M, m1, m2, m3⟩ := mix p [] (hkEnd h) (g + hkGrow h) hp.2 True.intro (fun x _ y hy => by simp [oldR] at hy)
    exact ⟨(true, h) :: M, ⟨hp.1, m1⟩, congrArg (h :: ·) m2, m3⟩
  | [], k :: q, e, g, hp, hq, hm => by
    obtain ⟨M, m1, m2, m3⟩ := mix [] q (hkEnd (k.1 - g, k.2)) g True.intro (ch_le (by unfold hkEnd; dsimp only; omega) hq.2) (fun x hx => by simp [newR] at hx)
    refine ⟨(false, (k.1 - g, k.2)) :: M, ⟨by have := hq.1; show e < k.1 - g; omega, m1⟩, m2, ?_⟩
    show (k.1 - g + g, k.2) :: sh false g M = k :: q
    rw [m3, Int.sub_add_cancel]
  | h :: p, k :: q, e, g, hp, hq, hm => by
    have ht := hm (rgNew g h) (by simp [newR]) (rgOld k) (by simp [oldR])
    unfold touch rgNew rgOld at ht
    simp only [Bool.and_eq_false_iff, decide_eq_false_iff_not] at ht
    by_cases hc : h.1 + g + h.2.2.length < k.1
    · obtain ⟨M, m1, m2, m3⟩ := mix p (k :: q) (hkEnd h) (g + hkGrow h) hp.2 ⟨by unfold hkEnd hkGrow; omega, hq.2⟩ (fun x hx y hy => hm x (by unfold newR; exact List.mem_cons_of_mem _ hx) y hy)
      exact ⟨(true, h) :: M, ⟨hp.1, m1⟩, congrArg (h :: ·) m2, m3⟩
    · have hk : hkEnd k < h.1 + g := by omega
      obtain ⟨M, m1, m2, m3⟩ := mix (h :: p) q (hkEnd (k.1 - g, k.2)) g ⟨by unfold hkEnd at hk ⊢; dsimp only; omega, hp.2⟩ (ch_le (by unfold hkEnd; dsimp only; omega) hq.2) (fun x hx y hy => hm x hx y (by unfold oldR; rw [List.map_cons]; exact List.mem_cons_of_mem _ hy))
      refine ⟨(false, (k.1 - g, k.2)) :: M, ⟨by have := hq.1; show e < k.1 - g; omega, m1⟩, m2, ?_⟩
      show (k.1 - g + g, k.2) :: sh false g M = k :: q
      rw [m3, Int.sub_add_cancel]
  termination_by p q => p.length + q.length
theorem mix_meet : ∀ (M : Mxl) (e g : Int), sep e M → ∀ x ∈ newR g (pj true M), ∀ y ∈ oldR (sh false g M), touch x y = false
  | [], _, _, _, x, hx, _, _ => by simp [pj, newR] at hx
  | (true, h) :: M, e, g, q, x, hx, y, hy => by
    obtain ⟨q1, q2⟩ := q
    replace q2 : sep (hkEnd h) M := q2
    have hy : y ∈ oldR (sh false (g + hkGrow h) M) := hy
    rcases List.mem_cons.1 (show x ∈ rgNew g h :: newR (g + hkGrow h) (pj true M) from hx) with rfl | hx
    · obtain ⟨k, hk, rfl⟩ := List.mem_map.1 hy
      have := sh_low M false _ (g + hkGrow h) q2 k hk
      unfold touch rgNew rgOld
      simp only [Bool.and_eq_false_iff, decide_eq_false_iff_not]
      unfold hkEnd hkGrow at this
      omega
    · exact mix_meet M _ _ q2 x hx y hy
  | (false, h) :: M, e, g, q, x, hx, y, hy => by
    obtain ⟨q1, q2⟩ := q
    replace q2 : sep (hkEnd h) M := q2
    have hx : x ∈ newR g (pj true M) := hx
    rcases List.mem_cons.1 (show y ∈ rgOld (h.1 + g, h.2) :: oldR (sh false g M) from hy) with rfl | hy
    · have := newR_low _ _ g (sep_pj M true _ q2) x hx
      unfold touch rgOld
      simp only [Bool.and_eq_false_iff, decide_eq_false_iff_not]
      unfold hkEnd at this ⊢
      dsimp only
      omega
    · exact mix_meet M _ _ q2 x hx y hy
/-- the second patch, in front -/
theorem shift_first : ∀ (M : Mxl) (e g : Int), sep e M → shiftP (sh false g M) (newR g (pj true M)) (-1) = (pj false M).map fun h => (h.1 + g, h.2)
  | [], _, _, _ => rfl
  | (true, h) :: M, e, g, q => by
    obtain ⟨q1, q2⟩ := q
    replace q2 : sep (hkEnd h) M := q2
    show (sh false (g + hkGrow h) M).map (shiftH (rgNew g h :: newR (g + hkGrow h) (pj true M)) (-1)) = (pj false M).map fun h => (h.1 + g, h.2)
    have ih := shift_first M _ (g + hkGrow h) q2
    have e1 : (sh false (g + hkGrow h) M).map (shiftH (rgNew g h :: newR (g + hkGrow h) (pj true M)) (-1)) = ((sh false (g + hkGrow h) M).map (shiftH (newR (g + hkGrow h) (pj true M)) (-1))).map fun h' => (h'.1 - hkGrow h, h'.2) := by
      rw [List.map_map]
      refine List.map_congr_left fun k hk => ?_
      have := sh_low M false _ (g + hkGrow h) q2 k hk
      unfold shiftH
      rw [dl_pos (by unfold rgNew; unfold hkEnd hkGrow at this; dsimp only; omega)]
      show _ = (k.1 + -1 * dl (newR (g + hkGrow h) (pj true M)) k.1 - hkGrow h, k.2)
      unfold rgNew
      dsimp only
      congr 1
      omega
    rw [e1]
    have ih : (sh false (g + hkGrow h) M).map (shiftH (newR (g + hkGrow h) (pj true M)) (-1)) = _ := ih
    rw [ih, List.map_map]
    refine List.map_congr_left fun k _ => ?_
    show (k.1 + (g + hkGrow h) - hkGrow h, k.2) = (k.1 + g, k.2)
    congr 1
    omega
  | (false, h) :: M, e, g, q => by
    obtain ⟨q1, q2⟩ := q
    replace q2 : sep (hkEnd h) M := q2
    show shiftH (newR g (pj true M)) (-1) (h.1 + g, h.2) :: (sh false g M).map (shiftH (newR g (pj true M)) (-1)) = (h.1 + g, h.2) :: (pj false M).map fun h => (h.1 + g, h.2)
    rw [show (sh false g M).map (shiftH (newR g (pj true M)) (-1)) = _ from shift_first M _ g q2]
    congr 1
    unfold shiftH
    rw [dl_zero fun r hr => by
      have := newR_low _ _ g (sep_pj M true _ q2) r hr
      have := hkEnd_ge h
      dsimp only
      omega]
    simp
theorem shift_second : ∀ (M : Mxl) (e g : Int), sep e M → (pj true M).map (fun h => (h.1 + g + dl (oldR (pj false M)) h.1, h.2)) = sh true g M
  | [], _, _, _ => rfl
  | (true, h) :: M, e, g, q => by
    obtain ⟨q1, q2⟩ := q
    replace q2 : sep (hkEnd h) M := q2
    show (h.1 + g + dl (oldR (pj false M)) h.1, h.2) :: (pj true M).map (fun h => (h.1 + g + dl (oldR (pj false M)) h.1, h.2)) = (h.1 + g, h.2) :: sh true g M
    rw [shift_second M _ g q2, dl_zero fun r hr => by
      have := oldR_low (sep_pj M false _ q2) r hr
      have := hkEnd_ge h
      omega]
    simp
  | (false, h) :: M, e, g, q => by
    obtain ⟨q1, q2⟩ := q
    replace q2 : sep (hkEnd h) M := q2
    show (pj true M).map (fun k => (k.1 + g + dl (rgOld h :: oldR (pj false M)) k.1, k.2)) = sh true (g + hkGrow h) M
    rw [← shift_second M _ (g + hkGrow h) q2]
    refine List.map_congr_left fun k hk => ?_
    have := ch_all (sep_pj M true _ q2) k hk
    rw [dl_pos (by unfold rgOld; exact this)]
    unfold rgOld
    dsimp only
    congr 1
    omega

/-- both patches at once, and one after the other -/
theorem mix_ap : ∀ (M : Mxl) (lo g : Int) (t s u : List ByteArray), sep (lo - 1) M → Ap (pj true M) lo t s → Ap (sh false g M) (lo + g) s u → Ap (un M) lo t u
  | [], _, _, _, _, _, _, h1, h2 => by rw [show _ = _ from h2, show _ = _ from h1]; rfl
  | (true, h) :: M, lo, g, t, s, u, q, h1, h2 => by
    obtain ⟨q1, q2⟩ := q
    replace q1 : lo - 1 < h.1 := q1
    replace q2 : sep (hkEnd h) M := q2
    have qe := hkEnd_ge h
    obtain ⟨m, t', s', e1, e2, e3, e4⟩ := (show Ap (h :: pj true M) lo t s from h1)
    replace h2 : Ap (sh false (g + hkGrow h) M) (lo + g) s u := h2
    rw [e3, ← List.append_assoc] at h2
    obtain ⟨u', rfl, h3⟩ := h2.cut (lo' := hkEnd h + (g + hkGrow h)) (by rw [List.length_append]; unfold hkEnd hkGrow; omega) fun k hk => by have := sh_low M false _ (g + hkGrow h) q2 k hk; omega
    exact ⟨m, t', u', e1, e2, by rw [List.append_assoc], mix_ap M _ _ t' s' u' (sep_le (show hkEnd h - 1 ≤ hkEnd h by omega) q2) e4 h3⟩
  | (false, h) :: M, lo, g, t, s, u, q, h1, h2 => by
    obtain ⟨q1, q2⟩ := q
    replace q1 : lo - 1 < h.1 := q1
    replace q2 : sep (hkEnd h) M := q2
    have qe := hkEnd_ge h
    obtain ⟨m, s', u', e1, e2, e3, e4⟩ := (show Ap ((h.1 + g, h.2) :: sh false g M) (lo + g) s u from h2)
    replace h1 : Ap (pj true M) lo t s := h1
    replace e1 : (m.length : Int) = h.1 + g - (lo + g) := e1
    replace e2 : s = m ++ (h.2.1 ++ s') := e2
    rw [e2, ← List.append_assoc] at h1
    obtain ⟨t', rfl, h3⟩ := h1.cut' (lo' := hkEnd h) (by rw [List.length_append]; unfold hkEnd; omega) fun k hk => by have := ch_all (sep_pj M true _ q2) k hk; omega
    refine ⟨m, t', u', (show (m.length : Int) = h.1 - lo by omega), by rw [List.append_assoc], e3, mix_ap M _ g t' s' u' (sep_le (show hkEnd h - 1 ≤ hkEnd h by omega) q2) h3 ?_⟩
    rw [show hkEnd h + g = hkEnd (h.1 + g, h.2) by unfold hkEnd; dsimp only; omega]
    exact e4
theorem ap_mix : ∀ (M : Mxl) (lo g : Int) (t u : List ByteArray), Ap (un M) lo t u → ∃ s, Ap (pj true M) lo t s ∧ Ap (sh false g M) (lo + g) s u
  | [], _, _, t, u, h => ⟨t, rfl, h⟩
  | (true, h) :: M, lo, g, t, u, ha => by
    obtain ⟨m, t', u', e1, e2, e3, e4⟩ := (show Ap (h :: un M) lo t u from ha)
    obtain ⟨s', i1, i2⟩ := ap_mix M _ (g + hkGrow h) t' u' e4
    refine ⟨m ++ (h.2.2 ++ s'), ⟨m, t', s', e1, e2, rfl, i1⟩, ?_⟩
    rw [e3, ← List.append_assoc, ← List.append_assoc]
    exact i2.front _ (by rw [List.length_append]; unfold hkEnd hkGrow; omega)
  | (false, h) :: M, lo, g, t, u, ha => by
    obtain ⟨m, t', u', e1, e2, e3, e4⟩ := (show Ap (h :: un M) lo t u from ha)
    obtain ⟨s', i1, i2⟩ := ap_mix M _ g t' u' e4
    refine ⟨m ++ (h.2.1 ++ s'), ?_, ⟨m, s', u', ?_, rfl, e3, ?_⟩⟩
    · show Ap (pj true M) lo t _
      rw [e2, ← List.append_assoc, ← List.append_assoc]
      exact i1.front _ (by rw [List.length_append]; unfold hkEnd; omega)
    · show _ = h.1 + g - (lo + g)
      omega
    · rw [show hkEnd (h.1 + g, h.2) = hkEnd h + g by unfold hkEnd; dsimp only; omega]
      exact i2

/-! ### commute.Commute -/
def cmFirst (p q : List Hk) : List Hk := shiftP q (newR 0 p) (-1)
def cmSecond (p q : List Hk) : List Hk := shiftP p (oldR (cmFirst p q)) 1
def cmC (p q : List Hk) : Int := if pC p ≠ 0 then pC p else if pC q ≠ 0 then pC q else if meet (newR 0 p) (oldR q) = true then 0 else if pC (cmFirst p q) ≠ 0 ∨ pC (cmSecond p q) ≠ 0 then 10 else 0
def cmI (p q : List Hk) : Int := if pC p ≠ 0 then pI p else if pC q ≠ 0 then -2 else if meet (newR 0 p) (oldR q) = true then 0 else if pC (cmFirst p q) ≠ 0 ∨ pC (cmSecond p q) ≠ 0 then -1 else 0
def cmOk (p q : List Hk) : Bool := decide (pC p = 0) && decide (pC q = 0) && !meet (newR 0 p) (oldR q) && decide (pC (cmFirst p q) = 0) && decide (pC (cmSecond p q) = 0)
def cmA (p q : List Hk) : List Hk := if cmOk p q = true then cmFirst p q else []
def cmB (p q : List Hk) : List Hk := if cmOk p q = true then cmSecond p q else []
theorem cmOk_iff {p q : List Hk} : cmOk p q = true ↔ pC p = 0 ∧ pC q = 0 ∧ meet (newR 0 p) (oldR q) = false ∧ pC (cmFirst p q) = 0 ∧ pC (cmSecond p q) = 0 := by
  unfold cmOk
  simp only [Bool.and_eq_true, decide_eq_true_eq, Bool.not_eq_true']
  constructor
  · rintro ⟨⟨⟨⟨a, b⟩, c⟩, d⟩, e⟩; exact ⟨a, b, c, d, e⟩
  · rintro ⟨a, b, c, d, e⟩; exact ⟨⟨⟨⟨a, b⟩, c⟩, d⟩, e⟩
theorem cm_of_mix {M : Mxl} (h : sep (-1) M) : meet (newR 0 (pj true M)) (oldR (sh false 0 M)) = false ∧ cmFirst (pj true M) (sh false 0 M) = pj false M ∧ cmSecond (pj true M) (sh false 0 M) = sh true 0 M := by
  have e1 : cmFirst (pj true M) (sh false 0 M) = pj false M := by
    unfold cmFirst
    rw [shift_first M _ 0 h]
    conv => rhs; rw [← List.map_id (pj false M)]
    refine List.map_congr_left fun k _ => ?_
    show (k.1 + 0, k.2) = k
    rw [Int.add_zero]
  refine ⟨meet_iff.2 (mix_meet M _ 0 h), e1, ?_⟩
  unfold cmSecond
  rw [e1, ← shift_second M _ 0 h]
  refine List.map_congr_left fun k _ => ?_
  unfold shiftH
  congr 1
  omega
theorem mix_of_cm {p q : List Hk} (h : cmOk p q = true) : ∃ M, sep (-1) M ∧ pj true M = p ∧ sh false 0 M = q ∧ pj false M = cmA p q ∧ sh true 0 M = cmB p q := by
  obtain ⟨h1, h2, h3, h4, h5⟩ := cmOk_iff.1 h
  obtain ⟨M, m1, m2, m3⟩ := mix p q (-1) 0 (pC_iff.1 h1).2.1 (pC_iff.1 h2).2.1 (meet_iff.1 h3)
  obtain ⟨k1, k2, k3⟩ := cm_of_mix m1
  rw [m2, m3] at k2 k3
  exact ⟨M, m1, m2, m3, k2.symm.trans (if_pos h).symm, k3.symm.trans (if_pos h).symm⟩
theorem cm_code {p q : List Hk} (h : cmOk p q = true) : cmC p q = 0 ∧ cmI p q = 0 := by
  obtain ⟨h1, h2, h3, h4, h5⟩ := cmOk_iff.1 h
  unfold cmC cmI
  rw [if_neg (by rw [h1]; decide), if_neg (by rw [h2]; decide), if_neg (by rw [h3]; decide), if_neg (by rw [h4, h5]; decide), if_neg (by rw [h1]; decide), if_neg (by rw [h2]; decide), if_neg (by rw [h3]; decide), if_neg (by rw [h4, h5]; decide)]
  exact ⟨rfl, rfl⟩
theorem cm_valid {p q : List Hk} (h : cmOk p q = true) : pC p = 0 ∧ pC q = 0 ∧ pC (cmA p q) = 0 ∧ pC (cmB p q) = 0 := by
  obtain ⟨h1, h2, h3, h4, h5⟩ := cmOk_iff.1 h
  exact ⟨h1, h2, by rw [show cmA p q = _ from if_pos h]; exact h4, by rw [show cmB p q = _ from if_pos h]; exact h5⟩
/-- exchanging twice -/
theorem cm_twice {p q : List Hk} (h : cmOk p q = true) : cmOk (cmA p q) (cmB p q) = true ∧ cmA (cmA p q) (cmB p q) = p ∧ cmB (cmA p q) (cmB p q) = q := by
  obtain ⟨M, m1, m2, m3, m4, m5⟩ := mix_of_cm h
  obtain ⟨v1, v2, v3, v4⟩ := cm_valid h
  obtain ⟨k1, k2, k3⟩ := cm_of_mix (sep_sw M _ m1)
  rw [pj_sw, sh_sw] at k1 k2 k3
  rw [pj_sw] at k2
  rw [sh_sw] at k3
  simp only [Bool.not_true, Bool.not_false] at k1 k2 k3
  rw [m4, m5] at k1 k2 k3
  rw [m2] at k2
  rw [m3] at k3
  have hok : cmOk (cmA p q) (cmB p q) = true := cmOk_iff.2 ⟨v3, v4, k1, by rw [k2]; exact v1, by rw [k3]; exact v2⟩
  exact ⟨hok, (if_pos hok).trans k2, (if_pos hok).trans k3⟩
/-- the effect -/
theorem cm_effect {p q : List Hk} {t : List ByteArray} (h : cmOk p q = true) (hp : (apF p t).1 = 0) (hq : (apF q (apL p t)).1 = 0) (ha : ¬ (apF (cmA p q) t).1 = 10) (hb : ¬ (apF (cmB p q) (apL (cmA p q) t)).1 = 10) :
    (apF (cmA p q) t).1 = 0 ∧ (apF (cmB p q) (apL (cmA p q) t)).1 = 0 ∧ apL (cmB p q) (apL (cmA p q) t) = apL q (apL p t) := by
  obtain ⟨M, m1, m2, m3, m4, m5⟩ := mix_of_cm h
  obtain ⟨v1, v2, v3, v4⟩ := cm_valid h
  obtain ⟨-, a2, a3, a4, a5⟩ := ap_apply hp
  obtain ⟨-, b2, b3, b4, b5⟩ := ap_apply hq
  have hu := mix_ap M 0 0 _ _ _ m1 (by rw [m2]; exact a3) (by rw [m3]; exact b3)
  rw [← un_sw] at hu
  obtain ⟨s, i1, i2⟩ := ap_mix (sw M) 0 0 _ _ hu
  rw [pj_sw] at i1
  rw [sh_sw] at i2
  simp only [Bool.not_true, Bool.not_false] at i1 i2
  rw [m4] at i1
  rw [m5] at i2
  obtain ⟨j1, j2⟩ := apply_or v3 a2 i1 ha
  have j3 := (ap_apply j1).2.2.2.2
  rw [j2] at hb j3 ⊢
  obtain ⟨l1, l2⟩ := apply_or v4 j3 i2 hb
  exact ⟨j1, l1, l2⟩
/-! ### inverses -/
def invM : Int → Mxl → Mxl
  | _, [] => []
  | g, (c, h) :: M => (c, hkInv g h) :: invM (g + hkGrow h) M
theorem inv_end (g : Int) (h : Hk) : hkEnd (hkInv g h) = hkEnd h + (g + hkGrow h) := by unfold hkInv hkEnd hkGrow; dsimp only; omega
theorem inv_grow (g : Int) (h : Hk) : hkGrow (hkInv g h) = -hkGrow h := by unfold hkInv hkGrow; dsimp only; omega
theorem inv_sep : ∀ (M : Mxl) (e g : Int), sep e M → sep (e + g) (invM g M)
  | [], _, _, _ => True.intro
  | (c, h) :: M, e, g, q => by
    refine ⟨?_, ?_⟩
    · have := q.1; show e + g < h.1 + g; dsimp only at this; omega
    · show sep (hkEnd (hkInv g h)) (invM (g + hkGrow h) M)
      rw [inv_end]
      exact inv_sep M _ _ q.2
theorem inv_sh : ∀ (M : Mxl) (b : Bool) (g k : Int), pInv k (sh b g M) = pj b (invM (k + g) M)
  | [], _, _, _ => rfl
  | (c, h) :: M, b, g, k => by
    show pInv k (bif c == b then (h.1 + g, h.2) :: sh b g M else sh b (g + hkGrow h) M) = bif c == b then hkInv (k + g) h :: pj b (invM (k + g + hkGrow h) M) else pj b (invM (k + g + hkGrow h) M)
    cases (c == b) with
    | true =>
      show hkInv k (h.1 + g, h.2) :: pInv (k + hkGrow (h.1 + g, h.2)) (sh b g M) = hkInv (k + g) h :: pj b (invM (k + g + hkGrow h) M)
      rw [inv_sh M b g _, show k + hkGrow (h.1 + g, h.2) + g = k + g + hkGrow h by unfold hkGrow; dsimp only; omega]
      congr 1
      unfold hkInv
      dsimp only
      congr 1
      omega
    | false =>
      show pInv k (sh b (g + hkGrow h) M) = pj b (invM (k + g + hkGrow h) M)
      rw [inv_sh M b _ k, Int.add_assoc k g]
theorem sh_inv : ∀ (M : Mxl) (b : Bool) (g k : Int), sh b k (invM g M) = pInv (g + k) (pj b M)
  | [], _, _, _ => rfl
  | (c, h) :: M, b, g, k => by
    show (bif c == b then ((hkInv g h).1 + k, (hkInv g h).2) :: sh b k (invM (g + hkGrow h) M) else sh b (k + hkGrow (hkInv g h)) (invM (g + hkGrow h) M)) = pInv (g + k) (bif c == b then h :: pj b M else pj b M)
    cases (c == b) with
    | true =>
      show ((hkInv g h).1 + k, (hkInv g h).2) :: sh b k (invM (g + hkGrow h) M) = hkInv (g + k) h :: pInv (g + k + hkGrow h) (pj b M)
      rw [sh_inv M b _ k, show g + hkGrow h + k = g + k + hkGrow h by omega]
      congr 1
      unfold hkInv
      dsimp only
      congr 1
      omega
    | false =>
      show sh b (k + hkGrow (hkInv g h)) (invM (g + hkGrow h) M) = pInv (g + k) (pj b M)
      rw [sh_inv M b _ _, inv_grow, show g + hkGrow h + (k + -hkGrow h) = g + k by omega]
theorem cm_inverse {p q : List Hk} (h : cmOk p q = true) (hp : ivC p = 0) (hq : ivC q = 0) (ha : ivC (cmA p q) = 0) (hb : ivC (cmB p q) = 0) :
    cmOk (ivP q) (ivP p) = true ∧ cmA (ivP q) (ivP p) = ivP (cmB p q) ∧ cmB (ivP q) (ivP p) = ivP (cmA p q) := by
  obtain ⟨M, m1, m2, m3, m4, m5⟩ := mix_of_cm h
  obtain ⟨p1, p2⟩ := ivC_good hp
  obtain ⟨q1, q2⟩ := ivC_good hq
  obtain ⟨a1, a2⟩ := ivC_good ha
  obtain ⟨b1, b2⟩ := ivC_good hb
  have hs : sep (-1) (sw (invM 0 M)) := sep_sw _ _ (inv_sep M _ 0 m1)
  obtain ⟨k1, k2, k3⟩ := cm_of_mix hs
  simp only [pj_sw, sh_sw, Bool.not_true, Bool.not_false, sh_inv] at k1 k2 k3
  have i1 : pj false (invM 0 M) = pInv 0 q := by rw [← m3, inv_sh]; rfl
  have i2 : pj true (invM 0 M) = pInv 0 (cmB p q) := by rw [← m5, inv_sh]; rfl
  rw [i1] at k1 k2 k3
  rw [i2] at k2
  rw [show (0 : Int) + 0 = 0 from rfl, m2] at k1 k2 k3
  rw [m4] at k3
  rw [p2, q2, a2, b2]
  have hok : cmOk (pInv 0 q) (pInv 0 p) = true := cmOk_iff.2 ⟨q1, p1, k1, by rw [k2]; exact b1, by rw [k3]; exact a1⟩
  exact ⟨hok, (if_pos hok).trans k2, (if_pos hok).trans k3⟩

/-! ### commute.Rebase -/
def rbR (p o : List Hk) : List Hk := shiftP p (oldR o) 1
def rbC (p o : List Hk) : Int := if pC p ≠ 0 then pC p else if pC o ≠ 0 then pC o else if meet (oldR p) (oldR o) = true then 0 else if pC (rbR p o) ≠ 0 then 10 else 0
def rbI (p o : List Hk) : Int := if pC p ≠ 0 then pI p else if pC o ≠ 0 then -2 else if meet (oldR p) (oldR o) = true then 0 else if pC (rbR p o) ≠ 0 then -1 else 0
def rbOk (p o : List Hk) : Bool := decide (pC p = 0) && decide (pC o = 0) && !meet (oldR p) (oldR o) && decide (pC (rbR p o) = 0)
def rbP (p o : List Hk) : List Hk := if rbOk p o = true then rbR p o else []
theorem rbOk_iff {p o : List Hk} : rbOk p o = true ↔ pC p = 0 ∧ pC o = 0 ∧ meet (oldR p) (oldR o) = false ∧ pC (rbR p o) = 0 := by
  unfold rbOk
  simp only [Bool.and_eq_true, decide_eq_true_eq, Bool.not_eq_true']
  constructor
  · rintro ⟨⟨⟨a, b⟩, c⟩, d⟩; exact ⟨a, b, c, d⟩
  · rintro ⟨a, b, c, d⟩; exact ⟨⟨⟨a, b⟩, c⟩, d⟩
theorem rb_code {p o : List Hk} (h : rbC p o = 0) : pC p = 0 ∧ pC o = 0 ∧ rbOk p o = !meet (oldR p) (oldR o) := by
  unfold rbC at h
  split at h
  · contradiction
  split at h
  · contradiction
  rename_i h1 h2
  have h1 := Classical.not_not.1 h1
  have h2 := Classical.not_not.1 h2
  refine ⟨h1, h2, ?_⟩
  split at h
  · rename_i h3
    unfold rbOk
    rw [h3]
    simp
  · rename_i h3
    split at h
    · exact absurd h (by decide)
    · rename_i h4
      have h4 := Classical.not_not.1 h4
      unfold rbOk
      rw [decide_eq_true h1, decide_eq_true h2, decide_eq_true h4]
      simp
theorem rb_sym {p o : List Hk} (h : rbC p o = 0) (g : rbC o p = 0) : rbOk p o = rbOk o p := by
  rw [(rb_code h).2.2, (rb_code g).2.2, meet_comm]
theorem mix2 : ∀ (p q : List Hk) (e : Int), ch e p → ch e q → (∀ x ∈ oldR p, ∀ y ∈ oldR q, touch x y = false) → ∃ M, sep e M ∧ pj true M = p ∧ pj false M = q
  | [], [], _, _, _, _ => ⟨[], True.intro, rfl, rfl⟩
  | h :: p, [], e, hp, hq, hm => by
    obtain ⟨M, m1, m2, m3⟩ := mix2 p [] (hkEnd h) hp.2 True.intro (fun x _ y hy => by simp [oldR] at hy)
    exact ⟨(true, h) :: M, ⟨hp.1, m1⟩, congrArg (h :: ·) m2, m3⟩
  | [], k :: q, e, hp, hq, hm => by
    obtain ⟨M, m1, m2, m3⟩ := mix2 [] q (hkEnd k) True.intro hq.2 (fun x hx => by simp [oldR] at hx)
    exact ⟨(false, k) :: M, ⟨hq.1, m1⟩, m2, congrArg (k :: ·) m3⟩
  | h :: p, k :: q, e, hp, hq, hm => by
    have ht := hm (rgOld h) (by simp [oldR]) (rgOld k) (by simp [oldR])
    unfold touch rgOld at ht
    simp only [Bool.and_eq_false_iff, decide_eq_false_iff_not] at ht
    by_cases hc : hkEnd h < k.1
    · obtain ⟨M, m1, m2, m3⟩ := mix2 p (k :: q) (hkEnd h) hp.2 ⟨hc, hq.2⟩ (fun x hx y hy => hm x (by unfold oldR; rw [List.map_cons]; exact List.mem_cons_of_mem _ hx) y hy)
      exact ⟨(true, h) :: M, ⟨hp.1, m1⟩, congrArg (h :: ·) m2, m3⟩
    · have hk : hkEnd k < h.1 := by omega
      obtain ⟨M, m1, m2, m3⟩ := mix2 (h :: p) q (hkEnd k) ⟨hk, hp.2⟩ hq.2 (fun x hx y hy => hm x hx y (by unfold oldR; rw [List.map_cons]; exact List.mem_cons_of_mem _ hy))
      exact ⟨(false, k) :: M, ⟨hq.1, m1⟩, m2, congrArg (k :: ·) m3⟩
  termination_by p q => p.length + q.length
theorem Ap.det : ∀ {p : List Hk} {lo : Int} {t s u : List ByteArray}, Ap p lo t s → Ap p lo t u → s = u
  | [], _, _, _, _, h, k => by rw [show _ = _ from h, show _ = _ from k]
  | h :: p, lo, t, s, u, a, b => by
    obtain ⟨m, t', s', e1, e2, e3, e4⟩ := a
    obtain ⟨n, t2, u', f1, f2, f3, f4⟩ := b
    rw [e2] at f2
    obtain ⟨rfl, g2⟩ := List.append_inj f2 (by omega)
    have g3 := List.append_cancel_left g2
    subst g3
    rw [e3, f3, e4.det f4]
theorem ap_both : ∀ (M : Mxl) (lo : Int) (t s u : List ByteArray), sep (lo - 1) M → Ap (pj true M) lo t s → Ap (pj false M) lo t u → ∃ w, Ap (un M) lo t w
  | [], _, t, _, _, _, _, _ => ⟨t, rfl⟩
  | (true, h) :: M, lo, t, s, u, q, a, b => by
    obtain ⟨q1, q2⟩ := q
    replace q1 : lo - 1 < h.1 := q1
    replace q2 : sep (hkEnd h) M := q2
    have qe := hkEnd_ge h
    obtain ⟨m, t', s', e1, e2, e3, e4⟩ := (show Ap (h :: pj true M) lo t s from a)
    replace b : Ap (pj false M) lo t u := b
    rw [e2, ← List.append_assoc] at b
    obtain ⟨u', rfl, b'⟩ := b.cut (lo' := hkEnd h) (by rw [List.length_append]; unfold hkEnd; omega) fun k hk => by have := ch_all (sep_pj M false _ q2) k hk; omega
    obtain ⟨w, hw⟩ := ap_both M _ t' s' u' (sep_le (show hkEnd h - 1 ≤ hkEnd h by omega) q2) e4 b'
    exact ⟨m ++ (h.2.2 ++ w), m, t', w, e1, e2, rfl, hw⟩
  | (false, h) :: M, lo, t, s, u, q, b, a => by
    obtain ⟨q1, q2⟩ := q
    replace q1 : lo - 1 < h.1 := q1
    replace q2 : sep (hkEnd h) M := q2
    have qe := hkEnd_ge h
    obtain ⟨m, t', s', e1, e2, e3, e4⟩ := (show Ap (h :: pj false M) lo t u from a)
    replace b : Ap (pj true M) lo t s := b
    rw [e2, ← List.append_assoc] at b
    obtain ⟨u', rfl, b'⟩ := b.cut (lo' := hkEnd h) (by rw [List.length_append]; unfold hkEnd; omega) fun k hk => by have := ch_all (sep_pj M true _ q2) k hk; omega
    obtain ⟨w, hw⟩ := ap_both M _ t' u' s' (sep_le (show hkEnd h - 1 ≤ hkEnd h by omega) q2) b' e4
    exact ⟨m ++ (h.2.2 ++ w), m, t', w, e1, e2, rfl, hw⟩
theorem rb_mix {p o : List Hk} (h : rbOk p o = true) : ∃ M, sep (-1) M ∧ pj true M = p ∧ pj false M = o ∧ sh true 0 M = rbP p o := by
  obtain ⟨h1, h2, h3, h4⟩ := rbOk_iff.1 h
  obtain ⟨M, m1, m2, m3⟩ := mix2 p o (-1) (pC_iff.1 h1).2.1 (pC_iff.1 h2).2.1 (meet_iff.1 h3)
  refine ⟨M, m1, m2, m3, ?_⟩
  rw [← shift_second M _ 0 m1, m2, m3, show rbP p o = rbR p o from if_pos h]
  refine List.map_congr_left fun k _ => ?_
  unfold shiftH
  congr 1
  omega
theorem rb_effect {p q : List Hk} {t : List ByteArray} (h : rbOk p q = true) (g : rbOk q p = true) (hq : (apF q t).1 = 0) (hp : (apF p t).1 = 0) (ha : ¬ (apF (rbP p q) (apL q t)).1 = 10) (hb : ¬ (apF (rbP q p) (apL p t)).1 = 10) :
    (apF (rbP p q) (apL q t)).1 = 0 ∧ (apF (rbP q p) (apL p t)).1 = 0 ∧ apL (rbP p q) (apL q t) = apL (rbP q p) (apL p t) := by
  obtain ⟨M, m1, m2, m3, m4⟩ := rb_mix h
  obtain ⟨-, a2, a3, a4, a5⟩ := ap_apply hp
  obtain ⟨-, b2, b3, b4, b5⟩ := ap_apply hq
  obtain ⟨w, hw⟩ := ap_both M 0 t _ _ m1 (by rw [m2]; exact a3) (by rw [m3]; exact b3)
  obtain ⟨s1, i1, i2⟩ := ap_mix M 0 0 t w hw
  rw [m2] at i1
  obtain rfl := i1.det a3
  rw [← un_sw] at hw
  obtain ⟨s2, j1, j2⟩ := ap_mix (sw M) 0 0 t w hw
  rw [pj_sw] at j1
  rw [sh_sw] at j2
  simp only [Bool.not_true, Bool.not_false] at j1 j2
  rw [m3] at j1
  obtain rfl := j1.det b3
  rw [m4] at j2
  obtain ⟨h1, h2, h3, h4⟩ := rbOk_iff.1 h
  obtain ⟨g1, g2, g3, g4⟩ := rbOk_iff.1 g
  have e : rbP q p = sh false 0 M := by
    have := shift_second (sw M) _ 0 (sep_sw M _ m1)
    rw [sh_sw, pj_sw, pj_sw] at this
    simp only [Bool.not_true, Bool.not_false] at this
    rw [← this, m2, m3, show rbP q p = rbR q p from if_pos g]
    refine List.map_congr_left fun k _ => ?_
    unfold shiftH
    congr 1
    omega
  rw [← e] at i2
  have v1 : pC (rbP p q) = 0 := by rw [show rbP p q = rbR p q from if_pos h]; exact h4
  have v2 : pC (rbP q p) = 0 := by rw [show rbP q p = rbR q p from if_pos g]; exact g4
  obtain ⟨k1, k2⟩ := apply_or v1 b5 j2 ha
  obtain ⟨l1, l2⟩ := apply_or v2 a5 i2 hb
  exact ⟨k1, l1, k2.trans l2.symm⟩
end Go.Proofs.Ythacjpemeaekdaa
