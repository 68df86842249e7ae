/- The reference's composition as plain data: items of a text of unknown lines, what is gone; that it gives the composition. No program in sight. -/
import Derived.Test.YthacjpemeaekdaaComBd
namespace Go.Proofs.Ythacjpemeaekdaa
open Go.RowKit

abbrev It : Type := Int × ByteArray
def olds : Nat → Nat → List It
  | 0, _ => []
  | n + 1, a => ((a : Int), ByteArray.empty) :: olds n (a + 1)
def news (l : List ByteArray) : List It := l.map fun t => ((-1 : Int), t)
/-- the text behind the first patch, from line a on -/
def rmid (N : Nat) : Nat → List Hk → List It
  | a, [] => olds (N - a) a
  | a, h :: p => olds (h.1.toNat - a) a ++ (news h.2.2 ++ rmid N (hkEnd h).toNat p)
def setAt : List ByteArray → Nat → List ByteArray → List ByteArray
  | G, _, [] => G
  | G, a, s :: l => setAt (G.set a s) (a + 1) l
def rg1 : List ByteArray → List Hk → List ByteArray
  | G, [] => G
  | G, h :: p => rg1 (setAt G h.1.toNat h.2.1) p
def rlastR : Nat → List It → List Hk → List It
  | _, Y, [] => Y
  | a, Y, h :: q => Y.take (h.1.toNat - a) ++ (news h.2.2 ++ rlastR (hkEnd h).toNat (Y.drop ((hkEnd h).toNat - a)) q)
def setL : List It → List ByteArray → List ByteArray → List ByteArray
  | x :: Y, s :: l, G => setL Y l (if 0 ≤ x.1 then G.set x.1.toNat s else G)
  | _, _, G => G
def rgR : Nat → List It → List ByteArray → List Hk → List ByteArray
  | _, _, G, [] => G
  | a, Y, G, h :: q => rgR (hkEnd h).toNat (Y.drop ((hkEnd h).toNat - a)) (setL (Y.drop (h.1.toNat - a)) h.2.1 G) q
def rbad : List It → List ByteArray → Bool
  | x :: Y, s :: l => (decide (x.1 < 0) && !decide (x.2 = s)) || rbad Y l
  | _, _ => false
def rconf : Nat → Nat → List It → List Hk → Option Nat
  | _, _, _, [] => none
  | i, a, Y, h :: q => if rbad (Y.drop (h.1.toNat - a)) h.2.1 = true then some i else rconf (i + 1) (hkEnd h).toNat (Y.drop ((hkEnd h).toNat - a)) q
def gap (G : List ByteArray) (f a : Nat) : List ByteArray := (G.take a).drop f
def ro (G : List ByteArray) : Nat → List ByteArray → List It → List Hk
  | _, _, [] => []
  | f, fr, x :: L => if x.1 < 0 then ro G f (fr ++ [x.2]) L else if f < x.1.toNat ∨ fr ≠ [] then ((f : Int), gap G f x.1.toNat, fr) :: ro G (x.1.toNat + 1) [] L else ro G (x.1.toNat + 1) [] L
/-- as ro, with what is open at the end -/
def roF (G : List ByteArray) (e : Nat) : Nat → List ByteArray → List It → List Hk
  | f, fr, [] => if f < e ∨ fr ≠ [] then [((f : Int), gap G f e, fr)] else []
  | f, fr, x :: L => if x.1 < 0 then roF G e f (fr ++ [x.2]) L else if f < x.1.toNat ∨ fr ≠ [] then ((f : Int), gap G f x.1.toNat, fr) :: roF G e (x.1.toNat + 1) [] L else roF G e (x.1.toNat + 1) [] L
theorem roF_olds (G : List ByteArray) : ∀ (m a : Nat), roF G (a + m) a [] (olds m a) = []
  | 0, a => by show (if a < a + 0 ∨ ([] : List ByteArray) ≠ [] then _ else _) = _; rw [if_neg (by rintro (h | h); omega; exact h rfl)]
  | m + 1, a => by
    show (if ((a : Nat) : Int) < 0 then _ else if a < ((a : Nat) : Int).toNat ∨ ([] : List ByteArray) ≠ [] then _ else roF G (a + (m + 1)) (((a : Nat) : Int).toNat + 1) [] (olds m (a + 1))) = _
    rw [if_neg (by omega), Int.toNat_natCast, if_neg (by rintro (h | h); omega; exact h rfl), show a + (m + 1) = a + 1 + m by omega]
    exact roF_olds G m (a + 1)
theorem ro_tail (G : List ByteArray) (a m : Nat) (s : ByteArray) : ∀ (L : List It) (f : Nat) (fr : List ByteArray), ro G f fr (L ++ [((a : Int), s)]) = roF G (a + 1 + m) f fr (L ++ ((a : Int), s) :: olds m (a + 1))
  | [], f, fr => by
    show (if ((a : Nat) : Int) < 0 then _ else if f < ((a : Nat) : Int).toNat ∨ fr ≠ [] then _ :: ([] : List Hk) else []) = (if ((a : Nat) : Int) < 0 then _ else if f < ((a : Nat) : Int).toNat ∨ fr ≠ [] then _ :: roF G (a + 1 + m) (((a : Nat) : Int).toNat + 1) [] (olds m (a + 1)) else roF G (a + 1 + m) (((a : Nat) : Int).toNat + 1) [] (olds m (a + 1)))
    have h0 : ¬ ((a : Nat) : Int) < 0 := by omega
    rw [if_neg h0, if_neg h0, Int.toNat_natCast, roF_olds]
  | x :: L, f, fr => by
    have ih := ro_tail G a m s L
    rw [List.cons_append, List.cons_append]
    unfold ro roF
    rw [ih, ih]
/-! ### the link of items and steps -/
inductive Lk (G : List ByteArray) : Nat → List It → List (Int × ByteArray) → Nat → Prop
  | nil (a) : Lk G a [] [] a
  | keep {a L E e s z} : Lk G (a + 1) L E e → Lk G a (((a : Int), s) :: L) ((0, z) :: E) e
  | del {a L E e s} : G[a]? = some s → Lk G (a + 1) L E e → Lk G a L ((1, s) :: E) e
  | ins {a L E e s} : Lk G a L E e → Lk G a ((-1, s) :: L) ((2, s) :: E) e
def cuOf (G : List ByteArray) (f : Nat) (fr : List ByteArray) (a : Nat) : Option Hk := if f < a ∨ fr ≠ [] then some ((f : Int), gap G f a, fr) else none
theorem gap_succ {G : List ByteArray} {f a : Nat} {s : ByteArray} (h : f ≤ a) (hg : G[a]? = some s) : gap G f (a + 1) = gap G f a ++ [s] := by
  unfold gap
  rw [List.take_add_one, hg, Option.toList_some, List.drop_append_of_le_length]
  rw [List.length_take]
  have := (List.getElem?_eq_some_iff.1 hg).1
  omega
theorem gap_self (G : List ByteArray) (a : Nat) : gap G a a = [] := by
  unfold gap
  rw [List.drop_eq_nil_of_le (by rw [List.length_take]; omega)]
theorem lk_ro {G : List ByteArray} {a : Nat} {L : List It} {E : List (Int × ByteArray)} {e : Nat} (h : Lk G a L E e) : ∀ (f : Nat) (fr : List ByteArray), f ≤ a → roF G e f fr L = col a (cuOf G f fr a) E := by
  induction h with
  | nil a =>
    intro f fr hf
    show (if f < a ∨ fr ≠ [] then _ else _) = (cuOf G f fr a).toList
    unfold cuOf
    split <;> rfl
  | @keep a L E e s z h ih =>
    intro f fr hf
    rw [col_keep]
    have e1 : (((a : Nat) : Int) + 1) = ((a + 1 : Nat) : Int) := by omega
    have e2 : cuOf G (a + 1) [] (a + 1) = none := if_neg (by rintro (q | q); omega; exact q rfl)
    show (if ((a : Nat) : Int) < 0 then _ else if f < ((a : Nat) : Int).toNat ∨ fr ≠ [] then ((f : Int), gap G f ((a : Nat) : Int).toNat, fr) :: roF G e (((a : Nat) : Int).toNat + 1) [] L else roF G e (((a : Nat) : Int).toNat + 1) [] L) = _
    rw [if_neg (by omega), Int.toNat_natCast, ih (a + 1) [] (Nat.le_refl _), e2, ← e1]
    unfold cuOf
    split <;> rfl
  | @del a L E e s hg h ih =>
    intro f fr hf
    rw [col_del, ih f fr (by omega)]
    congr 1
    unfold cuOf
    rw [if_pos (.inl (by omega)), gap_succ hf hg]
    by_cases q : f < a ∨ fr ≠ []
    · rw [if_pos q]; rfl
    · rw [if_neg q]
      have q1 : f = a := by
        rcases Nat.lt_or_ge f a with w | w
        · exact absurd (.inl w) q
        · omega
      have q2 : fr = [] := Classical.byContradiction fun w => q (.inr w)
      subst q1; subst q2
      rw [gap_self]; rfl
  | @ins a L E e s h ih =>
    intro f fr hf
    rw [col_ins]
    show (if (-1 : Int) < 0 then roF G e f (fr ++ [s]) L else _) = _
    rw [if_pos (by decide), ih f (fr ++ [s]) hf]
    congr 1
    unfold cuOf
    rw [if_pos (.inr (by simp))]
    by_cases q : f < a ∨ fr ≠ []
    · rw [if_pos q]; rfl
    · rw [if_neg q]
      have q1 : f = a := by
        rcases Nat.lt_or_ge f a with w | w
        · exact absurd (.inl w) q
        · omega
      have q2 : fr = [] := Classical.byContradiction fun w => q (.inr w)
      subst q1; subst q2
      rw [gap_self]; rfl
/-! ### the middle text as items -/
def nxt (a : Nat) (m : Md) : Nat := a + m.2.2.length + if m.1 = true then 0 else 1
def itOf (a : Nat) (m : Md) : It := if m.1 = true then (-1, m.2.1) else (((a + m.2.2.length : Nat) : Int), ByteArray.empty)
def itm : Nat → List Md → List It
  | _, [] => []
  | a, m :: M => itOf a m :: itm (nxt a m) M
def pos : Nat → List Md → Nat
  | a, [] => a
  | a, m :: M => pos (nxt a m) M
theorem itm_len : ∀ (M : List Md) (a : Nat), (itm a M).length = M.length
  | [], _ => rfl
  | m :: M, a => by show (itm (nxt a m) M).length + 1 = M.length + 1; rw [itm_len M]
theorem nxt_ge (a : Nat) (m : Md) : a ≤ nxt a m := by unfold nxt; omega
theorem pos_ge : ∀ (M : List Md) (a : Nat), a ≤ pos a M
  | [], _ => Nat.le_refl _
  | m :: M, a => Nat.le_trans (nxt_ge a m) (pos_ge M _)
theorem itm_take : ∀ (k : Nat) (M : List Md) (a : Nat), (itm a M).take k = itm a (M.take k)
  | 0, _, _ => rfl
  | _ + 1, [], _ => rfl
  | k + 1, m :: M, a => by show itOf a m :: (itm (nxt a m) M).take k = itOf a m :: itm (nxt a m) (M.take k); rw [itm_take k M]
theorem itm_drop : ∀ (k : Nat) (M : List Md) (a : Nat), (itm a M).drop k = itm (pos a (M.take k)) (M.drop k)
  | 0, _, _ => rfl
  | _ + 1, [], _ => rfl
  | k + 1, m :: M, a => itm_drop k M (nxt a m)
/-- the lines g stand in G from a on -/
def At (G : List ByteArray) (a : Nat) (g : List ByteArray) : Prop := ∀ j (h : j < g.length), G[a + j]? = some g[j]
theorem At.tail {G : List ByteArray} {a : Nat} {x : ByteArray} {g : List ByteArray} (h : At G a (x :: g)) : At G (a + 1) g := fun j hj => by
  have := h (j + 1) (by simpa using hj)
  rw [show a + 1 + j = a + (j + 1) by omega]; exact this
theorem At.nil {G : List ByteArray} {a : Nat} : At G a [] := fun j hj => absurd hj (Nat.not_lt_zero _)
theorem At.mono {G G' : List ByteArray} {a : Nat} {g : List ByteArray} (h : At G a g) (hs : ∀ y, a ≤ y → y < a + g.length → G'[y]? = G[y]?) : At G' a g := fun j hj => (hs _ (by omega) (by omega)).trans (h j hj)
def agr (G : List ByteArray) : Nat → List Md → Prop
  | _, [] => True
  | a, m :: M => At G a m.2.2 ∧ agr G (nxt a m) M
/-- lines that the second patch deletes -/
def agd (G : List ByteArray) : Nat → List Md → List ByteArray → Prop
  | a, m :: M, s :: l => At G a m.2.2 ∧ (m.1 = false → G[a + m.2.2.length]? = some s) ∧ agd G (nxt a m) M l
  | _, _, _ => True
def agq (G : List ByteArray) : Nat → Nat → List Md → List Hk → Prop
  | _, a, M, [] => agr G a M
  | i, a, M, h :: q => agr G a (M.take (h.1.toNat - i)) ∧ agd G (pos a (M.take (h.1.toNat - i))) (M.drop (h.1.toNat - i)) h.2.1 ∧ agq G (hkEnd h).toNat (pos a (M.take ((hkEnd h).toNat - i))) (M.drop ((hkEnd h).toNat - i)) q
theorem lk_dels {G : List ByteArray} {L : List It} {E : List (Int × ByteArray)} {e : Nat} : ∀ (g : List ByteArray) (a : Nat), At G a g → Lk G (a + g.length) L E e → Lk G a L (g.map (fun x => ((1 : Int), x)) ++ E) e
  | [], a, _, h => h
  | x :: g, a, ha, h => .del (ha 0 (by simp)) (lk_dels g (a + 1) ha.tail (by rw [List.length_cons] at h; rwa [show a + 1 + g.length = a + (g.length + 1) by omega]))
theorem lk_news {G : List ByteArray} {L : List It} {E : List (Int × ByteArray)} {e a : Nat} : ∀ (l : List ByteArray), Lk G a L E e → Lk G a (news l ++ L) (l.map (fun x => ((2 : Int), x)) ++ E) e
  | [], h => h
  | _ :: l, h => .ins (lk_news l h)
theorem lk_kev {G : List ByteArray} {L : List It} {E : List (Int × ByteArray)} {e a : Nat} {m : Md} (ha : At G a m.2.2) (h : Lk G (nxt a m) L E e) : Lk G a (itOf a m :: L) (kev m ++ E) e := by
  obtain ⟨b, l, g⟩ := m
  unfold kev
  rw [List.append_assoc]
  refine lk_dels g a ha ?_
  cases b with
  | true => exact .ins h
  | false => exact .keep h
theorem lk_keeps {G : List ByteArray} {L : List It} {E : List (Int × ByteArray)} {e : Nat} : ∀ (M : List Md) (a : Nat), agr G a M → Lk G (pos a M) L E e → Lk G a (itm a M ++ L) (M.flatMap kev ++ E) e
  | [], a, _, h => h
  | m :: M, a, ha, h => by
    rw [List.flatMap_cons, List.append_assoc]
    exact lk_kev ha.1 (lk_keeps M _ ha.2 h)
theorem lk_devs {G : List ByteArray} {L : List It} {E : List (Int × ByteArray)} {e : Nat} : ∀ (l : List ByteArray) (M : List Md) (a : Nat), l.length ≤ M.length → agd G a M l → Lk G (pos a (M.take l.length)) L E e → Lk G a L (devs M l ++ E) e
  | [], M, a, _, _, h => by cases M <;> exact h
  | s :: l, [], a, hl, _, _ => absurd hl (by simp)
  | s :: l, (b, x, g) :: M, a, hl, ha, h => by
    obtain ⟨h1, h2, h3⟩ := ha
    show Lk G a L ((dev (b, x, g) s ++ devs M l) ++ E) e
    unfold dev
    rw [List.append_assoc, List.append_assoc]
    refine lk_dels g a h1 ?_
    have ih := lk_devs l M (nxt a (b, x, g)) (by simpa using hl) h3 h
    cases b with
    | true => exact ih
    | false => exact .del (h2 rfl) ih
theorem pos_append : ∀ (M M' : List Md) (a : Nat), pos a (M ++ M') = pos (pos a M) M'
  | [], _, _ => rfl
  | m :: M, M', a => pos_append M M' (nxt a m)
theorem lk_evs {G : List ByteArray} : ∀ (q : List Hk) (i a : Nat) (M : List Md), ch ((i : Int) - 1) q → (∀ h ∈ q, (hkEnd h).toNat - i ≤ M.length) → agq G i a M q → Lk G a (rlastR i (itm a M) q) (evs i M q) (pos a M)
  | [], i, a, M, _, _, ha => by
    have := lk_keeps (L := []) (E := []) M a ha (Lk.nil (pos a M))
    rw [List.append_nil, List.append_nil] at this
    exact this
  | h :: q, i, a, M, hc, hl, ha => by
    obtain ⟨a1, a2, a3⟩ := ha
    obtain ⟨c1, c2⟩ := hc
    have he : hkEnd h = h.1 + h.2.1.length := rfl
    have hl0 := hl h List.mem_cons_self
    have eE : ((hkEnd h).toNat : Int) = hkEnd h := by rw [he]; omega
    have ih := lk_evs q (hkEnd h).toNat (pos a (M.take ((hkEnd h).toNat - i))) (M.drop ((hkEnd h).toNat - i)) (by rw [eE]; exact ch_le (by omega) c2) (fun k hk => by
      have := hl k (List.mem_cons_of_mem _ hk)
      rw [List.length_drop]; omega) a3
    show Lk G a ((itm a M).take (h.1.toNat - i) ++ (news h.2.2 ++ rlastR (hkEnd h).toNat ((itm a M).drop ((hkEnd h).toNat - i)) q))
      ((M.take (h.1 - i).toNat).flatMap kev ++ (h.2.2.map (fun x => ((2 : Int), x)) ++ (devs (M.drop (h.1 - i).toNat) h.2.1 ++ evs (hkEnd h) (M.drop (hkEnd h - i).toNat) q))) (pos a M)
    rw [show (h.1 - (i : Int)).toNat = h.1.toNat - i by omega, show (hkEnd h - (i : Int)).toNat = (hkEnd h).toNat - i by omega, itm_take, itm_drop]
    rw [eE, ← pos_append, List.take_append_drop] at ih
    refine lk_keeps _ a a1 (lk_news _ (lk_devs h.2.1 _ _ ?_ a2 ?_))
    · rw [List.length_drop, he] at *; omega
    · rw [← pos_append]
      have : M.take (h.1.toNat - i) ++ (M.drop (h.1.toNat - i)).take h.2.1.length = M.take ((hkEnd h).toNat - i) := by
        rw [show (hkEnd h).toNat - i = (h.1.toNat - i) + h.2.1.length by rw [he]; omega, List.take_add]
      rw [this]
      exact ih
/-! ### what is gone agrees -/
theorem At.le_nxt (a : Nat) (m : Md) : a + m.2.2.length ≤ nxt a m := by unfold nxt; omega
theorem agr_mono {G G' : List ByteArray} : ∀ (M : List Md) (a : Nat), agr G a M → (∀ y, a ≤ y → y < pos a M → G'[y]? = G[y]?) → agr G' a M
  | [], _, _, _ => True.intro
  | m :: M, a, h, hs => ⟨h.1.mono fun y h1 h2 => hs y h1 (Nat.lt_of_lt_of_le h2 (Nat.le_trans (At.le_nxt a m) (pos_ge M _))), agr_mono M _ h.2 fun y h1 h2 => hs y (Nat.le_trans (nxt_ge a m) h1) h2⟩
theorem agd_mono {G G' : List ByteArray} : ∀ (l : List ByteArray) (M : List Md) (a : Nat), agd G a M l → (∀ y, a ≤ y → y < pos a (M.take l.length) → G'[y]? = G[y]?) → agd G' a M l
  | [], M, _, _, _ => by cases M <;> exact True.intro
  | _ :: _, [], _, _, _ => True.intro
  | s :: l, m :: M, a, h, hs => by
    have hs : ∀ y, a ≤ y → y < pos (nxt a m) (M.take l.length) → G'[y]? = G[y]? := hs
    refine ⟨h.1.mono fun y h1 h2 => hs y h1 (Nat.lt_of_lt_of_le h2 (Nat.le_trans (At.le_nxt a m) (pos_ge _ _))), fun hb => ?_, agd_mono l M _ h.2.2 fun y h1 h2 => hs y (Nat.le_trans (nxt_ge a m) h1) h2⟩
    rw [hs _ (by omega) (Nat.lt_of_lt_of_le (by unfold nxt; rw [hb]; simp) (pos_ge _ _))]
    exact h.2.1 hb
theorem agr_append {G : List ByteArray} : ∀ (M M' : List Md) (a : Nat), agr G a (M ++ M') ↔ agr G a M ∧ agr G (pos a M) M'
  | [], M', a => ⟨fun h => ⟨True.intro, h⟩, fun h => h.2⟩
  | m :: M, M', a => by
    show (At G a m.2.2 ∧ agr G (nxt a m) (M ++ M')) ↔ (At G a m.2.2 ∧ agr G (nxt a m) M) ∧ agr G (pos (nxt a m) M) M'
    rw [agr_append M M', and_assoc]
theorem setL_spec : ∀ (l : List ByteArray) (M : List Md) (a : Nat) (G : List ByteArray), l.length ≤ M.length → agr G a (M.take l.length) → pos a (M.take l.length) ≤ G.length →
    (setL (itm a M) l G).length = G.length ∧ (∀ y, y < a → (setL (itm a M) l G)[y]? = G[y]?) ∧ (∀ y, pos a (M.take l.length) ≤ y → (setL (itm a M) l G)[y]? = G[y]?) ∧ agd (setL (itm a M) l G) a M l
  | [], M, a, G, _, _, _ => by
    have e : setL (itm a M) [] G = G := by cases M <;> rfl
    rw [e]
    exact ⟨rfl, fun _ _ => rfl, fun _ _ => rfl, by cases M <;> exact True.intro⟩
  | s :: l, [], a, G, hl, _, _ => absurd hl (by simp)
  | s :: l, (b, x, g) :: M, a, G, hl, ha, hp => by
    obtain ⟨h1, h2⟩ := (show At G a g ∧ agr G (nxt a (b, x, g)) (M.take l.length) from ha)
    have hp : pos (nxt a (b, x, g)) (M.take l.length) ≤ G.length := hp
    have hl2 : l.length ≤ M.length := by simpa using hl
    cases b with
    | true =>
      have e : setL (itm a ((true, x, g) :: M)) (s :: l) G = setL (itm (nxt a (true, x, g)) M) l G := rfl
      rw [e]
      obtain ⟨i1, i2, i3, i4⟩ := setL_spec l M _ G hl2 h2 hp
      have hn : nxt a (true, x, g) = a + g.length := rfl
      refine ⟨i1, fun y hy => i2 y (by omega), i3, ?_, (fun q => by cases q), i4⟩
      exact h1.mono fun y _ q => i2 y (by omega)
    | false =>
      have hn : nxt a (false, x, g) = a + g.length + 1 := rfl
      have hlt : a + g.length < G.length := by have := pos_ge (M.take l.length) (nxt a (false, x, g)); omega
      have e : setL (itm a ((false, x, g) :: M)) (s :: l) G = setL (itm (nxt a (false, x, g)) M) l (G.set (a + g.length) s) := by
        show setL (itm (nxt a (false, x, g)) M) l (if 0 ≤ ((a + g.length : Nat) : Int) then G.set ((a + g.length : Nat) : Int).toNat s else G) = _
        rw [if_pos (by omega), Int.toNat_natCast]
      rw [e]
      have hne : ∀ y, y ≠ a + g.length → (G.set (a + g.length) s)[y]? = G[y]? := fun y hy => List.getElem?_set_ne (Ne.symm hy)
      obtain ⟨i1, i2, i3, i4⟩ := setL_spec l M (nxt a (false, x, g)) (G.set (a + g.length) s) hl2 (agr_mono _ _ h2 fun y q _ => hne y (by omega)) (by rw [List.length_set]; exact hp)
      refine ⟨by rw [i1, List.length_set], fun y hy => (i2 y (by omega)).trans (hne y (by omega)), fun y hy => ?_, ?_, fun _ => ?_, i4⟩
      · have hy : pos (nxt a (false, x, g)) (M.take l.length) ≤ y := hy
        have := pos_ge (M.take l.length) (nxt a (false, x, g))
        exact (i3 y hy).trans (hne y (by omega))
      · exact h1.mono fun y q1 q2 => (i2 y (by have q2 : y < a + g.length := q2; omega)).trans (hne y (by have q2 : y < a + g.length := q2; omega))
      · show (setL _ l _)[a + g.length]? = some s
        rw [i2 _ (by omega), List.getElem?_set_self hlt]
theorem rgR_spec : ∀ (q : List Hk) (i a : Nat) (M : List Md) (G : List ByteArray), ch ((i : Int) - 1) q → (∀ h ∈ q, (hkEnd h).toNat - i ≤ M.length) → agr G a M → (∀ h ∈ q, pos a (M.take ((hkEnd h).toNat - i)) ≤ G.length) →
    (rgR i (itm a M) G q).length = G.length ∧ (∀ y, y < a → (rgR i (itm a M) G q)[y]? = G[y]?) ∧ agq (rgR i (itm a M) G q) i a M q
  | [], i, a, M, G, _, _, ha, _ => ⟨rfl, fun _ _ => rfl, ha⟩
  | h :: q, i, a, M, G, hc, hl, ha, hp => by
    obtain ⟨c1, c2⟩ := hc
    have he : hkEnd h = h.1 + h.2.1.length := rfl
    have hl0 := hl h List.mem_cons_self
    have hp0 := hp h List.mem_cons_self
    have eE : ((hkEnd h).toNat : Int) = hkEnd h := by rw [he]; omega
    have e2 : (hkEnd h).toNat - i = (h.1.toNat - i) + h.2.1.length := by rw [he]; omega
    have e3 : M.take ((hkEnd h).toNat - i) = M.take (h.1.toNat - i) ++ (M.drop (h.1.toNat - i)).take h.2.1.length := by rw [e2, List.take_add]
    have eG : rgR i (itm a M) G (h :: q) = rgR (hkEnd h).toNat (itm (pos a (M.take ((hkEnd h).toNat - i))) (M.drop ((hkEnd h).toNat - i))) (setL (itm (pos a (M.take (h.1.toNat - i))) (M.drop (h.1.toNat - i))) h.2.1 G) q := by
      rw [← itm_drop, ← itm_drop]; rfl
    rw [eG]
    have ea : agr G a (M.take (h.1.toNat - i)) ∧ agr G (pos a (M.take (h.1.toNat - i))) (M.drop (h.1.toNat - i)) := by
      rw [← agr_append, List.take_append_drop]; exact ha
    have ea2 : agr G (pos a (M.take ((hkEnd h).toNat - i))) (M.drop ((hkEnd h).toNat - i)) := by
      refine ((agr_append (M.take ((hkEnd h).toNat - i)) _ a).1 ?_).2
      rw [List.take_append_drop]; exact ha
    have ea1 : agr G (pos a (M.take (h.1.toNat - i))) ((M.drop (h.1.toNat - i)).take h.2.1.length) := by
      refine ((agr_append _ ((M.drop (h.1.toNat - i)).drop h.2.1.length) _).1 ?_).1
      rw [List.take_append_drop]; exact ea.2
    have ep : pos (pos a (M.take (h.1.toNat - i))) ((M.drop (h.1.toNat - i)).take h.2.1.length) = pos a (M.take ((hkEnd h).toNat - i)) := by rw [← pos_append, ← e3]
    obtain ⟨s1, s2, s3, s4⟩ := setL_spec h.2.1 (M.drop (h.1.toNat - i)) (pos a (M.take (h.1.toNat - i))) G (by rw [List.length_drop]; omega) ea1 (by rw [ep]; exact hp0)
    rw [ep] at s3
    generalize setL (itm (pos a (M.take (h.1.toNat - i))) (M.drop (h.1.toNat - i))) h.2.1 G = G1 at s1 s2 s3 s4 ⊢
    obtain ⟨i1, i2, i3⟩ := rgR_spec q (hkEnd h).toNat (pos a (M.take ((hkEnd h).toNat - i))) (M.drop ((hkEnd h).toNat - i)) G1 (by rw [eE]; exact ch_le (by omega) c2)
      (fun k hk => by have := hl k (List.mem_cons_of_mem _ hk); rw [List.length_drop]; omega) (agr_mono _ _ ea2 fun y q1 _ => s3 y q1) (fun k hk => by
        have hk' := hp k (List.mem_cons_of_mem _ hk)
        have hke : (hkEnd h).toNat ≤ (hkEnd k).toNat := by
          have := ch_all c2 k hk
          have := hkEnd_ge k
          omega
        have e4 : M.take ((hkEnd k).toNat - i) = M.take ((hkEnd h).toNat - i) ++ (M.drop ((hkEnd h).toNat - i)).take ((hkEnd k).toNat - (hkEnd h).toNat) := by
          rw [show (hkEnd k).toNat - i = ((hkEnd h).toNat - i) + ((hkEnd k).toNat - (hkEnd h).toNat) by omega, List.take_add]
        rw [e4, pos_append] at hk'
        rw [s1]; exact hk')
    have hpos : pos a (M.take (h.1.toNat - i)) ≤ pos a (M.take ((hkEnd h).toNat - i)) := by rw [← ep]; exact pos_ge _ _
    refine ⟨by rw [i1, s1], fun y hy => ?_, ?_, ?_, i3⟩
    · have := pos_ge (M.take (h.1.toNat - i)) a
      exact (i2 y (by omega)).trans (s2 y (by omega))
    · exact agr_mono _ _ ea.1 fun y _ hy => (i2 y (by omega)).trans (s2 y hy)
    · exact agd_mono _ _ _ s4 fun y _ hy => i2 y (by rw [ep] at hy; exact hy)
/-! ### the first stage -/
theorem setAt_len : ∀ (l : List ByteArray) (G : List ByteArray) (a : Nat), (setAt G a l).length = G.length
  | [], _, _ => rfl
  | s :: l, G, a => by show (setAt (G.set a s) (a + 1) l).length = _; rw [setAt_len l, List.length_set]
theorem setAt_out : ∀ (l : List ByteArray) (G : List ByteArray) (a y : Nat), y < a ∨ a + l.length ≤ y → (setAt G a l)[y]? = G[y]?
  | [], _, _, _, _ => rfl
  | s :: l, G, a, y, h => by
    show (setAt (G.set a s) (a + 1) l)[y]? = _
    rw [List.length_cons] at h
    rw [setAt_out l _ _ _ (by omega), List.getElem?_set_ne (by omega)]
theorem setAt_at : ∀ (l : List ByteArray) (G : List ByteArray) (a : Nat), a + l.length ≤ G.length → At (setAt G a l) a l
  | [], _, _, _ => At.nil
  | s :: l, G, a, h => by
    rw [List.length_cons] at h
    intro j hj
    show (setAt (G.set a s) (a + 1) l)[a + j]? = _
    cases j with
    | zero =>
      show (setAt (G.set a s) (a + 1) l)[a]? = some s
      rw [setAt_out l _ _ _ (.inl (by omega)), List.getElem?_set_self (by omega)]
    | succ j =>
      rw [show a + (j + 1) = a + 1 + j by omega]
      exact setAt_at l _ _ (by rw [List.length_set]; omega) j (by simpa using hj)
theorem At.append {G : List ByteArray} {a : Nat} {g o : List ByteArray} (h1 : At G a g) (h2 : At G (a + g.length) o) : At G a (g ++ o) := fun j hj => by
  rcases Nat.lt_or_ge j g.length with q | q
  · rw [List.getElem_append_left q]; exact h1 j q
  · rw [List.length_append] at hj
    rw [List.getElem_append_right q, show a + j = a + g.length + (j - g.length) by omega]
    exact h2 (j - g.length) (by omega)
theorem itm_append : ∀ (M M' : List Md) (a : Nat), itm a (M ++ M') = itm a M ++ itm (pos a M) M'
  | [], _, _ => rfl
  | m :: M, M', a => by show itOf a m :: itm (nxt a m) (M ++ M') = _; rw [itm_append M M']; rfl
theorem plain0 (G : List ByteArray) : ∀ (n a : Nat), itm a (plainL n []) = olds n a ∧ pos a (plainL n []) = a + n ∧ agr G a (plainL n [])
  | 0, _ => ⟨rfl, rfl, True.intro⟩
  | n + 1, a => by
    obtain ⟨h1, h2, h3⟩ := plain0 G n (a + 1)
    refine ⟨?_, ?_, At.nil, h3⟩
    · show (((a : Nat) : Int), _) :: itm (a + 1) (plainL n []) = _; rw [h1]; rfl
    · show pos (a + 1) (plainL n []) = _; rw [h2]; omega
theorem plain_it {G : List ByteArray} (n a b : Nat) (g : List ByteArray) (hb : b + g.length = a) (hg : At G b g) : itm b (plainL n g) = olds n a ∧ pos b (plainL n g) + (plainG n g).length = a + n ∧ agr G b (plainL n g) := by
  cases n with
  | zero => exact ⟨rfl, hb, True.intro⟩
  | succ n =>
    obtain ⟨h1, h2, h3⟩ := plain0 G n (a + 1)
    have e : nxt b (false, ByteArray.empty, g) = a + 1 := by show b + g.length + 1 = _; omega
    refine ⟨?_, ?_, hg, ?_⟩
    · show (((b + g.length : Nat) : Int), ByteArray.empty) :: itm (nxt b (false, ByteArray.empty, g)) (plainL n []) = _
      rw [e, h1, hb]; rfl
    · show pos (nxt b (false, ByteArray.empty, g)) (plainL n []) + 0 = _
      rw [e, h2]; omega
    · show agr G (nxt b (false, ByteArray.empty, g)) (plainL n [])
      rw [e]; exact h3
theorem ins0 (G : List ByteArray) : ∀ (l : List ByteArray) (a : Nat), itm a (insL l []) = news l ∧ pos a (insL l []) = a ∧ agr G a (insL l [])
  | [], _ => ⟨rfl, rfl, True.intro⟩
  | x :: l, a => by
    obtain ⟨h1, h2, h3⟩ := ins0 G l a
    refine ⟨?_, h2, At.nil, h3⟩
    show ((-1 : Int), x) :: itm a (insL l []) = _; rw [h1]; rfl
theorem ins_it {G : List ByteArray} (l : List ByteArray) (a b : Nat) (g : List ByteArray) (hb : b + g.length = a) (hg : At G b g) : itm b (insL l g) = news l ∧ pos b (insL l g) + (insG l g).length = a ∧ agr G b (insL l g) := by
  cases l with
  | nil => exact ⟨rfl, hb, True.intro⟩
  | cons x l =>
    obtain ⟨h1, h2, h3⟩ := ins0 G l a
    have e : nxt b (true, x, g) = a := hb
    refine ⟨?_, ?_, hg, ?_⟩
    · show ((-1 : Int), x) :: itm (nxt b (true, x, g)) (insL l []) = _
      rw [e, h1]; rfl
    · show pos (nxt b (true, x, g)) (insL l []) + 0 = _
      rw [e, h2]; rfl
    · show agr G (nxt b (true, x, g)) (insL l [])
      rw [e]; exact h3
theorem olds_add : ∀ (n m a : Nat), olds (n + m) a = olds n a ++ olds m (a + n)
  | 0, m, a => by rw [Nat.zero_add]; rfl
  | n + 1, m, a => by
    rw [show n + 1 + m = (n + m) + 1 by omega]
    show _ :: olds (n + m) (a + 1) = _ :: (olds n (a + 1) ++ _)
    rw [olds_add n m, show a + 1 + n = a + (n + 1) by omega]
theorem mid_items : ∀ (p : List Hk) (a b : Nat) (g G : List ByteArray), ch ((a : Int) - 1) p → (∀ h ∈ p, hkEnd h ≤ 120) → G.length = 400 → a ≤ 120 → b + g.length = a → At G b g →
    ∃ m, itm b (midL a p g) = rmid 400 a p ++ olds m 400 ∧ pos b (midL a p g) = 400 + m ∧ agr (rg1 G p) b (midL a p g) ∧ (∀ y, y < a → (rg1 G p)[y]? = G[y]?) ∧ (rg1 G p).length = 400
  | [], a, b, g, G, _, _, hG, ha, hb, hg => by
    obtain ⟨h1, h2, h3⟩ := plain_it (G := G) 480 a b g hb hg
    refine ⟨80 + a, ?_, ?_, h3, fun _ _ => rfl, hG⟩
    · show itm b (plainL 480 g) = olds (400 - a) a ++ olds (80 + a) 400
      rw [h1, show (480 : Nat) = (400 - a) + (80 + a) by omega, olds_add, show a + (400 - a) = 400 by omega]
    · have : pos b (plainL 480 g) + 0 = a + 480 := h2
      show pos b (plainL 480 g) = _
      omega
  | h :: p, a, b, g, G, hc, he, hG, ha, hb, hg => by
    obtain ⟨c1, c2⟩ := hc
    have e0 : hkEnd h = h.1 + h.2.1.length := rfl
    have e1 := he h List.mem_cons_self
    have eE : ((hkEnd h).toNat : Int) = hkEnd h := by rw [e0]; omega
    have g1 : At (setAt G h.1.toNat h.2.1) b g := hg.mono fun y q1 q2 => setAt_out _ _ _ _ (.inl (by omega))
    obtain ⟨p1, p2, p3⟩ := plain_it (h.1.toNat - a) a b g hb g1
    have hb1 : b ≤ pos b (plainL (h.1.toNat - a) g) := pos_ge _ _
    have hat : At (setAt G h.1.toNat h.2.1) (pos b (plainL (h.1.toNat - a) g)) (plainG (h.1.toNat - a) g) := by
      rcases Nat.eq_zero_or_pos (h.1.toNat - a) with q | q
      · rw [q]; exact g1
      · obtain ⟨n, hn⟩ : ∃ n, h.1.toNat - a = n + 1 := ⟨h.1.toNat - a - 1, by omega⟩
        rw [hn]; exact At.nil
    have g2 : At (setAt G h.1.toNat h.2.1) (pos b (plainL (h.1.toNat - a) g)) (plainG (h.1.toNat - a) g ++ h.2.1) := by
      refine hat.append ?_
      rw [p2, show a + (h.1.toNat - a) = h.1.toNat by omega]
      exact setAt_at _ _ _ (by rw [hG]; rw [e0] at e1; omega)
    obtain ⟨q1, q2, q3⟩ := ins_it h.2.2 (hkEnd h).toNat (pos b (plainL (h.1.toNat - a) g)) (plainG (h.1.toNat - a) g ++ h.2.1) (by rw [List.length_append, ← Nat.add_assoc, p2, e0]; omega) g2
    have hat2 : At (setAt G h.1.toNat h.2.1) (pos (pos b (plainL (h.1.toNat - a) g)) (insL h.2.2 (plainG (h.1.toNat - a) g ++ h.2.1))) (insG h.2.2 (plainG (h.1.toNat - a) g ++ h.2.1)) := by
      generalize h.2.2 = nw
      cases nw with
      | nil => exact g2
      | cons x nw => exact At.nil
    obtain ⟨m, i1, i2, i3, i4, i5⟩ := mid_items p (hkEnd h).toNat _ _ (setAt G h.1.toNat h.2.1) (by rw [eE]; exact ch_le (by omega) c2) (fun k hk => he k (List.mem_cons_of_mem _ hk)) (by rw [setAt_len, hG]) (by omega) q2 hat2
    rw [eE] at i1 i2 i3
    have em : midL (a : Int) (h :: p) g = plainL (h.1.toNat - a) g ++ (insL h.2.2 (plainG (h.1.toNat - a) g ++ h.2.1) ++ midL (hkEnd h) p (insG h.2.2 (plainG (h.1.toNat - a) g ++ h.2.1))) := by
      show plainL (h.1 - (a : Int)).toNat g ++ insL h.2.2 (plainG (h.1 - (a : Int)).toNat g ++ h.2.1) ++ midL (hkEnd h) p (insG h.2.2 (plainG (h.1 - (a : Int)).toNat g ++ h.2.1)) = _
      rw [show (h.1 - (a : Int)).toNat = h.1.toNat - a by omega, List.append_assoc]
    refine ⟨m, ?_, ?_, ?_, fun y hy => ?_, i5⟩
    · rw [em, itm_append, itm_append, p1, q1, i1]
      show _ = olds (h.1.toNat - a) a ++ (news h.2.2 ++ rmid 400 (hkEnd h).toNat p) ++ olds m 400
      rw [List.append_assoc, List.append_assoc]
    · rw [em, pos_append, pos_append, i2]
    · rw [em, agr_append, agr_append]
      show agr (rg1 (setAt G h.1.toNat h.2.1) p) _ _ ∧ _
      refine ⟨agr_mono _ _ p3 fun y _ hy => i4 y (by omega), agr_mono _ _ q3 fun y _ hy => i4 y (by omega), i3⟩
    · show (rg1 (setAt G h.1.toNat h.2.1) p)[y]? = _
      rw [i4 y (by rw [e0]; omega), setAt_out _ _ _ _ (.inl (by omega))]
/-! ### together -/
theorem end_le {h k : Hk} {q : List Hk} (hc : ch (hkEnd h) q) (hk : k ∈ q) : (hkEnd h).toNat ≤ (hkEnd k).toNat := by
  have := ch_all hc k hk
  have := hkEnd_ge k
  omega
theorem rlastR_app (T : List It) : ∀ (q : List Hk) (e : Int) (n : Nat) (Y : List It), ch e q → (∀ h ∈ q, (hkEnd h).toNat - n ≤ Y.length) → (∀ h ∈ q, 0 ≤ h.1 ∧ n ≤ h.1.toNat) → rlastR n (Y ++ T) q = rlastR n Y q ++ T
  | [], _, _, _, _, _, _ => rfl
  | h :: q, e, n, Y, hc, hl, hz => by
    have h0 := hl h List.mem_cons_self
    obtain ⟨z0, z1⟩ := hz h List.mem_cons_self
    have he : hkEnd h = h.1 + h.2.1.length := rfl
    show (Y ++ T).take (h.1.toNat - n) ++ (news h.2.2 ++ rlastR (hkEnd h).toNat ((Y ++ T).drop ((hkEnd h).toNat - n)) q) = (Y.take (h.1.toNat - n) ++ (news h.2.2 ++ rlastR (hkEnd h).toNat (Y.drop ((hkEnd h).toNat - n)) q)) ++ T
    rw [List.take_append_of_le_length (by omega), List.drop_append_of_le_length h0, rlastR_app T q (hkEnd h) _ _ hc.2 (fun k hk => by
      have := hl k (List.mem_cons_of_mem _ hk)
      rw [List.length_drop]
      have := end_le hc.2 hk
      omega) (fun k hk => by
        have := ch_all hc.2 k hk
        have := hz k (List.mem_cons_of_mem _ hk)
        omega), List.append_assoc, List.append_assoc]
theorem setL_app (T : List It) : ∀ (l : List ByteArray) (Y : List It) (G : List ByteArray), l.length ≤ Y.length → setL (Y ++ T) l G = setL Y l G
  | [], Y, G, _ => by
    have : ∀ Z : List It, setL Z [] G = G := fun Z => by cases Z <;> rfl
    rw [this, this]
  | _ :: _, [], _, h => absurd h (by simp)
  | s :: l, x :: Y, G, h => setL_app T l Y _ (by simpa using h)
theorem rgR_app (T : List It) : ∀ (q : List Hk) (e : Int) (n : Nat) (Y : List It) (G : List ByteArray), ch e q → (∀ h ∈ q, (hkEnd h).toNat - n ≤ Y.length) → (∀ h ∈ q, 0 ≤ h.1 ∧ n ≤ h.1.toNat) → rgR n (Y ++ T) G q = rgR n Y G q
  | [], _, _, _, _, _, _, _ => rfl
  | h :: q, e, n, Y, G, hc, hl, hz => by
    have h0 := hl h List.mem_cons_self
    obtain ⟨z0, z1⟩ := hz h List.mem_cons_self
    have he : hkEnd h = h.1 + h.2.1.length := rfl
    show rgR (hkEnd h).toNat ((Y ++ T).drop ((hkEnd h).toNat - n)) (setL ((Y ++ T).drop (h.1.toNat - n)) h.2.1 G) q = rgR (hkEnd h).toNat (Y.drop ((hkEnd h).toNat - n)) (setL (Y.drop (h.1.toNat - n)) h.2.1 G) q
    have d1 : (Y ++ T).drop (h.1.toNat - n) = Y.drop (h.1.toNat - n) ++ T := List.drop_append_of_le_length (by omega)
    have d2 : (Y ++ T).drop ((hkEnd h).toNat - n) = Y.drop ((hkEnd h).toNat - n) ++ T := List.drop_append_of_le_length h0
    rw [d1, d2, setL_app _ _ _ _ (by rw [List.length_drop]; omega)]
    exact rgR_app T q (hkEnd h) _ _ _ hc.2 (fun k hk => by
      have := hl k (List.mem_cons_of_mem _ hk)
      rw [List.length_drop]
      have := end_le hc.2 hk
      omega) (fun k hk => by
        have := ch_all hc.2 k hk
        have := hz k (List.mem_cons_of_mem _ hk)
        omega)
theorem rbad_itm : ∀ (l : List ByteArray) (M : List Md) (a : Nat), rbad (itm a M) l = bad M l
  | [], M, a => by cases M <;> rfl
  | _ :: _, [], _ => rfl
  | s :: l, (b, x, g) :: M, a => by
    show ((decide ((itOf a (b, x, g)).1 < 0) && !decide ((itOf a (b, x, g)).2 = s)) || rbad (itm (nxt a (b, x, g)) M) l) = ((b && !decide (x = s)) || bad M l)
    rw [rbad_itm l M]
    cases b with
    | true => rfl
    | false =>
      have : decide ((itOf a (false, x, g)).1 < 0) = false := decide_eq_false (by show ¬ ((a + g.length : Nat) : Int) < 0; omega)
      rw [this]; rfl
theorem rbad_app (T : List It) : ∀ (l : List ByteArray) (Y : List It), l.length ≤ Y.length → rbad (Y ++ T) l = rbad Y l
  | [], Y, _ => by
    have : ∀ Z : List It, rbad Z [] = false := fun Z => by cases Z <;> rfl
    rw [this, this]
  | _ :: _, [], h => absurd h (by simp)
  | s :: l, x :: Y, h => by show (_ || rbad (Y ++ T) l) = (_ || rbad Y l); rw [rbad_app T l Y (by simpa using h)]
theorem rconf_conf {M : List Md} {X T : List It} (hX : itm 0 M = X ++ T) : ∀ (q : List Hk) (i n : Nat) (e : Int), ch e q → (∀ h ∈ q, (hkEnd h).toNat ≤ X.length) → (∀ h ∈ q, 0 ≤ h.1 ∧ n ≤ h.1.toNat) → rconf i n (X.drop n) q = confI i M q
  | [], _, _, _, _, _, _ => rfl
  | h :: q, i, n, e, hc, hl, hz => by
    have h0 := hl h List.mem_cons_self
    obtain ⟨z0, z1⟩ := hz h List.mem_cons_self
    have he : hkEnd h = h.1 + h.2.1.length := rfl
    have e1 : rbad (X.drop h.1.toNat) h.2.1 = bad (M.drop h.1.toNat) h.2.1 := by
      rw [← rbad_itm _ _ (pos 0 (M.take h.1.toNat)), ← itm_drop, hX, List.drop_append_of_le_length (by omega), rbad_app _ _ _ (by rw [List.length_drop]; omega)]
    show (if rbad ((X.drop n).drop (h.1.toNat - n)) h.2.1 = true then some i else rconf (i + 1) (hkEnd h).toNat ((X.drop n).drop ((hkEnd h).toNat - n)) q) = if bad (M.drop h.1.toNat) h.2.1 = true then some i else confI (i + 1) M q
    rw [List.drop_drop, List.drop_drop, show n + (h.1.toNat - n) = h.1.toNat by omega, show n + ((hkEnd h).toNat - n) = (hkEnd h).toNat by omega, e1,
      rconf_conf hX q (i + 1) (hkEnd h).toNat (hkEnd h) hc.2 (fun k hk => hl k (List.mem_cons_of_mem _ hk)) (fun k hk => by
        have := ch_all hc.2 k hk
        have := hz k (List.mem_cons_of_mem _ hk)
        omega)]
theorem olds_len : ∀ (n a : Nat), (olds n a).length = n
  | 0, _ => rfl
  | n + 1, a => by show (olds n (a + 1)).length + 1 = _; rw [olds_len n]
theorem olds_mem : ∀ (n a : Nat), ∀ x ∈ olds n a, 0 ≤ x.1 ∧ x.1 < ((a + n : Nat) : Int)
  | 0, _, x, hx => by cases hx
  | n + 1, a, x, hx => by
    rcases List.mem_cons.1 (show x ∈ (((a : Nat) : Int), ByteArray.empty) :: olds n (a + 1) from hx) with rfl | hx
    · exact ⟨by show (0 : Int) ≤ (a : Int); omega, by show (a : Int) < _; omega⟩
    · have := olds_mem n (a + 1) x hx
      exact ⟨this.1, by omega⟩
theorem rmid_facts : ∀ (p : List Hk) (a : Nat), ch ((a : Int) - 1) p → (∀ h ∈ p, hkEnd h ≤ 120 ∧ h.2.2.length ≤ 120) → a ≤ 120 →
    280 ≤ (rmid 400 a p).length ∧ (rmid 400 a p).length + a ≤ 400 + 120 * p.length ∧ (∀ x ∈ rmid 400 a p, -1 ≤ x.1 ∧ x.1 < 400) ∧ ∃ X, rmid 400 a p = X ++ [(((399 : Nat) : Int), ByteArray.empty)]
  | [], a, _, _, ha => by
    refine ⟨?_, ?_, fun x hx => ?_, olds (399 - a) a, ?_⟩
    · show 280 ≤ (olds (400 - a) a).length; rw [olds_len]; omega
    · show (olds (400 - a) a).length + a ≤ 400 + 120 * 0; rw [olds_len]; omega
    · have := olds_mem (400 - a) a x hx
      omega
    · show olds (400 - a) a = _
      rw [show 400 - a = (399 - a) + 1 by omega, olds_add, show a + (399 - a) = 399 by omega]; rfl
  | h :: p, a, hc, he, ha => by
    obtain ⟨c1, c2⟩ := hc
    have e0 : hkEnd h = h.1 + h.2.1.length := rfl
    obtain ⟨e1, e2⟩ := he h List.mem_cons_self
    have eE : ((hkEnd h).toNat : Int) = hkEnd h := by rw [e0]; omega
    obtain ⟨i1, i2, i3, X, i4⟩ := rmid_facts p (hkEnd h).toNat (by rw [eE]; exact ch_le (by omega) c2) (fun k hk => he k (List.mem_cons_of_mem _ hk)) (by omega)
    have el : (rmid 400 a (h :: p)).length = (h.1.toNat - a) + (h.2.2.length + (rmid 400 (hkEnd h).toNat p).length) := by
      show (olds (h.1.toNat - a) a ++ (news h.2.2 ++ rmid 400 (hkEnd h).toNat p)).length = _
      rw [List.length_append, List.length_append, olds_len]
      unfold news; rw [List.length_map]
    refine ⟨by rw [el]; omega, ?_, fun x hx => ?_, olds (h.1.toNat - a) a ++ (news h.2.2 ++ X), ?_⟩
    · rw [el, List.length_cons]
      have : a ≤ h.1.toNat := by omega
      have : h.1.toNat ≤ (hkEnd h).toNat := by rw [e0]; omega
      omega
    · have hx : x ∈ olds (h.1.toNat - a) a ++ (news h.2.2 ++ rmid 400 (hkEnd h).toNat p) := hx
      rcases List.mem_append.1 hx with hx | hx
      · have := olds_mem _ _ x hx
        rw [e0] at e1
        omega
      rcases List.mem_append.1 hx with hx | hx
      · obtain ⟨t, _, rfl⟩ := List.mem_map.1 hx
        exact ⟨by show (-1 : Int) ≤ -1; decide, by show (-1 : Int) < 400; decide⟩
      · exact i3 x hx
    · show olds (h.1.toNat - a) a ++ (news h.2.2 ++ rmid 400 (hkEnd h).toNat p) = _
      rw [i4, List.append_assoc, List.append_assoc]
theorem itm_ge : ∀ (M : List Md) (a : Nat), ∀ x ∈ itm a M, 0 ≤ x.1 → a ≤ x.1.toNat
  | [], _, x, hx, _ => by cases hx
  | (b, l, g) :: M, a, x, hx, h0 => by
    rcases List.mem_cons.1 (show x ∈ itOf a (b, l, g) :: itm (nxt a (b, l, g)) M from hx) with rfl | hx
    · cases b with
      | true => exact absurd h0 (by show ¬ (0 : Int) ≤ -1; decide)
      | false => show a ≤ ((a + g.length : Nat) : Int).toNat; omega
    · exact Nat.le_trans (nxt_ge a _) (itm_ge M _ x hx h0)
def gone0 : List ByteArray := List.replicate 400 ByteArray.empty
def rcX (p : List Hk) : List It := rmid 400 0 p
def rcL (p q : List Hk) : List It := rlastR 0 (rcX p) q
def rcG (p q : List Hk) : List ByteArray := rgR 0 (rcX p) (rg1 gone0 p) q
/-- the old lines of a list of items grow -/
def inc : Nat → List It → Prop
  | _, [] => True
  | f, x :: L => (x.1 < 0 ∧ inc f L) ∨ (0 ≤ x.1 ∧ f ≤ x.1.toNat ∧ inc (x.1.toNat + 1) L)
theorem inc_prefix : ∀ (A B : List It) (f : Nat), inc f (A ++ B) → inc f A
  | [], _, _, _ => True.intro
  | x :: A, B, f, h => by
    rcases (show (x.1 < 0 ∧ inc f (A ++ B)) ∨ (0 ≤ x.1 ∧ f ≤ x.1.toNat ∧ inc (x.1.toNat + 1) (A ++ B)) from h) with ⟨h1, h2⟩ | ⟨h1, h2, h3⟩
    · exact .inl ⟨h1, inc_prefix A B f h2⟩
    · exact .inr ⟨h1, h2, inc_prefix A B _ h3⟩
theorem lk_inc {G : List ByteArray} {a : Nat} {L : List It} {E : List (Int × ByteArray)} {e : Nat} (h : Lk G a L E e) : ∀ f, f ≤ a → inc f L := by
  induction h with
  | nil a => intro f _; exact True.intro
  | @keep a L E e s z h ih =>
    intro f hf
    refine .inr ⟨by show (0 : Int) ≤ ((a : Nat) : Int); omega, by show f ≤ ((a : Nat) : Int).toNat; omega, ?_⟩
    show inc (((a : Nat) : Int).toNat + 1) L
    rw [Int.toNat_natCast]; exact ih (a + 1) (Nat.le_refl _)
  | @del a L E e s hg h ih => intro f hf; exact ih f (by omega)
  | @ins a L E e s h ih => intro f hf; exact .inl ⟨by show (-1 : Int) < 0; decide, ih f hf⟩
theorem rlastR_mem : ∀ (q : List Hk) (n : Nat) (Y : List It), ∀ x ∈ rlastR n Y q, x ∈ Y ∨ x.1 = -1
  | [], _, Y, x, hx => .inl hx
  | h :: q, n, Y, x, hx => by
    have hx : x ∈ Y.take (h.1.toNat - n) ++ (news h.2.2 ++ rlastR (hkEnd h).toNat (Y.drop ((hkEnd h).toNat - n)) q) := hx
    rcases List.mem_append.1 hx with hx | hx
    · exact .inl (List.mem_of_mem_take hx)
    rcases List.mem_append.1 hx with hx | hx
    · obtain ⟨t, _, rfl⟩ := List.mem_map.1 hx
      exact .inr rfl
    · rcases rlastR_mem q _ _ x hx with hx | hx
      · exact .inl (List.mem_of_mem_drop hx)
      · exact .inr hx
theorem rcom {p q : List Hk} (hp : pC p = 0) (hq : pC q = 0) : rconf 0 0 (rcX p) q = confI 0 (coM p) q ∧ ro (rcG p q) 0 [] (rcL p q) = coR p q ∧ (rg1 gone0 p).length = 400 ∧ (rcG p q).length = 400 ∧ inc 0 (rcL p q) ∧ ∀ x ∈ rcL p q, x.1 < 400 := by
  obtain ⟨p1, p2, p3⟩ := pC_iff.1 hp
  obtain ⟨q1, q2, q3⟩ := pC_iff.1 hq
  have hg0 : gone0.length = 400 := List.length_replicate
  obtain ⟨m, a1, a2, a3, -, a5⟩ := mid_items p 0 0 [] gone0 p2 (fun h hh => (p3 h hh).2.2.2.2.2) hg0 (by omega) rfl At.nil
  obtain ⟨b1, b2, b3, X, b4⟩ := rmid_facts p 0 p2 (fun h hh => ⟨(p3 h hh).2.2.2.2.2, vC_len _ (p3 h hh).2.2.2.1⟩) (by omega)
  have a1 : itm 0 (coM p) = rcX p ++ olds m 400 := a1
  have a2 : pos 0 (coM p) = 400 + m := a2
  have a3 : agr (rg1 gone0 p) 0 (coM p) := a3
  have b1 : 280 ≤ (rcX p).length := b1
  have b3 : ∀ x ∈ rcX p, -1 ≤ x.1 ∧ x.1 < 400 := b3
  have b4 : rcX p = X ++ [(((399 : Nat) : Int), ByteArray.empty)] := b4
  have hXl : 279 ≤ X.length := by rw [b4, List.length_append, List.length_singleton] at b1; omega
  have hql : ∀ h ∈ q, (hkEnd h).toNat ≤ 120 := fun h hh => by have := (q3 h hh).2.2.2.2.2; show (h.1 + h.2.1.length).toNat ≤ 120; omega
  have hqz : ∀ h ∈ q, 0 ≤ h.1 ∧ 0 ≤ h.1.toNat := fun h hh => ⟨(q3 h hh).1, Nat.zero_le _⟩
  have hMl : (rcX p).length ≤ (coM p).length := by rw [← itm_len (coM p) 0, a1, List.length_append]; omega
  have hpos : ∀ h ∈ q, pos 0 ((coM p).take ((hkEnd h).toNat - 0)) ≤ (rg1 gone0 p).length := by
    intro h hh
    have hl := hql h hh
    rw [a5, Nat.sub_zero]
    have hm : (((399 : Nat) : Int), ByteArray.empty) ∈ itm (pos 0 ((coM p).take (hkEnd h).toNat)) ((coM p).drop (hkEnd h).toNat) := by
      rw [← itm_drop, a1, b4, List.append_assoc, List.drop_append_of_le_length (by omega)]
      exact List.mem_append.2 (.inr List.mem_cons_self)
    have : pos 0 ((coM p).take (hkEnd h).toNat) ≤ ((399 : Nat) : Int).toNat := itm_ge _ _ _ hm (by show (0 : Int) ≤ ((399 : Nat) : Int); omega)
    omega
  obtain ⟨g1, g2, g3⟩ := rgR_spec q 0 0 (coM p) (rg1 gone0 p) q2 (fun h hh => by have := hql h hh; omega) a3 hpos
  have eG : rgR 0 (itm 0 (coM p)) (rg1 gone0 p) q = rcG p q := by
    rw [a1]; exact rgR_app _ q (-1) 0 _ _ q2 (fun h hh => by have := hql h hh; omega) (fun h hh => ⟨(hqz h hh).1, Nat.zero_le _⟩)
  rw [eG] at g1 g2 g3
  have hlk0 := lk_evs q 0 0 (coM p) q2 (fun h hh => by have := hql h hh; omega) g3
  have hinc := lk_inc hlk0 0 (Nat.le_refl _)
  have hlk := lk_ro hlk0 0 [] (Nat.le_refl _)
  have eL : rlastR 0 (itm 0 (coM p)) q = rlastR 0 X q ++ (((399 : Nat) : Int), ByteArray.empty) :: olds m (399 + 1) := by
    rw [a1, b4, List.append_assoc, rlastR_app _ q (-1) 0 X q2 (fun h hh => by have := hql h hh; omega) hqz]; rfl
  have eL2 : rcL p q = rlastR 0 X q ++ [(((399 : Nat) : Int), ByteArray.empty)] := by
    unfold rcL
    rw [b4, rlastR_app _ q (-1) 0 X q2 (fun h hh => by have := hql h hh; omega) hqz]
  refine ⟨?_, ?_, a5, by rw [g1, a5], ?_, fun x hx => ?_⟩
  rotate_left 2
  · rw [eL] at hinc
    rw [eL2]
    refine inc_prefix _ (olds m (399 + 1)) 0 ?_
    rw [List.append_assoc]; exact hinc
  · rcases rlastR_mem q 0 (rcX p) x hx with hx | hx
    · exact (b3 x hx).2
    · omega
  · exact rconf_conf a1 q 0 0 (-1) q2 (fun h hh => by have := hql h hh; omega) hqz
  · rw [eL2, ro_tail _ 399 m, ← eL, show 399 + 1 + m = pos 0 (coM p) by rw [a2], hlk]
    rfl
end Go.Proofs.Ythacjpemeaekdaa
