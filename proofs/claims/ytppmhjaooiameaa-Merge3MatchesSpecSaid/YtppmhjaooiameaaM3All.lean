/- Three-way merges: all plain laws in one text (printed from M3Res, M3Law, M3One, M3Ref). No program in sight. -/
import Derived.Test.YtppmhjaooiameaaM3Pure
namespace Go.Proofs.Ytppmhjaooiameaa
open Go.RowKit

def chBad (c : Ch) : Prop := (c.1 = true ∧ 0 < c.2.1.length) ∨ (c.1 = false ∧ (c.2.1.length = 0 ∨ 0 < c.2.2.1.length + c.2.2.2.1.length + c.2.2.2.2.length))
instance (c : Ch) : Decidable (chBad c) := by unfold chBad; infer_instance
def chC (c : Ch) : Int :=
  if vC c.2.1 ≠ 0 then vC c.2.1 else if vC c.2.2.1 ≠ 0 then vC c.2.2.1 else if vC c.2.2.2.1 ≠ 0 then vC c.2.2.2.1 else if vC c.2.2.2.2 ≠ 0 then vC c.2.2.2.2 else
  if chBad c then 5 else 0
def csC : List Ch → Int
  | [] => 0
  | c :: l => if chC c = 0 then csC l else chC c
def csI : Int → List Ch → Int
  | _, [] => 0
  | i, c :: l => if chC c = 0 then csI (i + 1) l else i
def ckC (l : List Ch) : Int := if 240 < l.length then 2 else csC l
def ckI (l : List Ch) : Int := if 240 < l.length then -1 else csI 0 l
theorem csC_step {l : List Ch} {k : Nat} (h : k < l.length) : csC (l.drop k) = if chC l[k] = 0 then csC (l.drop (k + 1)) else chC l[k] := by rw [List.drop_eq_getElem_cons h]; rfl
theorem csI_step {l : List Ch} {k : Nat} (h : k < l.length) (i : Int) : csI i (l.drop k) = if chC l[k] = 0 then csI (i + 1) (l.drop (k + 1)) else i := by rw [List.drop_eq_getElem_cons h]; rfl
theorem csI_good : ∀ (l : List Ch) (i : Int), csC l = 0 → csI i l = 0
  | [], _, _ => rfl
  | c :: l, i, h => by
    unfold csC at h
    unfold csI
    split
    · rename_i q; rw [if_pos q] at h; exact csI_good l _ h
    · rename_i q; rw [if_neg q] at h; exact absurd h q
theorem ckI_good (l : List Ch) (h : ckC l = 0) : ckI l = 0 := by
  unfold ckC at h
  unfold ckI
  split
  · rename_i q; rw [if_pos q] at h; exact absurd h (by decide)
  · rename_i q; rw [if_neg q] at h; exact csI_good l _ h
theorem csC_all : ∀ {l : List Ch}, csC l = 0 ↔ ∀ c ∈ l, chC c = 0
  | [] => ⟨fun _ c h => (by cases h), fun _ => rfl⟩
  | c :: l => by
    unfold csC
    constructor
    · intro h
      split at h
      · rename_i q
        intro d hd
        rcases List.mem_cons.1 hd with rfl | hd
        · exact q
        · exact csC_all.1 h d hd
      · rename_i q; exact absurd h q
    · intro h
      rw [if_pos (h c List.mem_cons_self)]
      exact csC_all.2 fun d hd => h d (List.mem_cons_of_mem _ hd)
theorem ckC_all {l : List Ch} : ckC l = 0 ↔ l.length ≤ 240 ∧ ∀ c ∈ l, chC c = 0 := by
  unfold ckC
  constructor
  · intro h
    split at h
    · exact absurd h (by decide)
    · exact ⟨by omega, csC_all.1 h⟩
  · rintro ⟨h1, h2⟩
    rw [if_neg (by omega)]
    exact csC_all.2 h2
theorem chC_good {c : Ch} : chC c = 0 ↔ vC c.2.1 = 0 ∧ vC c.2.2.1 = 0 ∧ vC c.2.2.2.1 = 0 ∧ vC c.2.2.2.2 = 0 ∧ ¬ chBad c := by
  unfold chC
  constructor
  · intro h
    split at h
    · contradiction
    split at h
    · contradiction
    split at h
    · contradiction
    split at h
    · contradiction
    split at h
    · exact absurd h (by decide)
    rename_i a b c' d e
    exact ⟨Classical.not_not.1 a, Classical.not_not.1 b, Classical.not_not.1 c', Classical.not_not.1 d, e⟩
  · rintro ⟨a, b, c', d, e⟩
    rw [if_neg (fun z => z a), if_neg (fun z => z b), if_neg (fun z => z c'), if_neg (fun z => z d), if_neg e]
/-- how many conflicts -/
def nCf : List Ch → Nat
  | [] => 0
  | c :: l => (bif c.1 then 1 else 0) + nCf l
theorem nCf_append : ∀ (l m : List Ch), nCf (l ++ m) = nCf l + nCf m
  | [], m => by simp [nCf]
  | c :: l, m => by simp only [List.cons_append, nCf, nCf_append l m]; omega
theorem nCf_take {l : List Ch} {k : Nat} (h : k < l.length) : nCf (l.take (k + 1)) = nCf (l.take k) + (bif l[k].1 then 1 else 0) := by
  rw [List.take_add_one, List.getElem?_eq_getElem h, Option.toList_some, nCf_append]; simp [nCf]
theorem nCf_le (l : List Ch) (k : Nat) : nCf (l.take k) ≤ nCf l := by
  have := nCf_append (l.take k) (l.drop k)
  rw [List.take_append_drop] at this
  omega
theorem nCf_len : ∀ l : List Ch, nCf l ≤ l.length
  | [] => Nat.le_refl _
  | c :: l => by
    have := nCf_len l
    unfold nCf
    rw [List.length_cons]
    cases c.1 <;> simp <;> omega
def pickC (c : Ch) (n : Int) : List ByteArray := if n = 0 then c.2.2.1 else if n = 1 then c.2.2.2.1 else if n = 2 then c.2.2.2.2 else c.2.2.2.1 ++ c.2.2.2.2
def rsN : List Ch → List Int → List ByteArray
  | [], _ => []
  | c :: l, ch => bif c.1 then pickC c (ch.getD 0 0) ++ rsN l (ch.drop 1) else c.2.1 ++ rsN l ch
theorem rsN_yes {l : List Ch} {k j : Nat} (h : k < l.length) (hc : l[k].1 = true) (ch : List Int) : rsN (l.drop k) (ch.drop j) = pickC l[k] (ch.getD j 0) ++ rsN (l.drop (k + 1)) (ch.drop (j + 1)) := by
  rw [List.drop_eq_getElem_cons h]
  show (bif l[k].1 then pickC l[k] ((ch.drop j).getD 0 0) ++ rsN (l.drop (k + 1)) ((ch.drop j).drop 1) else _) = _
  rw [hc, cond_true, List.drop_drop]
  congr 2
  rw [List.getD_eq_getElem?_getD, List.getD_eq_getElem?_getD, List.getElem?_drop, Nat.add_zero]
theorem rsN_no {l : List Ch} {k : Nat} (h : k < l.length) (hc : l[k].1 = false) (ch : List Int) : rsN (l.drop k) ch = l[k].2.1 ++ rsN (l.drop (k + 1)) ch := by
  rw [List.drop_eq_getElem_cons h]
  show (bif l[k].1 then _ else _) = _
  rw [hc]; rfl
/-- the first choice that is none -/
def badI : Nat → List Int → Option Nat
  | _, [] => none
  | i, n :: l => if n < 0 ∨ 3 < n then some i else badI (i + 1) l
theorem badI_step {l : List Int} {k : Nat} (h : k < l.length) (i : Nat) : badI i (l.drop k) = if l[k] < 0 ∨ 3 < l[k] then some i else badI (i + 1) (l.drop (k + 1)) := by rw [List.drop_eq_getElem_cons h]; rfl
theorem badI_none : ∀ {l : List Int} {i : Nat}, badI i l = none ↔ ∀ n ∈ l, 0 ≤ n ∧ n ≤ 3
  | [], i => ⟨fun _ n h => (by cases h), fun _ => rfl⟩
  | n :: l, i => by
    unfold badI
    constructor
    · intro h
      split at h
      · cases h
      · rename_i q
        intro m hm
        rcases List.mem_cons.1 hm with rfl | hm
        · omega
        · exact badI_none.1 h m hm
    · intro h
      have := h n List.mem_cons_self
      rw [if_neg (by omega)]
      exact badI_none.2 fun m hm => h m (List.mem_cons_of_mem _ hm)
/-- what Resolve answers: code, index, text -/
def rsF (l : List Ch) (ch : List Int) : Int × Int :=
  if ckC l ≠ 0 then (ckC l, ckI l) else if ch.length ≠ nCf l then (9, -2) else match badI 0 ch with
  | some i => (3, -3 - (i : Int))
  | none => if 120 < (rsN l ch).length then (10, -1) else (0, 0)
def rsL (l : List Ch) (ch : List Int) : List ByteArray := if (rsF l ch).1 = 0 then rsN l ch else []
/-- what Clean answers -/
def clF (l : List Ch) : Int × Int := if ckC l ≠ 0 then (ckC l, ckI l) else if nCf l ≠ 0 then (0, 0) else if 120 < (rsN l []).length then (10, -1) else (0, 0)
def clOk (l : List Ch) : Bool := decide (ckC l = 0) && decide (nCf l = 0) && decide ((rsN l []).length ≤ 120)
def clL (l : List Ch) : List ByteArray := if clOk l = true then rsN l [] else []
theorem pickC_len {c : Ch} (h : chC c = 0) (n : Int) : (pickC c n).length ≤ 240 ∧ c.2.1.length ≤ 120 ∧ c.2.2.1.length ≤ 120 ∧ c.2.2.2.1.length ≤ 120 ∧ c.2.2.2.2.length ≤ 120 := by
  obtain ⟨h1, h2, h3, h4, -⟩ := chC_good.1 h
  have l1 := vC_len _ h1
  have l2 := vC_len _ h2
  have l3 := vC_len _ h3
  have l4 := vC_len _ h4
  refine ⟨?_, l1, l2, l3, l4⟩
  unfold pickC
  split
  · omega
  split
  · omega
  split
  · omega
  · rw [List.length_append]; omega

/-! ### length -/
theorem script_inL {a b : List ByteArray} (ha : vC a = 0) (hb : vC b = 0) : (∀ h ∈ script a b, HkOk h) ∧ (script a b).length ≤ 130 ∧ phC (-1) (script a b) = 0 ∧ ∀ h ∈ script a b, 0 ≤ h.1 ∧ hkEnd h ≤ a.length := by
  have hg := script_good ha hb
  obtain ⟨hlen, hok⟩ := pC_ok hg
  have hp : phC (-1) (script a b) = 0 := by
    unfold pC at hg
    rwa [if_neg (by omega)] at hg
  have ha' := script_ap a b
  obtain ⟨i1, -⟩ := ap_to a (script a b) 0 b (Int.le_refl _) (by omega) (by simpa using ha')
  refine ⟨hok, hlen, hp, fun h hh => ⟨(hok h hh).1, ?_⟩⟩
  have := i1 h hh
  unfold occ at this
  simp only [Bool.and_eq_true, decide_eq_true_eq] at this
  unfold hkEnd; omega
theorem flush_plF (s : MSt) (l : List ByteArray) : (flushM (plF s l)).length ≤ (flushM s).length + 1 := by
  obtain ⟨a, b⟩ := s
  unfold plF
  split
  · omega
  · cases b with
    | none => show (a ++ [plCh l]).length ≤ a.length + 1; rw [List.length_append]; exact Nat.le_refl _
    | some m => show (a ++ [plCh (m ++ l)]).length ≤ (a ++ [plCh m]).length + 1; rw [List.length_append, List.length_append, List.length_singleton, List.length_singleton]; omega
theorem flush_cfF (s : MSt) (b l r : List ByteArray) : (flushM (cfF s b l r)).length = (flushM s).length + 1 := by
  show (flushM s ++ [_]).length = _
  rw [List.length_append]; rfl
theorem flush_mgS (base : List ByteArray) (p q : List Hk) (lo hi : Int) (s : MSt) : (flushM (mgS base p q lo hi s)).length ≤ (flushM s).length + 1 := by
  unfold mgS
  split
  · exact flush_plF _ _
  split
  · exact flush_plF _ _
  · rw [flush_cfF]; exact Nat.le_refl _
theorem flush_mgN (base : List ByteArray) (p q : List Hk) : ∀ (l : List Pr2) (a : Int) (s : MSt), (flushM (mgN base p q l a s)).length ≤ (flushM s).length + 2 * l.length + 1
  | [], a, s => by have := flush_plF s (base.drop a.toNat); show (flushM (plF s (base.drop a.toNat))).length ≤ _; simp only [List.length_nil]; omega
  | r :: l, a, s => by
    have h1 := flush_plF s ((base.take r.1.toNat).drop a.toNat)
    have h2 := flush_mgS base p q r.1 r.2 (plF s ((base.take r.1.toNat).drop a.toNat))
    have h3 := flush_mgN base p q l r.2 (mgS base p q r.1 r.2 (plF s ((base.take r.1.toNat).drop a.toNat)))
    show (flushM (mgN base p q l r.2 (mgS base p q r.1 r.2 (plF s ((base.take r.1.toNat).drop a.toNat))))).length ≤ _
    rw [List.length_cons]; omega
theorem rgP_len (p q : List Hk) : (rgP p q).length ≤ p.length + q.length := by
  have hpm := (srtP_perm ((oldR p ++ oldR q).map prj)).length_eq
  have e1 : (oldR p).length = p.length := by unfold oldR; rw [List.length_map]
  have e2 : (oldR q).length = q.length := by unfold oldR; rw [List.length_map]
  rw [List.length_map, List.length_append, e1, e2] at hpm
  unfold rgP mrgP
  generalize srtP ((oldR p ++ oldR q).map prj) = L at hpm
  cases L with
  | nil => exact Nat.zero_le _
  | cons x L =>
    have := mrgPC_len L x
    rw [List.length_cons] at hpm
    show (mrgPC x L).length ≤ _
    omega
theorem mgC_good {b l r : List ByteArray} : mgC b l r = 0 ↔ vC b = 0 ∧ vC l = 0 ∧ vC r = 0 := by
  unfold mgC
  constructor
  · intro h
    split at h
    · contradiction
    · rename_i q
      obtain ⟨h1, h2⟩ := (bC_good b l).1 (Classical.not_not.1 q)
      exact ⟨(vC_good b).2 h1, (vC_good l).2 h2, h⟩
  · rintro ⟨h1, h2, h3⟩
    rw [if_neg (fun z => z ((bC_good b l).2 ⟨(vC_good b).1 h1, (vC_good l).1 h2⟩))]
    exact h3
theorem mgV_len (b l r : List ByteArray) : (mgV b l r).length ≤ 1000 := by
  unfold mgV
  split
  · rename_i h
    obtain ⟨h1, h2, h3⟩ := mgC_good.1 h
    obtain ⟨-, g1, -⟩ := script_inL h1 h2
    obtain ⟨-, g2, -⟩ := script_inL h1 h3
    have := flush_mgN b (script b l) (script b r) (rgP (script b l) (script b r)) 0 ([], none)
    have := rgP_len (script b l) (script b r)
    have e : (flushM (([], none) : MSt)).length = 0 := rfl
    unfold mgL
    omega
  · exact Nat.zero_le _

/-! ### symmetry -/
def swC (c : Ch) : Ch := (c.1, c.2.1, c.2.2.1, c.2.2.2.2, c.2.2.2.1)
def swS (s : MSt) : MSt := (s.1.map swC, s.2)
theorem flush_sw (s : MSt) : flushM (swS s) = (flushM s).map swC := by
  obtain ⟨a, b⟩ := s
  cases b with
  | none => rfl
  | some m => show a.map swC ++ [plCh m] = (a ++ [plCh m]).map swC; rw [List.map_append]; rfl
theorem plF_sw (s : MSt) (l : List ByteArray) : plF (swS s) l = swS (plF s l) := by
  obtain ⟨a, b⟩ := s
  unfold plF
  split
  · rfl
  · cases b <;> rfl
theorem cfF_sw (s : MSt) (b l r : List ByteArray) : cfF (swS s) b r l = swS (cfF s b l r) := by
  show (flushM (swS s) ++ [(true, [], b, r, l)], none) = ((flushM s ++ [(true, [], b, l, r)]).map swC, none)
  rw [flush_sw, List.map_append]; rfl
theorem mgS_sw (base : List ByteArray) (p q : List Hk) (lo hi : Int) (s : MSt) : mgS base q p lo hi (swS s) = swS (mgS base p q lo hi s) := by
  unfold mgS
  by_cases e : raw base hi lo (inR p lo hi) = raw base hi lo (inR q lo hi)
  · rw [if_pos (.inr e.symm), if_pos (.inr e), ← e, plF_sw]
  · by_cases hp : (inR p lo hi).length = 0
    · rw [if_pos (.inl hp)]
      by_cases hq : (inR q lo hi).length = 0
      · rw [List.eq_nil_of_length_eq_zero hp, List.eq_nil_of_length_eq_zero hq] at e
        exact absurd rfl e
      · rw [if_neg (fun z => z.elim hq e), if_pos hp, plF_sw]
    · rw [if_neg (fun z => z.elim hp (fun z => e z.symm))]
      by_cases hq : (inR q lo hi).length = 0
      · rw [if_pos hq, if_pos (.inl hq), plF_sw]
      · rw [if_neg hq, if_neg (fun z => z.elim hq e), if_neg hp, cfF_sw]
theorem mgN_sw (base : List ByteArray) (p q : List Hk) : ∀ (l : List Pr2) (a : Int) (s : MSt), mgN base q p l a (swS s) = swS (mgN base p q l a s)
  | [], a, s => plF_sw _ _
  | r :: l, a, s => by
    show mgN base q p l r.2 (mgS base q p r.1 r.2 (plF (swS s) ((base.take r.1.toNat).drop a.toNat))) = swS (mgN base p q l r.2 (mgS base p q r.1 r.2 (plF s ((base.take r.1.toNat).drop a.toNat))))
    rw [plF_sw, mgS_sw, mgN_sw base p q l]
theorem rgP_sw (p q : List Hk) : rgP q p = rgP p q := by
  unfold rgP
  rw [srt_uniq ((srtP_perm _).trans ((List.perm_append_comm.map prj).trans (srtP_perm _).symm)) (srtP_srt _) (srtP_srt _)]
theorem mgV_sw {b l r : List ByteArray} (h : mgC b l r = 0) : mgV b r l = (mgV b l r).map swC := by
  obtain ⟨h1, h2, h3⟩ := mgC_good.1 h
  unfold mgV
  rw [if_pos h, if_pos (mgC_good.2 ⟨h1, h3, h2⟩)]
  unfold mgL
  rw [rgP_sw, ← flush_sw, ← mgN_sw]
  rfl

/-! ### the sides -/
/-- all lines of a chunk are lines, and a chunk has the shape of a chunk -/
def LnOk (l : List ByteArray) : Prop := ∀ s ∈ l, lineC s = 0
def ChOk (c : Ch) : Prop := ((c.1 = true ∧ c.2.1 = []) ∨ (c.1 = false ∧ c.2.1 ≠ [] ∧ c.2.2.1 = [] ∧ c.2.2.2.1 = [] ∧ c.2.2.2.2 = [])) ∧ LnOk c.2.1 ∧ LnOk c.2.2.1 ∧ LnOk c.2.2.2.1 ∧ LnOk c.2.2.2.2
def StOk (s : MSt) : Prop := (∀ c ∈ s.1, ChOk c) ∧ ∀ l, s.2 = some l → l ≠ [] ∧ LnOk l
theorem LnOk.app {a b : List ByteArray} (h : LnOk a) (g : LnOk b) : LnOk (a ++ b) := fun s hs => (List.mem_append.1 hs).elim (h s) (g s)
theorem LnOk.sub {a b : List ByteArray} (h : LnOk a) (g : ∀ s ∈ b, s ∈ a) : LnOk b := fun s hs => h s (g s hs)
theorem LnOk.nil : LnOk [] := fun s hs => (by cases hs)
theorem plCh_ok {l : List ByteArray} (h : l ≠ []) (g : LnOk l) : ChOk (plCh l) := ⟨.inr ⟨rfl, h, rfl, rfl, rfl⟩, g, .nil, .nil, .nil⟩
theorem flush_ok {s : MSt} (h : StOk s) : ∀ c ∈ flushM s, ChOk c := by
  obtain ⟨a, b⟩ := s
  cases b with
  | none => exact h.1
  | some m =>
    intro c hc
    rcases List.mem_append.1 hc with hc | hc
    · exact h.1 c hc
    · rw [List.mem_singleton.1 hc]
      exact plCh_ok (h.2 m rfl).1 (h.2 m rfl).2
theorem plF_ok {s : MSt} (h : StOk s) {l : List ByteArray} (g : LnOk l) : StOk (plF s l) := by
  obtain ⟨a, b⟩ := s
  unfold plF
  split
  · exact h
  · rename_i q
    have hl : l ≠ [] := fun z => q (by rw [z]; rfl)
    cases b with
    | none => exact ⟨h.1, fun m hm => by cases hm; exact ⟨hl, g⟩⟩
    | some m => exact ⟨h.1, fun m' hm => by cases hm; exact ⟨fun z => hl (List.append_eq_nil_iff.1 z).2, (h.2 m rfl).2.app g⟩⟩
theorem cfF_ok {s : MSt} (h : StOk s) {b l r : List ByteArray} (hb : LnOk b) (hl : LnOk l) (hr : LnOk r) : StOk (cfF s b l r) :=
  ⟨fun c hc => by
    rcases List.mem_append.1 hc with hc | hc
    · exact flush_ok h c hc
    · rw [List.mem_singleton.1 hc]
      exact ⟨.inl ⟨rfl, rfl⟩, .nil, hb, hl, hr⟩, fun m hm => by cases hm⟩
theorem part_ok {t : List ByteArray} (h : LnOk t) (a b : Nat) : LnOk ((t.take b).drop a) := h.sub fun _ hs => List.mem_of_mem_take (List.mem_of_mem_drop hs)
theorem raw_ln {t : List ByteArray} {p : List Hk} (ht : LnOk t) (hp : ∀ h ∈ p, LnOk h.2.2) (high low : Int) : LnOk (raw t high low p) := fun s hs => by
  rcases raw_mem p low hs with q | ⟨h, hh, q⟩
  · exact ht s q
  · exact hp h hh s q
theorem inR_ln {p : List Hk} (hp : ∀ h ∈ p, LnOk h.2.2) (lo hi : Int) : ∀ h ∈ inR p lo hi, LnOk h.2.2 := fun h hh => hp h (List.mem_filter.1 hh).1
theorem mgS_ok {base : List ByteArray} {p q : List Hk} (hb : LnOk base) (hp : ∀ h ∈ p, LnOk h.2.2) (hq : ∀ h ∈ q, LnOk h.2.2) (lo hi : Int) {s : MSt} (h : StOk s) : StOk (mgS base p q lo hi s) := by
  have r1 := raw_ln hb (inR_ln hp lo hi) hi lo
  have r2 := raw_ln hb (inR_ln hq lo hi) hi lo
  unfold mgS
  split
  · exact plF_ok h r1
  split
  · exact plF_ok h r2
  · exact cfF_ok h (part_ok hb _ _) r1 r2
theorem mgN_ok {base : List ByteArray} {p q : List Hk} (hb : LnOk base) (hp : ∀ h ∈ p, LnOk h.2.2) (hq : ∀ h ∈ q, LnOk h.2.2) : ∀ (l : List Pr2) (a : Int) {s : MSt}, StOk s → StOk (mgN base p q l a s)
  | [], a, s, h => plF_ok h (hb.sub fun _ hs => List.mem_of_mem_drop hs)
  | r :: l, a, s, h => mgN_ok hb hp hq l r.2 (mgS_ok hb hp hq r.1 r.2 (plF_ok h (part_ok hb _ _)))
theorem ln_good {l : List ByteArray} (h : vC l = 0) : LnOk l := fun s hs => (lineC_ok s).2 (((vC_good l).1 h).2 s hs)
theorem ln_vC {l : List ByteArray} (h : LnOk l) : vC l = 0 ∨ vC l = 2 := by
  by_cases h1 : 120 < l.length
  · exact .inr (if_pos h1)
  · exact .inl ((vC_good l).2 ⟨by omega, fun s hs => (lineC_ok s).1 (h s hs)⟩)
theorem script_ln {a b : List ByteArray} (ha : vC a = 0) (hb : vC b = 0) : ∀ h ∈ script a b, LnOk h.2.2 := fun h hh => ln_good ((pC_iff.1 (script_good ha hb)).2.2 h hh).2.2.2.1
theorem mgV_ok (b l r : List ByteArray) : ∀ c ∈ mgV b l r, ChOk c := by
  unfold mgV
  split
  · rename_i h
    obtain ⟨h1, h2, h3⟩ := mgC_good.1 h
    exact flush_ok (mgN_ok (ln_good h1) (script_ln h1 h2) (script_ln h1 h3) _ _ ⟨fun c hc => by (cases hc), fun m hm => by cases hm⟩)
  · intro c hc; cases hc
theorem chOk_C {c : Ch} (h : ChOk c) : chC c = 0 ∨ chC c = 2 := by
  obtain ⟨h0, h1, h2, h3, h4⟩ := h
  have hb : ¬ chBad c := by
    unfold chBad
    rcases h0 with ⟨a, b⟩ | ⟨a, b, c1, c2, c3⟩
    · rw [a, b]; simp
    · rw [a, c1, c2, c3]
      rintro (⟨z, -⟩ | ⟨-, z | z⟩)
      · cases z
      · exact b (List.eq_nil_of_length_eq_zero z)
      · simp at z
  unfold chC
  rcases ln_vC h1 with e | e <;> rw [e]
  · rw [if_neg (fun z => z rfl)]
    rcases ln_vC h2 with e | e <;> rw [e]
    · rw [if_neg (fun z => z rfl)]
      rcases ln_vC h3 with e | e <;> rw [e]
      · rw [if_neg (fun z => z rfl)]
        rcases ln_vC h4 with e | e <;> rw [e]
        · rw [if_neg (fun z => z rfl), if_neg hb]; exact .inl rfl
        · exact .inr rfl
      · exact .inr rfl
    · exact .inr rfl
  · exact .inr rfl
theorem chsOk_C : ∀ {l : List Ch}, (∀ c ∈ l, ChOk c) → csC l = 0 ∨ csC l = 2
  | [], _ => .inl rfl
  | c :: l, h => by
    unfold csC
    rcases chOk_C (h c List.mem_cons_self) with e | e
    · rw [if_pos e]; exact chsOk_C fun d hd => h d (List.mem_cons_of_mem _ hd)
    · rw [e]; exact .inr rfl
theorem mg_rsF {l : List Ch} (h : ∀ c ∈ l, ChOk c) {n : Int} (hn : n = 0 ∨ n = 1) : ((rsF l (List.replicate (nCf l) n)).1 = 0 ∧ rsL l (List.replicate (nCf l) n) = rsN l (List.replicate (nCf l) n)) ∨ (rsF l (List.replicate (nCf l) n)).1 = 2 ∨ (rsF l (List.replicate (nCf l) n)).1 = 10 := by
  have key : (rsF l (List.replicate (nCf l) n)).1 = 0 ∨ (rsF l (List.replicate (nCf l) n)).1 = 2 ∨ (rsF l (List.replicate (nCf l) n)).1 = 10 := by
    unfold rsF
    have hc : ckC l = 0 ∨ ckC l = 2 := by
      unfold ckC
      split
      · exact .inr rfl
      · exact chsOk_C h
    rcases hc with e | e
    · rw [if_neg (fun z => z e), if_neg (fun z => z List.length_replicate)]
      have hb : badI 0 (List.replicate (nCf l) n) = none := badI_none.2 fun m hm => by rw [(List.mem_replicate.1 hm).2]; omega
      rw [hb]
      dsimp only
      split
      · exact .inr (.inr rfl)
      · exact .inl rfl
    · rw [if_pos (by rw [e]; decide), e]; exact .inr (.inl rfl)
  rcases key with e | e
  · exact .inl ⟨e, if_pos e⟩
  · exact .inr e
/-- by how much the left sides are longer -/
def dS : List Ch → Int
  | [] => 0
  | c :: l => ((c.2.2.2.1.length : Int) - c.2.2.1.length) + dS l
theorem dS_append : ∀ (l m : List Ch), dS (l ++ m) = dS l + dS m
  | [], m => by simp [dS]
  | c :: l, m => by simp only [List.cons_append, dS, dS_append l m]; omega
theorem dS_take {l : List Ch} {k : Nat} (h : k < l.length) : dS (l.take (k + 1)) = dS (l.take k) + ((l[k].2.2.2.1.length : Int) - l[k].2.2.1.length) := by
  rw [List.take_add_one, List.getElem?_eq_getElem h, Option.toList_some, dS_append]; simp [dS]
theorem rs_diff : ∀ {l : List Ch}, (∀ c ∈ l, ChOk c) → ((rsN l (List.replicate (nCf l) 1)).length : Int) - (rsN l (List.replicate (nCf l) 0)).length = dS l
  | [], _ => rfl
  | c :: l, h => by
    have ih := rs_diff fun d hd => h d (List.mem_cons_of_mem _ hd)
    rcases (h c List.mem_cons_self).1 with ⟨a, -⟩ | ⟨a, -, c1, c2, -⟩
    · have en : nCf (c :: l) = nCf l + 1 := by show (bif c.1 then 1 else 0) + nCf l = _; rw [a, cond_true, Nat.add_comm]
      have er : ∀ n : Int, rsN (c :: l) (List.replicate (nCf (c :: l)) n) = pickC c n ++ rsN l (List.replicate (nCf l) n) := by
        intro n
        rw [en, List.replicate_succ]
        show (bif c.1 then pickC c n ++ rsN l (List.replicate (nCf l) n) else _) = _
        rw [a]; rfl
      rw [er, er, List.length_append, List.length_append]
      show ((c.2.2.2.1.length + _ : Nat) : Int) - ((c.2.2.1.length + _ : Nat) : Int) = _
      unfold dS
      omega
    · have en : nCf (c :: l) = nCf l := by show (bif c.1 then 1 else 0) + nCf l = _; rw [a, cond_false, Nat.zero_add]
      have er : ∀ n : Int, rsN (c :: l) (List.replicate (nCf (c :: l)) n) = c.2.1 ++ rsN l (List.replicate (nCf l) n) := by
        intro n
        rw [en]
        show (bif c.1 then _ else c.2.1 ++ rsN l (List.replicate (nCf l) n)) = _
        rw [a]; rfl
      rw [er, er, List.length_append, List.length_append]
      unfold dS
      rw [c1, c2, List.length_nil]
      omega
/-- what Resolve's code 0 says -/
theorem rsF_good {l : List Ch} {ch : List Int} (h : (rsF l ch).1 = 0) : ckC l = 0 ∧ (rsN l ch).length ≤ 120 := by
  unfold rsF at h
  split at h
  · rename_i q; exact absurd h q
  · rename_i q
    refine ⟨Classical.not_not.1 q, ?_⟩
    split at h
    · exact absurd h (by decide)
    · split at h
      · exact absurd (show (3 : Int) = 0 from h) (by decide)
      · split at h
        · exact absurd h (by decide)
        · omega
theorem ck_parts {l : List Ch} (h : ckC l = 0) {k : Nat} (hk : k < l.length) : l[k].2.2.1.length ≤ 120 ∧ l[k].2.2.2.1.length ≤ 120 := by
  obtain ⟨-, -, h3, h4, -⟩ := pickC_len ((ckC_all.1 h).2 _ (List.getElem_mem hk)) 0
  exact ⟨h3, h4⟩
theorem dS_bd {l : List Ch} (h : ckC l = 0) : ∀ k : Nat, -(120 * (k : Int)) ≤ dS (l.take k) ∧ dS (l.take k) ≤ 120 * (k : Int)
  | 0 => by simp [dS]
  | k + 1 => by
    have ih := dS_bd h k
    by_cases hk : k < l.length
    · have := ck_parts h hk
      rw [dS_take hk]
      omega
    · rw [List.take_of_length_le (by omega)]
      rw [List.take_of_length_le (by omega)] at ih
      omega

theorem part_split {α : Type} (t : List α) {a b c : Nat} (h1 : a ≤ b) (h2 : b ≤ c) : (t.take c).drop a = (t.take b).drop a ++ (t.take c).drop b := by
  have e : (t.take c) = t.take b ++ (t.take c).drop b := by
    have := List.take_append_drop b (t.take c)
    rw [List.take_take, Nat.min_eq_left h2] at this
    exact this.symm
  conv => lhs; rw [e]
  rw [List.drop_append, List.length_take]
  by_cases hb : b ≤ t.length
  · rw [Nat.min_eq_left hb, show a - b = 0 by omega, List.drop_zero]
  · have e1 : (t.take c).drop b = [] := List.drop_eq_nil_of_le (by rw [List.length_take]; omega)
    rw [e1, List.drop_nil]
/-- hunks within lines -/
def inside (lo hi : Int) (p : List Hk) : Prop := ∀ h ∈ p, lo ≤ h.1 ∧ hkEnd h ≤ hi
theorem raw_front (t : List ByteArray) (n : Int) {a b : Int} (h0 : 0 ≤ a) (h1 : a ≤ b) (hb : b ≤ n) : ∀ (p : List Hk), (∀ h ∈ p, b ≤ h.1) → raw t n a p = (t.take b.toNat).drop a.toNat ++ raw t n b p
  | [], _ => part_split t (by omega) (by omega)
  | h :: p, hp => by
    have := hp h List.mem_cons_self
    show (t.take h.1.toNat).drop a.toNat ++ h.2.2 ++ raw t n (hkEnd h) p = (t.take b.toNat).drop a.toNat ++ ((t.take h.1.toNat).drop b.toNat ++ h.2.2 ++ raw t n (hkEnd h) p)
    rw [part_split t (a := a.toNat) (b := b.toNat) (c := h.1.toNat) (by omega) (by omega)]
    simp only [List.append_assoc]
theorem raw_split (t : List ByteArray) (n r2 : Int) (hr : r2 ≤ n) : ∀ (p1 p2 : List Hk) (r1 : Int), 0 ≤ r1 → r1 ≤ r2 → ch (r1 - 1) p1 → inside r1 r2 p1 → (∀ h ∈ p2, r2 ≤ h.1) → raw t n r1 (p1 ++ p2) = raw t r2 r1 p1 ++ raw t n r2 p2
  | [], p2, r1, h0, h1, _, _, h2 => raw_front t n h0 h1 hr p2 h2
  | h :: p, p2, r1, h0, h1, hc, hi, h2 => by
    have q1 := hi h List.mem_cons_self
    have q2 := hkEnd_ge h
    have ih := raw_split t n r2 hr p p2 (hkEnd h) (by omega) q1.2 (ch_le (by omega) hc.2) (fun k hk => ⟨by have := ch_all hc.2 k hk; omega, (hi k (List.mem_cons_of_mem _ hk)).2⟩) h2
    show (t.take h.1.toNat).drop r1.toNat ++ h.2.2 ++ raw t n (hkEnd h) (p ++ p2) = ((t.take h.1.toNat).drop r1.toNat ++ h.2.2 ++ raw t r2 (hkEnd h) p) ++ raw t n r2 p2
    rw [ih]
    simp only [List.append_assoc]
theorem plF_plF (s : MSt) (a b : List ByteArray) : plF (plF s a) b = plF s (a ++ b) := by
  by_cases ha : a.length = 0
  · rw [List.eq_nil_of_length_eq_zero ha, List.nil_append]; rfl
  · obtain ⟨x, o⟩ := s
    by_cases hb : b.length = 0
    · rw [List.eq_nil_of_length_eq_zero hb, List.append_nil]
      exact if_pos rfl
    · unfold plF
      rw [if_neg ha, if_neg hb, if_neg (by rw [List.length_append]; omega)]
      cases o with
      | none => rfl
      | some m => show (x, some ((m ++ a) ++ b)) = (x, some (m ++ (a ++ b))); rw [List.append_assoc]
/-- regions apartR from one another -/
def apartR (l : List Pr2) : Prop := l.Pairwise fun a b => a.2 < b.1
def cover (m : List Hk) (l : List Pr2) : Prop := ∀ h ∈ m, ∃ r ∈ l, r.1 ≤ h.1 ∧ hkEnd h ≤ r.2
theorem inR_in {p : List Hk} {lo hi : Int} (h : inside lo hi p) : inR p lo hi = p := List.filter_eq_self.2 fun x hx => by
  have := h x hx
  rw [Bool.and_eq_true]
  exact ⟨decide_eq_true this.1, decide_eq_true this.2⟩
theorem inR_out {p : List Hk} {lo hi : Int} (h : ∀ x ∈ p, ¬ (lo ≤ x.1 ∧ hkEnd x ≤ hi)) : inR p lo hi = [] := List.filter_eq_nil_iff.2 fun x hx => by
  rw [Bool.and_eq_true]
  exact fun z => h x hx ⟨of_decide_eq_true z.1, of_decide_eq_true z.2⟩
theorem inR_app (p q : List Hk) (lo hi : Int) : inR (p ++ q) lo hi = inR p lo hi ++ inR q lo hi := List.filter_append ..
theorem cov_split {r : Pr2} {l : List Pr2} (hl : apartR (r :: l)) : ∀ {m : List Hk} {e : Int}, ch e m → cover m (r :: l) → ∃ m1 m2, m = m1 ++ m2 ∧ inside r.1 r.2 m1 ∧ (∀ h ∈ m2, r.2 < h.1) ∧ cover m2 l
  | [], _, _, _ => ⟨[], [], rfl, fun h hh => (by cases hh), fun h hh => (by cases hh), fun h hh => (by cases hh)⟩
  | h :: m, e, hc, hv => by
    obtain ⟨r', hr', h1, h2⟩ := hv h List.mem_cons_self
    rcases List.mem_cons.1 hr' with rfl | hr'
    · obtain ⟨m1, m2, e1, e2, e3, e4⟩ := cov_split hl hc.2 (fun k hk => hv k (List.mem_cons_of_mem _ hk))
      refine ⟨h :: m1, m2, by rw [e1]; rfl, fun k hk => ?_, e3, e4⟩
      rcases List.mem_cons.1 hk with rfl | hk
      · exact ⟨h1, h2⟩
      · exact e2 k hk
    · have hlt := (List.pairwise_cons.1 hl).1 r' hr'
      have all : ∀ k ∈ h :: m, r.2 < k.1 := by
        intro k hk
        rcases List.mem_cons.1 hk with rfl | hk
        · omega
        · have := ch_all hc.2 k hk
          have := hkEnd_ge h
          omega
      refine ⟨[], h :: m, rfl, fun k hk => (by cases hk), all, fun k hk => ?_⟩
      obtain ⟨r2, g1, g2, g3⟩ := hv k hk
      rcases List.mem_cons.1 g1 with rfl | g1
      · have := all k hk
        have := hkEnd_ge k
        omega
      · exact ⟨r2, g1, g2, g3⟩
theorem mgN_plain {base : List ByteArray} {p q : List Hk} : ∀ (l : List Pr2) (a : Int) (s : MSt) (m : List Hk), rgnOk base.length a l → apartR l → ch (a - 1) m → cover m l → (∀ r ∈ l, ∀ s, mgS base p q r.1 r.2 s = plF s (raw base r.2 r.1 (inR m r.1 r.2))) → mgN base p q l a s = plF s (raw base base.length a m)
  | [], a, s, m, _, _, _, hv, _ => by
    have hm : m = [] := by
      cases m with
      | nil => rfl
      | cons h m => obtain ⟨r, hr, -⟩ := hv h List.mem_cons_self; cases hr
    subst hm
    show plF s (base.drop a.toNat) = plF s ((base.take ((base.length : Int)).toNat).drop a.toNat)
    rw [Int.toNat_natCast, List.take_length]
  | r :: l, a, s, m, hr, hl, hc, hv, hS => by
    obtain ⟨h0, h1, h2, h3, h4⟩ := hr
    obtain ⟨m1, m2, rfl, e2, e3, e4⟩ := cov_split hl hc hv
    have hlo : ∀ r' ∈ l, r.2 < r'.1 := (List.pairwise_cons.1 hl).1
    have ec : ∀ (x y : List Hk) (e : Int), ch e (x ++ y) → ch e x ∧ ∀ k ∈ x, e < k.1 := by
      intro x
      induction x with
      | nil => exact fun y e _ => ⟨True.intro, fun k hk => (by cases hk)⟩
      | cons g x ih =>
        intro y e hz
        obtain ⟨i1, i2⟩ := ih y (hkEnd g) hz.2
        exact ⟨⟨hz.1, i1⟩, fun k hk => ch_all (p := g :: x) ⟨hz.1, i1⟩ k hk⟩
    obtain ⟨c1, -⟩ := ec m1 m2 _ hc
    have c1' : ch (r.1 - 1) m1 := by
      cases m1 with
      | nil => exact True.intro
      | cons g m1 => exact ⟨by have := e2 g List.mem_cons_self; omega, c1.2⟩
    have c2 : ∀ (x : List Hk) (e : Int), ch e (x ++ m2) → ch (r.2 - 1) m2 := by
      intro x
      induction x with
      | nil =>
        intro e hz
        cases m2 with
        | nil => exact True.intro
        | cons g m2 => exact ⟨by have := e3 g List.mem_cons_self; omega, hz.2⟩
      | cons g x ih => exact fun e hz => ih (hkEnd g) hz.2
    have i1 : inR (m1 ++ m2) r.1 r.2 = m1 := by
      rw [inR_app, inR_in e2, inR_out (fun x hx => by have := e3 x hx; have := hkEnd_ge x; omega), List.append_nil]
    have ih := mgN_plain (base := base) (p := p) (q := q) l r.2 (mgS base p q r.1 r.2 (plF s ((base.take r.1.toNat).drop a.toNat))) m2 h4 (List.pairwise_cons.1 hl).2 (c2 m1 _ hc) e4 (fun r' hr' s => by
      rw [hS r' (List.mem_cons_of_mem _ hr') s, inR_app, inR_out (p := m1) (fun x hx => by have := e2 x hx; have := hlo r' hr'; have := hkEnd_ge x; omega), List.nil_append])
    show mgN base p q l r.2 (mgS base p q r.1 r.2 (plF s ((base.take r.1.toNat).drop a.toNat))) = _
    rw [ih, hS r List.mem_cons_self, i1, plF_plF, plF_plF]
    congr 1
    rw [raw_front base base.length h0 h1 (by omega) (m1 ++ m2) (fun k hk => by
      rcases List.mem_append.1 hk with hk | hk
      · exact (e2 k hk).1
      · have := e3 k hk; omega), raw_split base base.length r.2 h3 m1 m2 r.1 (by omega) h2 c1' e2 (fun k hk => by have := e3 k hk; omega)]
/-! ### the regions of two patches -/
theorem mrgPC_low : ∀ (l : List Pr2) (c : Pr2), (∀ r ∈ l, c.1 ≤ r.1) → SrtP l → ∀ r ∈ mrgPC c l, c.1 ≤ r.1
  | [], c, _, _, r, hr => by rw [List.mem_singleton.1 hr]; exact Int.le_refl _
  | x :: l, c, h1, h2, r, hr => by
    have hl := List.pairwise_cons.1 h2
    have hx := h1 x List.mem_cons_self
    have hg : ∀ s ∈ l, x.1 ≤ s.1 := fun s hs => by have := hl.1 s hs; unfold leP at this; omega
    unfold mrgPC at hr
    split at hr
    · exact mrgPC_low l (c.1, max c.2 x.2) (fun s hs => h1 s (List.mem_cons_of_mem _ hs)) hl.2 r hr
    · rcases List.mem_cons.1 hr with rfl | hr
      · exact Int.le_refl _
      · have := mrgPC_low l x hg hl.2 r hr; omega
theorem mrgPC_apart : ∀ (l : List Pr2) (c : Pr2), c.1 ≤ c.2 → (∀ r ∈ l, c.1 ≤ r.1 ∧ r.1 ≤ r.2) → SrtP l → apartR (mrgPC c l)
  | [], c, _, _, _ => List.pairwise_singleton _ _
  | x :: l, c, h0, h1, h2 => by
    have hl := List.pairwise_cons.1 h2
    have hx := h1 x List.mem_cons_self
    have hg : ∀ s ∈ l, x.1 ≤ s.1 := fun s hs => by have := hl.1 s hs; unfold leP at this; omega
    unfold mrgPC
    split
    · exact mrgPC_apart l (c.1, max c.2 x.2) (by show c.1 ≤ max c.2 x.2; omega) (fun s hs => h1 s (List.mem_cons_of_mem _ hs)) hl.2
    · rename_i ht
      have ht : c.2 < x.1 := by
        unfold tchP at ht
        simp only [Bool.and_eq_true, decide_eq_true_eq, not_and] at ht
        omega
      refine List.Pairwise.cons (fun r hr => ?_) (mrgPC_apart l x hx.2 (fun s hs => ⟨hg s hs, (h1 s (List.mem_cons_of_mem _ hs)).2⟩) hl.2)
      have := mrgPC_low l x hg hl.2 r hr
      omega
theorem mrgPC_cov : ∀ (l : List Pr2) (c : Pr2), (∀ r ∈ l, c.1 ≤ r.1) → SrtP l → ∀ x ∈ c :: l, ∃ r ∈ mrgPC c l, r.1 ≤ x.1 ∧ x.2 ≤ r.2
  | [], c, _, _, x, hx => ⟨c, List.mem_singleton_self _, by rw [List.mem_singleton.1 hx]; exact ⟨Int.le_refl _, Int.le_refl _⟩⟩
  | y :: l, c, h1, h2, x, hx => by
    have hl := List.pairwise_cons.1 h2
    have hy := h1 y List.mem_cons_self
    have hg : ∀ s ∈ l, y.1 ≤ s.1 := fun s hs => by have := hl.1 s hs; unfold leP at this; omega
    unfold mrgPC
    split
    · have ih := mrgPC_cov l (c.1, max c.2 y.2) (fun s hs => h1 s (List.mem_cons_of_mem _ hs)) hl.2
      have big : x.2 ≤ max c.2 y.2 ∧ c.1 ≤ x.1 ∨ x ∈ l := by
        rcases List.mem_cons.1 hx with rfl | hx
        · exact .inl ⟨by omega, Int.le_refl _⟩
        · rcases List.mem_cons.1 hx with rfl | hx
          · exact .inl ⟨by omega, hy⟩
          · exact .inr hx
      rcases big with ⟨b1, b2⟩ | b
      · obtain ⟨r, g1, g2, g3⟩ := ih (c.1, max c.2 y.2) List.mem_cons_self
        dsimp only at g2 g3
        exact ⟨r, g1, by omega, by omega⟩
      · exact ih x (List.mem_cons_of_mem _ b)
    · rcases List.mem_cons.1 hx with rfl | hx
      · exact ⟨x, List.mem_cons_self, Int.le_refl _, Int.le_refl _⟩
      · obtain ⟨r, g1, g2⟩ := mrgPC_cov l y hg hl.2 x hx
        exact ⟨r, List.mem_cons_of_mem _ g1, g2⟩
theorem rgP_apart (p q : List Hk) : apartR (rgP p q) ∧ cover p (rgP p q) ∧ cover q (rgP p q) := by
  have hs := srtP_srt ((oldR p ++ oldR q).map prj)
  have hm := srtP_perm ((oldR p ++ oldR q).map prj)
  have hall : ∀ r ∈ srtP ((oldR p ++ oldR q).map prj), r.1 ≤ r.2 := by
    intro r hr
    obtain ⟨s, hs, rfl⟩ := List.mem_map.1 (hm.mem_iff.1 hr)
    rcases List.mem_append.1 hs with hs | hs
    · obtain ⟨h, -, rfl⟩ := List.mem_map.1 hs; exact hkEnd_ge h
    · obtain ⟨h, -, rfl⟩ := List.mem_map.1 hs; exact hkEnd_ge h
  have hin : ∀ h, h ∈ p ∨ h ∈ q → (h.1, hkEnd h) ∈ srtP ((oldR p ++ oldR q).map prj) := by
    intro h hh
    refine hm.mem_iff.2 (List.mem_map.2 ⟨rgOld h, ?_, rfl⟩)
    rcases hh with hh | hh
    · exact List.mem_append.2 (.inl (List.mem_map.2 ⟨h, hh, rfl⟩))
    · exact List.mem_append.2 (.inr (List.mem_map.2 ⟨h, hh, rfl⟩))
  unfold rgP
  generalize srtP ((oldR p ++ oldR q).map prj) = L at hs hall hin
  cases L with
  | nil => exact ⟨List.Pairwise.nil, fun h hh => (by cases hin h (.inl hh)), fun h hh => (by cases hin h (.inr hh))⟩
  | cons c l =>
    have hl := List.pairwise_cons.1 hs
    have hg : ∀ s ∈ l, c.1 ≤ s.1 := fun s hs => by have := hl.1 s hs; unfold leP at this; omega
    refine ⟨mrgPC_apart l c (hall c List.mem_cons_self) (fun r hr => ⟨hg r hr, hall r (List.mem_cons_of_mem _ hr)⟩) hl.2, fun h hh => ?_, fun h hh => ?_⟩
    · exact mrgPC_cov l c hg hl.2 _ (hin h (.inl hh))
    · exact mrgPC_cov l c hg hl.2 _ (hin h (.inr hh))
/-- the merge of a text without conflicts -/
def oneC (t : List ByteArray) : List Ch := flushM (plF ([], none) t)
theorem mgL_plain {base : List ByteArray} {p q m : List Hk} (hp : ∀ h ∈ p, 0 ≤ h.1 ∧ hkEnd h ≤ base.length) (hq : ∀ h ∈ q, 0 ≤ h.1 ∧ hkEnd h ≤ base.length) (hc : ch (-1) m) (hm : ∀ h ∈ m, h ∈ p ∨ h ∈ q)
    (hS : ∀ r ∈ rgP p q, ∀ s, mgS base p q r.1 r.2 s = plF s (raw base r.2 r.1 (inR m r.1 r.2))) : mgL base p q = oneC (raw base base.length 0 m) := by
  obtain ⟨a1, a2, a3⟩ := rgP_apart p q
  unfold mgL oneC
  rw [mgN_plain (rgP p q) 0 ([], none) m (rgP_ok (by omega) hp hq) a1 hc (fun h hh => (hm h hh).elim (a2 h) (a3 h)) hS]
theorem oneC_clean {t : List ByteArray} (h : vC t = 0) : clF (oneC t) = (0, 0) ∧ clOk (oneC t) = true ∧ clL (oneC t) = t := by
  have hl := vC_len t h
  unfold oneC plF
  split
  · rename_i e
    rw [List.eq_nil_of_length_eq_zero e]
    exact ⟨rfl, rfl, rfl⟩
  · rename_i e
    show clF [plCh t] = _ ∧ clOk [plCh t] = _ ∧ clL [plCh t] = _
    have v0 : vC [] = 0 := rfl
    have c0 : chC (plCh t) = 0 := chC_good.2 ⟨h, v0, v0, v0, by
      rintro (⟨z, -⟩ | ⟨-, z | z⟩)
      · cases z
      · exact e z
      · exact absurd (show 0 < 0 from z) (by decide)⟩
    have k0 : ckC [plCh t] = 0 := by
      refine ckC_all.2 ⟨by rw [List.length_singleton]; decide, fun c hc => ?_⟩
      rw [List.mem_singleton.1 hc]; exact c0
    have n0 : nCf [plCh t] = 0 := rfl
    have r0 : rsN [plCh t] [] = t := by show t ++ [] = t; rw [List.append_nil]
    have ok : clOk [plCh t] = true := by unfold clOk; rw [decide_eq_true k0, decide_eq_true n0, r0, decide_eq_true hl]; rfl
    refine ⟨?_, ok, ?_⟩
    · unfold clF; rw [if_neg (fun z => z k0), if_neg (fun z => z n0), r0, if_neg (by omega)]
    · unfold clL; rw [if_pos ok, r0]
/-! ### one side alone; both alike -/
theorem pCost_good : ∀ {p : List Hk}, (∀ h ∈ p, 0 < h.2.1.length + h.2.2.length) → 0 ≤ pCost p ∧ (pCost p = 0 → p = [])
  | [], _ => ⟨Int.le_refl _, fun _ => rfl⟩
  | h :: p, hh => by
    obtain ⟨i1, i2⟩ := pCost_good fun k hk => hh k (List.mem_cons_of_mem _ hk)
    have := hh h List.mem_cons_self
    unfold pCost
    exact ⟨by omega, fun z => by omega⟩
theorem script_self {a : List ByteArray} (ha : vC a = 0) : script a a = [] := by
  have hg := (pC_iff.1 (script_good ha ha)).2.2
  refine (pCost_good fun h hh => (hg h hh).2.2.2.2.1).2 ?_
  rw [script_cost, lcs_self]
  omega
theorem script_at {a b : List ByteArray} (ha : vC a = 0) (hb : vC b = 0) : ch (-1) (script a b) ∧ (∀ h ∈ script a b, 0 ≤ h.1 ∧ hkEnd h ≤ a.length) ∧ raw a a.length 0 (script a b) = b := by
  obtain ⟨-, -, hp, hi⟩ := script_inL ha hb
  refine ⟨phC_ch _ _ hp, hi, ?_⟩
  exact (ap_to a (script a b) 0 b (Int.le_refl _) (by omega) (by simpa using script_ap a b)).2
theorem one_left {b l : List ByteArray} (hb : vC b = 0) (hl : vC l = 0) : mgV b l b = oneC l := by
  obtain ⟨h1, h2, h3⟩ := script_at hb hl
  unfold mgV
  rw [if_pos (mgC_good.2 ⟨hb, hl, hb⟩), script_self hb, mgL_plain h2 (fun h hh => by cases hh) h1 (fun h hh => .inl hh) (fun r _ s => ?_), h3]
  unfold mgS
  exact if_pos (.inl rfl)
theorem one_right {b r : List ByteArray} (hb : vC b = 0) (hr : vC r = 0) : mgV b b r = oneC r := by
  obtain ⟨h1, h2, h3⟩ := script_at hb hr
  unfold mgV
  rw [if_pos (mgC_good.2 ⟨hb, hb, hr⟩), script_self hb, mgL_plain (fun h hh => by cases hh) h2 h1 (fun h hh => .inr hh) (fun x _ s => ?_), h3]
  unfold mgS
  by_cases e : (inR (script b r) x.1 x.2).length = 0
  · rw [if_pos (.inl e), List.eq_nil_of_length_eq_zero e]; rfl
  · by_cases e2 : raw b x.2 x.1 (inR [] x.1 x.2) = raw b x.2 x.1 (inR (script b r) x.1 x.2)
    · rw [if_pos (.inr e2), e2]
    · rw [if_neg (fun z => z.elim e e2)]
      exact if_pos rfl
theorem one_both {b l : List ByteArray} (hb : vC b = 0) (hl : vC l = 0) : mgV b l l = oneC l := by
  obtain ⟨h1, h2, h3⟩ := script_at hb hl
  unfold mgV
  rw [if_pos (mgC_good.2 ⟨hb, hl, hl⟩), mgL_plain h2 h2 h1 (fun h hh => .inl hh) (fun r _ s => ?_), h3]
  unfold mgS
  exact if_pos (.inr rfl)
/-! ### patches that can be moved behind each other -/
theorem mrgPC_self : ∀ (l : List Pr2) (c : Pr2), (c :: l).Pairwise (fun a b => tchP a b = false) → mrgPC c l = c :: l
  | [], c, _ => rfl
  | r :: l, c, h => by
    have hl := List.pairwise_cons.1 h
    unfold mrgPC
    rw [if_neg (by rw [hl.1 r List.mem_cons_self]; decide), mrgPC_self l r hl.2]
theorem tchP_comm (a b : Pr2) : tchP a b = tchP b a := by unfold tchP; rw [Bool.and_comm]
theorem old_apart : ∀ {p : List Hk} {e : Int}, ch e p → ((oldR p).map prj).Pairwise fun a b => tchP a b = false
  | [], _, _ => List.Pairwise.nil
  | h :: p, e, hc => by
    refine List.Pairwise.cons (fun r hr => ?_) (old_apart hc.2)
    obtain ⟨s, hs, rfl⟩ := List.mem_map.1 hr
    have := (oldR_low hc.2 s hs).1
    show (decide (s.1 ≤ hkEnd h) && _) = false
    rw [decide_eq_false (by omega), Bool.false_and]
theorem rg_of_meet {p q : List Hk} (hp : ch (-1) p) (hq : ch (-1) q) (hm : meet (oldR p) (oldR q) = false) : ∀ r ∈ rgP p q, ∃ h, (h ∈ p ∨ h ∈ q) ∧ r = (h.1, hkEnd h) := by
  have hpw : ((oldR p ++ oldR q).map prj).Pairwise fun a b => tchP a b = false := by
    rw [List.map_append, List.pairwise_append]
    refine ⟨old_apart hp, old_apart hq, fun a ha b hb => ?_⟩
    obtain ⟨x, hx, rfl⟩ := List.mem_map.1 ha
    obtain ⟨y, hy, rfl⟩ := List.mem_map.1 hb
    rw [tchP_prj]
    exact meet_iff.1 hm x hx y hy
  have hperm := srtP_perm ((oldR p ++ oldR q).map prj)
  have hsw : (srtP ((oldR p ++ oldR q).map prj)).Pairwise fun a b => tchP a b = false := (hperm.pairwise_iff (fun {x y} h => by rw [tchP_comm]; exact h)).2 hpw
  have e : rgP p q = srtP ((oldR p ++ oldR q).map prj) := by
    unfold rgP
    generalize srtP ((oldR p ++ oldR q).map prj) = L at hsw
    cases L with
    | nil => rfl
    | cons c l => exact mrgPC_self l c hsw
  rw [e]
  intro r hr
  obtain ⟨s, hs, rfl⟩ := List.mem_map.1 (hperm.mem_iff.1 hr)
  rcases List.mem_append.1 hs with hs | hs
  · obtain ⟨h, hh, rfl⟩ := List.mem_map.1 hs
    exact ⟨h, .inl hh, rfl⟩
  · obtain ⟨h, hh, rfl⟩ := List.mem_map.1 hs
    exact ⟨h, .inr hh, rfl⟩
theorem un_mem : ∀ (M : Mxl), ∀ h ∈ un M, h ∈ pj true M ∨ h ∈ pj false M
  | (true, k) :: M, h, hh => by
    rcases List.mem_cons.1 hh with rfl | hh
    · exact .inl List.mem_cons_self
    · exact (un_mem M h hh).imp (List.mem_cons_of_mem _) id
  | (false, k) :: M, h, hh => by
    rcases List.mem_cons.1 hh with rfl | hh
    · exact .inr List.mem_cons_self
    · exact (un_mem M h hh).imp id (List.mem_cons_of_mem _)
theorem sep_un : ∀ (M : Mxl) (e : Int), sep e M → ch e (un M)
  | [], _, _ => True.intro
  | _ :: M, _, h => ⟨h.1, sep_un M _ h.2⟩
theorem inR_un (lo hi : Int) : ∀ (M : Mxl), (inR (pj false M) lo hi = [] → inR (un M) lo hi = inR (pj true M) lo hi) ∧ (inR (pj true M) lo hi = [] → inR (un M) lo hi = inR (pj false M) lo hi)
  | [] => ⟨fun _ => rfl, fun _ => rfl⟩
  | (true, k) :: M => by
    obtain ⟨i1, i2⟩ := inR_un lo hi M
    show (inR (pj false M) lo hi = [] → inR (k :: un M) lo hi = inR (k :: pj true M) lo hi) ∧ (inR (k :: pj true M) lo hi = [] → inR (k :: un M) lo hi = inR (pj false M) lo hi)
    unfold inR at i1 i2 ⊢
    rw [List.filter_cons, List.filter_cons]
    split
    · exact ⟨fun z => by rw [i1 z], fun z => by cases z⟩
    · exact ⟨i1, i2⟩
  | (false, k) :: M => by
    obtain ⟨i1, i2⟩ := inR_un lo hi M
    show (inR (k :: pj false M) lo hi = [] → inR (k :: un M) lo hi = inR (pj true M) lo hi) ∧ (inR (pj true M) lo hi = [] → inR (k :: un M) lo hi = inR (k :: pj false M) lo hi)
    unfold inR at i1 i2 ⊢
    rw [List.filter_cons, List.filter_cons]
    split
    · exact ⟨fun z => (by cases z), fun z => by rw [i2 z]⟩
    · exact ⟨i1, i2⟩
/-- the merge of changes that can be moved behind each other -/
theorem commutes_law {b l r : List ByteArray} (hb : vC b = 0) (hl : vC l = 0) (hr : vC r = 0) (hok : rbOk (script b r) (script b l) = true) :
    mgC b l r = 0 ∧ ((apF (rbP (script b r) (script b l)) l).1 = 10 ∨ ((apF (rbP (script b r) (script b l)) l).1 = 0 ∧ mgV b l r = oneC (apL (rbP (script b r) (script b l)) l) ∧ vC (apL (rbP (script b r) (script b l)) l) = 0)) := by
  have hC := mgC_good.2 ⟨hb, hl, hr⟩
  refine ⟨hC, ?_⟩
  obtain ⟨p1, p2, p3⟩ := script_at hb hl
  obtain ⟨q1, q2, q3⟩ := script_at hb hr
  obtain ⟨M, m1, m2, m3, m4⟩ := rb_mix hok
  obtain ⟨k1, k2, k3, k4⟩ := rbOk_iff.1 hok
  obtain ⟨w, hw⟩ := ap_both M 0 b r l m1 (by rw [m2]; exact script_ap b r) (by rw [m3]; exact script_ap b l)
  have hw2 := hw
  rw [← un_sw] at hw2
  obtain ⟨s, j1, j2⟩ := ap_mix (sw M) 0 0 b w hw2
  rw [pj_sw] at j1
  rw [sh_sw] at j2
  simp only [Bool.not_true, Bool.not_false] at j1 j2
  rw [m3] at j1
  rw [m4] at j2
  obtain rfl := j1.det (script_ap b l)
  have hmv : mgV b s r = oneC w := by
    have hu : ch (-1) (un M) := sep_un M _ m1
    have hun : ∀ h ∈ un M, h ∈ script b s ∨ h ∈ script b r := fun h hh => by
      rcases un_mem M h hh with z | z
      · rw [m2] at z; exact .inr z
      · rw [m3] at z; exact .inl z
    unfold mgV
    rw [if_pos hC, mgL_plain p2 q2 hu hun (fun x hx s' => ?_)]
    · congr 1
      exact (ap_to b (un M) 0 w (Int.le_refl _) (by omega) (by simpa using hw)).2
    · obtain ⟨h, hh, rfl⟩ := rg_of_meet p1 q1 (by rw [meet_comm]; exact k3) x hx
      have nt : ∀ x ∈ script b r, ∀ y ∈ script b s, hkEnd x < y.1 ∨ hkEnd y < x.1 := fun x hx y hy => by
        have := meet_iff.1 k3 (rgOld x) (List.mem_map.2 ⟨x, hx, rfl⟩) (rgOld y) (List.mem_map.2 ⟨y, hy, rfl⟩)
        unfold touch rgOld at this
        simp only [Bool.and_eq_false_iff, decide_eq_false_iff_not] at this
        omega
      have hge := hkEnd_ge h
      have iu := inR_un h.1 (hkEnd h) M
      rw [m2, m3] at iu
      unfold mgS
      dsimp only
      rcases hh with hh | hh
      · have e : inR (script b r) h.1 (hkEnd h) = [] := inR_out fun y hy => by have := nt y hy h hh; have := hkEnd_ge y; omega
        rw [if_pos (.inl (by rw [e]; rfl)), iu.2 e]
      · have e : inR (script b s) h.1 (hkEnd h) = [] := inR_out fun y hy => by have := nt h hh y hy; have := hkEnd_ge y; omega
        rw [iu.1 e]
        split
        · rename_i z
          rcases z with z | z
          · rw [List.eq_nil_of_length_eq_zero z, e]
          · rw [z]
        · rw [if_pos (by rw [e]; rfl)]
  have ha := apply_ap (p := rbP (script b r) (script b s)) (t := s) (s := w) (by rw [show rbP (script b r) (script b s) = rbR (script b r) (script b s) from if_pos hok]; exact k4) hl (by simpa using j2)
  by_cases hwl : w.length ≤ 120
  · rw [if_pos hwl] at ha
    have h0 : (apF (rbP (script b r) (script b s)) s).1 = 0 := by rw [ha.1]
    obtain ⟨-, -, -, -, hv⟩ := ap_apply h0
    exact .inr ⟨h0, by rw [ha.2]; exact hmv, hv⟩
  · rw [if_neg hwl] at ha
    exact .inl (by rw [ha.1])

/-! ### gaps -/
def gIn (p : List Hk) (k : Int) : Bool := p.any fun h => decide (h.1 ≤ k) && decide (k ≤ hkEnd h)
def gCov (p : List Hk) (k : Int) : Bool := p.any fun h => decide (h.1 ≤ k) && decide (k < hkEnd h)
theorem gIn_iff {p : List Hk} {k : Int} : gIn p k = true ↔ ∃ h ∈ p, h.1 ≤ k ∧ k ≤ hkEnd h := by simp [gIn]
theorem gCov_iff {p : List Hk} {k : Int} : gCov p k = true ↔ ∃ h ∈ p, h.1 ≤ k ∧ k < hkEnd h := by simp [gCov]
theorem mrgPC_gap (k : Int) : ∀ (l : List Pr2) (c : Pr2), c.1 ≤ c.2 → (∀ r ∈ l, c.1 ≤ r.1 ∧ r.1 ≤ r.2) → SrtP l → ((∃ x ∈ c :: l, x.1 ≤ k ∧ k ≤ x.2) ↔ ∃ r ∈ mrgPC c l, r.1 ≤ k ∧ k ≤ r.2) ∧ ((∃ x ∈ c :: l, x.1 ≤ k ∧ k < x.2) ↔ ∃ r ∈ mrgPC c l, r.1 ≤ k ∧ k < r.2)
  | [], c, _, _, _ => ⟨Iff.rfl, Iff.rfl⟩
  | y :: l, c, h0, h1, h2 => by
    have hl := List.pairwise_cons.1 h2
    have hy := h1 y List.mem_cons_self
    have hg : ∀ s ∈ l, y.1 ≤ s.1 := fun s hs => by have := hl.1 s hs; unfold leP at this; omega
    unfold mrgPC
    split
    · rename_i ht
      have ht : y.1 ≤ c.2 := by
        unfold tchP at ht
        simp only [Bool.and_eq_true, decide_eq_true_eq] at ht
        exact ht.1
      obtain ⟨i1, i2⟩ := mrgPC_gap k l (c.1, max c.2 y.2) (by show c.1 ≤ max c.2 y.2; omega) (fun s hs => h1 s (List.mem_cons_of_mem _ hs)) hl.2
      rw [← i1, ← i2]
      constructor
      · constructor
        · rintro ⟨x, hx, g1, g2⟩
          rcases List.mem_cons.1 hx with rfl | hx
          · exact ⟨_, List.mem_cons_self, g1, by show k ≤ max x.2 y.2; omega⟩
          rcases List.mem_cons.1 hx with rfl | hx
          · exact ⟨_, List.mem_cons_self, by show c.1 ≤ k; omega, by show k ≤ max c.2 x.2; omega⟩
          · exact ⟨x, List.mem_cons_of_mem _ hx, g1, g2⟩
        · rintro ⟨x, hx, g1, g2⟩
          rcases List.mem_cons.1 hx with rfl | hx
          · replace g1 : c.1 ≤ k := g1
            replace g2 : k ≤ max c.2 y.2 := g2
            by_cases hk : k ≤ c.2
            · exact ⟨c, List.mem_cons_self, g1, hk⟩
            · exact ⟨y, List.mem_cons_of_mem _ List.mem_cons_self, by omega, by omega⟩
          · exact ⟨x, List.mem_cons_of_mem _ (List.mem_cons_of_mem _ hx), g1, g2⟩
      · constructor
        · rintro ⟨x, hx, g1, g2⟩
          rcases List.mem_cons.1 hx with rfl | hx
          · exact ⟨_, List.mem_cons_self, g1, by show k < max x.2 y.2; omega⟩
          rcases List.mem_cons.1 hx with rfl | hx
          · exact ⟨_, List.mem_cons_self, by show c.1 ≤ k; omega, by show k < max c.2 x.2; omega⟩
          · exact ⟨x, List.mem_cons_of_mem _ hx, g1, g2⟩
        · rintro ⟨x, hx, g1, g2⟩
          rcases List.mem_cons.1 hx with rfl | hx
          · replace g1 : c.1 ≤ k := g1
            replace g2 : k < max c.2 y.2 := g2
            by_cases hk : k < c.2
            · exact ⟨c, List.mem_cons_self, g1, hk⟩
            · exact ⟨y, List.mem_cons_of_mem _ List.mem_cons_self, by omega, by omega⟩
          · exact ⟨x, List.mem_cons_of_mem _ (List.mem_cons_of_mem _ hx), g1, g2⟩
    · obtain ⟨i1, i2⟩ := mrgPC_gap k l y hy.2 (fun s hs => ⟨hg s hs, (h1 s (List.mem_cons_of_mem _ hs)).2⟩) hl.2
      have ex : ∀ {P : Pr2 → Prop} {m : List Pr2}, (∃ x ∈ c :: m, P x) ↔ P c ∨ ∃ x ∈ m, P x := by
        intro P m
        constructor
        · rintro ⟨x, hx, hp⟩
          rcases List.mem_cons.1 hx with rfl | hx
          · exact .inl hp
          · exact .inr ⟨x, hx, hp⟩
        · rintro (hp | ⟨x, hx, hp⟩)
          · exact ⟨c, List.mem_cons_self, hp⟩
          · exact ⟨x, List.mem_cons_of_mem _ hx, hp⟩
      rw [ex, ex, ex, ex, i1, i2]
      exact ⟨Iff.rfl, Iff.rfl⟩
theorem rgP_gap (p q : List Hk) (k : Int) : (gIn (p ++ q) k = true ↔ ∃ r ∈ rgP p q, r.1 ≤ k ∧ k ≤ r.2) ∧ (gCov (p ++ q) k = true ↔ ∃ r ∈ rgP p q, r.1 ≤ k ∧ k < r.2) := by
  have hs := srtP_srt ((oldR p ++ oldR q).map prj)
  have hm := srtP_perm ((oldR p ++ oldR q).map prj)
  have hin : ∀ r : Pr2, r ∈ srtP ((oldR p ++ oldR q).map prj) ↔ ∃ h ∈ p ++ q, r = (h.1, hkEnd h) := by
    intro r
    rw [hm.mem_iff]
    have e : (oldR p ++ oldR q).map prj = (p ++ q).map fun h => (h.1, hkEnd h) := by
      unfold oldR
      rw [← List.map_append, List.map_map]; rfl
    rw [e, List.mem_map]
    exact ⟨fun ⟨h, hh, e⟩ => ⟨h, hh, e.symm⟩, fun ⟨h, hh, e⟩ => ⟨h, hh, e.symm⟩⟩
  have e1 : gIn (p ++ q) k = true ↔ ∃ x ∈ srtP ((oldR p ++ oldR q).map prj), x.1 ≤ k ∧ k ≤ x.2 := by
    rw [gIn_iff]
    constructor
    · rintro ⟨h, hh, g⟩; exact ⟨_, (hin _).2 ⟨h, hh, rfl⟩, g⟩
    · rintro ⟨x, hx, g⟩
      obtain ⟨h, hh, rfl⟩ := (hin x).1 hx
      exact ⟨h, hh, g⟩
  have e2 : gCov (p ++ q) k = true ↔ ∃ x ∈ srtP ((oldR p ++ oldR q).map prj), x.1 ≤ k ∧ k < x.2 := by
    rw [gCov_iff]
    constructor
    · rintro ⟨h, hh, g⟩; exact ⟨_, (hin _).2 ⟨h, hh, rfl⟩, g⟩
    · rintro ⟨x, hx, g⟩
      obtain ⟨h, hh, rfl⟩ := (hin x).1 hx
      exact ⟨h, hh, g⟩
  have hall : ∀ r ∈ srtP ((oldR p ++ oldR q).map prj), r.1 ≤ r.2 := by
    intro r hr
    obtain ⟨h, -, rfl⟩ := (hin r).1 hr
    exact hkEnd_ge h
  rw [e1, e2]
  unfold rgP
  generalize srtP ((oldR p ++ oldR q).map prj) = L at hs hall
  cases L with
  | nil => exact ⟨Iff.rfl, Iff.rfl⟩
  | cons c l =>
    have hl := List.pairwise_cons.1 hs
    have hg : ∀ s ∈ l, c.1 ≤ s.1 := fun s hs => by have := hl.1 s hs; unfold leP at this; omega
    exact mrgPC_gap k l c (hall c List.mem_cons_self) (fun r hr => ⟨hg r hr, hall r (List.mem_cons_of_mem _ hr)⟩) hl.2

/-! ### the lines of a side, gap by gap -/
def vS (p : List Hk) (k : Int) : List ByteArray := p.flatMap fun h => if h.1 = k then h.2.2 else []
def vK (base : List ByteArray) (p : List Hk) (hi k : Int) : List ByteArray := vS p k ++ (if k < hi ∧ gCov p k = false then [base.getD k.toNat ByteArray.empty] else [])
def vT (base : List ByteArray) (p : List Hk) (hi : Int) : Nat → Int → List ByteArray
  | 0, _ => []
  | m + 1, k => vK base p hi k ++ vT base p hi m (k + 1)
theorem vT_congr {base : List ByteArray} {p P : List Hk} {hi : Int} : ∀ (m : Nat) (k : Int), (∀ j, k ≤ j → j < k + m → vS p j = vS P j ∧ gCov p j = gCov P j) → vT base p hi m k = vT base P hi m k
  | 0, _, _ => rfl
  | m + 1, k, h => by
    obtain ⟨e1, e2⟩ := h k (Int.le_refl _) (by omega)
    show vK base p hi k ++ vT base p hi m (k + 1) = vK base P hi k ++ vT base P hi m (k + 1)
    unfold vK
    rw [e1, e2, vT_congr m (k + 1) fun j h1 h2 => h j (by omega) (by omega)]
theorem vT_plain {base : List ByteArray} {P : List Hk} {hi : Int} (hb : hi ≤ base.length) (m : Nat) : ∀ (a : Nat) (k : Int), 0 ≤ k → k + a ≤ hi → (∀ j, k ≤ j → j < k + a → vS P j = [] ∧ gCov P j = false) → vT base P hi (a + m) k = (base.take (k + a).toNat).drop k.toNat ++ vT base P hi m (k + a)
  | 0, k, _, _, _ => by
    rw [Nat.zero_add, show k + ((0 : Nat) : Int) = k by omega, List.drop_eq_nil_of_le (by rw [List.length_take]; omega), List.nil_append]
  | a + 1, k, h0, h1, h2 => by
    obtain ⟨e1, e2⟩ := h2 k (Int.le_refl _) (by omega)
    have ih := vT_plain hb m a (k + 1) (by omega) (by omega) fun j h1 h3 => h2 j (by omega) (by omega)
    have hk : k.toNat < base.length := by omega
    rw [Nat.add_right_comm]
    show vK base P hi k ++ vT base P hi (a + m) (k + 1) = _
    rw [ih]
    unfold vK
    rw [e1, if_pos ⟨by omega, e2⟩, List.nil_append]
    rw [part_split base (a := k.toNat) (b := (k + 1).toNat) (c := (k + ((a + 1 : Nat) : Int)).toNat) (by omega) (by omega)]
    have es : (base.take (k + 1).toNat).drop k.toNat = [base.getD k.toNat ByteArray.empty] := by
      rw [show (k + 1).toNat = k.toNat + 1 by omega, List.take_add_one, List.getElem?_eq_getElem hk, Option.toList_some, List.drop_append, List.length_take, List.drop_eq_nil_of_le (by rw [List.length_take]; omega), List.nil_append, show k.toNat - min k.toNat base.length = 0 by omega, List.drop_zero, List.getD_eq_getElem?_getD, List.getElem?_eq_getElem hk]
      rfl
    rw [es, show k + 1 + ((a : Nat) : Int) = k + ((a + 1 : Nat) : Int) by omega]
    simp only [List.append_assoc]
theorem vT_gone {base : List ByteArray} {P : List Hk} {hi : Int} (m : Nat) : ∀ (a : Nat) (k : Int), (∀ j, k ≤ j → j < k + a → vS P j = [] ∧ gCov P j = true) → vT base P hi (a + m) k = vT base P hi m (k + a)
  | 0, k, _ => by rw [Nat.zero_add, show k + ((0 : Nat) : Int) = k by omega]
  | a + 1, k, h2 => by
    obtain ⟨e1, e2⟩ := h2 k (Int.le_refl _) (by omega)
    rw [Nat.add_right_comm]
    show vK base P hi k ++ vT base P hi (a + m) (k + 1) = _
    unfold vK
    rw [e1, e2, if_neg (fun z => by cases z.2), vT_gone m a (k + 1) fun j h1 h3 => h2 j (by omega) (by omega), show k + 1 + ((a : Nat) : Int) = k + ((a + 1 : Nat) : Int) by omega]
    rfl
theorem vS_none {p : List Hk} {k : Int} (h : ∀ x ∈ p, x.1 ≠ k) : vS p k = [] := List.flatMap_eq_nil_iff.2 fun x hx => if_neg (h x hx)
theorem gCov_none {p : List Hk} {k : Int} (h : ∀ x ∈ p, ¬ (x.1 ≤ k ∧ k < hkEnd x)) : gCov p k = false := by
  rw [← Bool.not_eq_true, gCov_iff]
  rintro ⟨x, hx, g⟩
  exact h x hx g
theorem vT_raw {base : List ByteArray} {hi : Int} (hb : hi ≤ base.length) : ∀ (P : List Hk) (k : Int) (m : Nat), 0 ≤ k → k ≤ hi → (m : Int) = hi - k + 1 → ch (k - 1) P → inside k hi P → vT base P hi m k = raw base hi k P
  | [], k, m, h0, h1, hm, _, _ => by
    obtain ⟨a, ha⟩ : ∃ a : Nat, (a : Int) = hi - k := ⟨(hi - k).toNat, by omega⟩
    rw [show m = a + 1 by omega, vT_plain hb 1 a k h0 (by omega) (fun j _ _ => ⟨rfl, rfl⟩), show k + (a : Int) = hi by omega]
    show _ ++ (vK base [] hi hi ++ []) = (base.take hi.toNat).drop k.toNat
    unfold vK
    rw [if_neg (fun z => by omega)]
    show _ ++ [] = _
    rw [List.append_nil]
  | h :: P, k, m, h0, h1, hm, hc, hi' => by
    have q1 := hi' h List.mem_cons_self
    have q2 := hkEnd_ge h
    have lo : ∀ x ∈ P, hkEnd h < x.1 := ch_all hc.2
    have ih := vT_raw hb P (hkEnd h) (hi - hkEnd h + 1).toNat (by omega) q1.2 (by omega) (ch_le (by omega) hc.2) (fun x hx => ⟨by have := lo x hx; omega, (hi' x (List.mem_cons_of_mem _ hx)).2⟩)
    obtain ⟨a, ha⟩ : ∃ a : Nat, (a : Int) = h.1 - k := ⟨(h.1 - k).toNat, by omega⟩
    obtain ⟨m', hm'⟩ : ∃ m' : Nat, (m' : Int) = hi - h.1 := ⟨(hi - h.1).toNat, by omega⟩
    rw [show m = a + (m' + 1) by omega, vT_plain hb (m' + 1) a k h0 (by omega) (fun j j1 j2 => ⟨vS_none fun x hx => ?_, gCov_none fun x hx => ?_⟩), show k + (a : Int) = h.1 by omega]
    · show _ = (base.take h.1.toNat).drop k.toNat ++ h.2.2 ++ raw base hi (hkEnd h) P
      rw [List.append_assoc]
      congr 1
      have eS : vS (h :: P) h.1 = h.2.2 := by
        show (if h.1 = h.1 then h.2.2 else []) ++ vS P h.1 = _
        rw [if_pos rfl, vS_none fun x hx => by have := lo x hx; omega, List.append_nil]
      rw [← ih]
      show (vS (h :: P) h.1 ++ _) ++ vT base (h :: P) hi m' (h.1 + 1) = _
      rw [eS, List.append_assoc]
      congr 1
      have cg : ∀ j, h.1 < j → hkEnd h ≤ j → vS (h :: P) j = vS P j ∧ gCov (h :: P) j = gCov P j := fun j j1 j2 => by
        constructor
        · show (if h.1 = j then h.2.2 else []) ++ vS P j = _
          rw [if_neg (by omega)]; rfl
        · show ((decide (h.1 ≤ j) && decide (j < hkEnd h)) || gCov P j) = _
          rw [decide_eq_false (p := j < hkEnd h) (by omega), Bool.and_false, Bool.false_or]
      by_cases ho : hkEnd h = h.1
      · have eg : gCov (h :: P) h.1 = gCov P h.1 := by
          show ((decide (h.1 ≤ h.1) && decide (h.1 < hkEnd h)) || gCov P h.1) = _
          rw [decide_eq_false (p := h.1 < hkEnd h) (by omega), Bool.and_false, Bool.false_or]
        have en : (hi - hkEnd h + 1).toNat = m' + 1 := by omega
        rw [en, ho]
        show _ = vK base P hi h.1 ++ vT base P hi m' (h.1 + 1)
        unfold vK
        rw [eg, vS_none (p := P) (k := h.1) (fun x hx => by have := lo x hx; omega), List.nil_append, vT_congr m' (h.1 + 1) fun j j1 j2 => cg j (by omega) (by omega)]
      · have eg : gCov (h :: P) h.1 = true := gCov_iff.2 ⟨h, List.mem_cons_self, Int.le_refl _, by omega⟩
        rw [if_neg (fun z => by rw [eg] at z; cases z.2), List.nil_append]
        obtain ⟨b, hb'⟩ : ∃ b : Nat, (b : Int) = hkEnd h - h.1 - 1 := ⟨(hkEnd h - h.1 - 1).toNat, by omega⟩
        rw [show m' = b + (hi - hkEnd h + 1).toNat by omega, vT_gone _ b (h.1 + 1) (fun j j1 j2 => ⟨?_, gCov_iff.2 ⟨h, List.mem_cons_self, by omega, by omega⟩⟩), show h.1 + 1 + (b : Int) = hkEnd h by omega]
        · exact vT_congr _ _ fun j j1 j2 => cg j (by omega) j1
        · refine vS_none fun x hx => ?_
          rcases List.mem_cons.1 hx with rfl | hx
          · omega
          · have := lo x hx; omega
    · rcases List.mem_cons.1 hx with rfl | hx
      · omega
      · have := lo x hx; omega
    · rcases List.mem_cons.1 hx with rfl | hx
      · omega
      · have := lo x hx; omega
/-! ### a side in a region -/
theorem apartR_cases : ∀ {l : List Pr2}, apartR l → ∀ {r r' : Pr2}, r ∈ l → r' ∈ l → r = r' ∨ r.2 < r'.1 ∨ r'.2 < r.1
  | c :: l, h, r, r', hr, hr' => by
    have hl := List.pairwise_cons.1 h
    rcases List.mem_cons.1 hr with rfl | hr
    · rcases List.mem_cons.1 hr' with rfl | hr'
      · exact .inl rfl
      · exact .inr (.inl (hl.1 r' hr'))
    · rcases List.mem_cons.1 hr' with e | hr'
      · rw [e]; exact .inr (.inr (hl.1 r hr))
      · exact apartR_cases hl.2 hr hr'
theorem side_in {p : List Hk} {l : List Pr2} (hl : apartR l) (hc : cover p l) {r : Pr2} (hr : r ∈ l) : ∀ h ∈ p, (r.1 ≤ h.1 ∧ hkEnd h ≤ r.2) ∨ hkEnd h < r.1 ∨ r.2 < h.1 := by
  intro h hh
  obtain ⟨r', hr', g1, g2⟩ := hc h hh
  rcases apartR_cases hl hr hr' with rfl | q | q
  · exact .inl ⟨g1, g2⟩
  · exact .inr (.inr (by omega))
  · exact .inr (.inl (by omega))
theorem flatMap_filter {α β : Type} (f : α → List β) (g : α → Bool) : ∀ (l : List α), (∀ x ∈ l, g x = false → f x = []) → (l.filter g).flatMap f = l.flatMap f
  | [], _ => rfl
  | x :: l, h => by
    have ih := flatMap_filter f g l fun y hy => h y (List.mem_cons_of_mem _ hy)
    rw [List.filter_cons]
    split
    · rw [List.flatMap_cons, List.flatMap_cons, ih]
    · rename_i q
      rw [List.flatMap_cons, h x List.mem_cons_self (by simpa using q), ih]; rfl
theorem vT_region {base : List ByteArray} {p : List Hk} {l : List Pr2} (hl : apartR l) (hc : cover p l) {r : Pr2} (hr : r ∈ l) (hp : ch (-1) p) (h0 : 0 ≤ r.1) (h1 : r.1 ≤ r.2) (h2 : r.2 ≤ base.length) : vT base p r.2 (r.2 - r.1 + 1).toNat r.1 = raw base r.2 r.1 (inR p r.1 r.2) := by
  have hs := side_in hl hc hr
  rw [vT_congr (P := inR p r.1 r.2) _ _ fun j j1 j2 => ?_]
  · refine vT_raw h2 _ _ _ h0 h1 (by omega) ?_ ?_
    · have : ∀ (q : List Hk) (e : Int), ch e q → (∀ h ∈ q, (r.1 ≤ h.1 ∧ hkEnd h ≤ r.2) ∨ hkEnd h < r.1 ∨ r.2 < h.1) → ch (r.1 - 1) (inR q r.1 r.2) ∧ ch e (inR q r.1 r.2) := by
        intro q
        induction q with
        | nil => exact fun _ _ _ => ⟨True.intro, True.intro⟩
        | cons h q ih =>
          intro e hc' hs'
          obtain ⟨i1, i2⟩ := ih (hkEnd h) hc'.2 (fun x hx => hs' x (List.mem_cons_of_mem _ hx))
          have hge := hkEnd_ge h
          unfold inR at i1 i2 ⊢
          rw [List.filter_cons]
          split
          · rename_i z
            simp only [Bool.and_eq_true, decide_eq_true_eq] at z
            exact ⟨⟨by omega, i2⟩, hc'.1, i2⟩
          · exact ⟨i1, ch_le (by have := hc'.1; omega) i2⟩
      exact (this p _ hp hs).1
    · intro h hh
      have := (List.mem_filter.1 hh).2
      simp only [Bool.and_eq_true, decide_eq_true_eq] at this
      exact this
  · have key : ∀ x ∈ p, (decide (r.1 ≤ x.1) && decide (hkEnd x ≤ r.2)) = false → ¬ (x.1 ≤ j ∧ j ≤ hkEnd x) := fun x hx z => by
      have hge := hkEnd_ge x
      rcases hs x hx with q | q | q
      · rw [decide_eq_true q.1, decide_eq_true q.2] at z; cases z
      · omega
      · omega
    constructor
    · exact (flatMap_filter _ _ p fun x hx z => if_neg (by have := key x hx z; have := hkEnd_ge x; omega)).symm
    · rw [Bool.eq_iff_iff, gCov_iff, gCov_iff]
      constructor
      · rintro ⟨x, hx, g⟩
        refine ⟨x, List.mem_filter.2 ⟨hx, ?_⟩, g⟩
        rw [← Bool.not_eq_false]
        exact fun z => key x hx z ⟨g.1, by omega⟩
      · rintro ⟨x, hx, g⟩
        exact ⟨x, (List.mem_filter.1 hx).1, g⟩
/-- whether a side has a hunk in these gaps -/
def vA (p : List Hk) (lo hi : Int) : Bool := p.any fun h => decide (lo ≤ h.1) && decide (h.1 < hi)
theorem vA_region {p : List Hk} {l : List Pr2} (hl : apartR l) (hc : cover p l) {r : Pr2} (hr : r ∈ l) : vA p r.1 (r.2 + 1) = decide ((inR p r.1 r.2).length ≠ 0) := by
  have hs := side_in hl hc hr
  rw [Bool.eq_iff_iff, decide_eq_true_eq]
  constructor
  · intro h
    obtain ⟨x, hx, g⟩ := List.any_eq_true.1 h
    simp only [Bool.and_eq_true, decide_eq_true_eq] at g
    have hge := hkEnd_ge x
    have hi : x ∈ inR p r.1 r.2 := by
      refine List.mem_filter.2 ⟨hx, ?_⟩
      rcases hs x hx with q | q | q
      · rw [decide_eq_true q.1, decide_eq_true q.2]; rfl
      · omega
      · omega
    exact fun z => by rw [List.eq_nil_of_length_eq_zero z] at hi; cases hi
  · intro h
    cases e : inR p r.1 r.2 with
    | nil => rw [e] at h; exact absurd rfl h
    | cons x L =>
      have hx : x ∈ inR p r.1 r.2 := by rw [e]; exact List.mem_cons_self
      obtain ⟨g1, g2⟩ := List.mem_filter.1 hx
      simp only [Bool.and_eq_true, decide_eq_true_eq] at g2
      have hge := hkEnd_ge x
      refine List.any_eq_true.2 ⟨x, g1, ?_⟩
      rw [decide_eq_true g2.1, decide_eq_true (p := x.1 < r.2 + 1) (by omega)]; rfl

/-! ### the loop over the gaps -/
def stM (o : List Ch) (c : List ByteArray) : MSt := (o, if c.length = 0 then none else some c)
theorem plF_stM (o : List Ch) (c l : List ByteArray) : plF (stM o c) l = stM o (c ++ l) := by
  unfold plF stM
  by_cases hl : l.length = 0
  · rw [if_pos hl, List.eq_nil_of_length_eq_zero hl, List.append_nil]
  · rw [if_neg hl, if_neg (c := (c ++ l).length = 0) (by rw [List.length_append]; omega)]
    by_cases hc : c.length = 0
    · rw [if_pos hc, List.eq_nil_of_length_eq_zero hc]; rfl
    · rw [if_neg hc]
theorem flush_stM (o : List Ch) (c : List ByteArray) : flushM (stM o c) = if 0 < c.length then o ++ [plCh c] else o := by
  unfold stM
  by_cases hc : c.length = 0
  · rw [if_pos hc, if_neg (by omega)]; rfl
  · rw [if_neg hc, if_pos (by omega)]; rfl
theorem cfF_stM (o : List Ch) (c b l r : List ByteArray) : cfF (stM o c) b l r = stM ((if 0 < c.length then o ++ [plCh c] else o) ++ [(true, [], b, l, r)]) [] := by
  show (flushM (stM o c) ++ [_], none) = _
  rw [flush_stM]; rfl
/-- at gap k with this state the merge is still right -/
def mInv (base : List ByteArray) (p q : List Hk) (k : Nat) (s : MSt) : Prop := ∃ l : List Pr2, mgL base p q = flushM (mgN base p q l k s) ∧ apartR l ∧ (∀ r ∈ l, r ∈ rgP p q ∧ (k : Int) ≤ r.1 ∧ r.1 ≤ r.2 ∧ r.2 ≤ base.length) ∧ ∀ j : Int, (k : Int) ≤ j → (gIn (p ++ q) j = true ↔ ∃ r ∈ l, r.1 ≤ j ∧ j ≤ r.2) ∧ (gCov (p ++ q) j = true ↔ ∃ r ∈ l, r.1 ≤ j ∧ j < r.2)
theorem rgnOk_all {n : Int} : ∀ {l : List Pr2} {a : Int}, rgnOk n a l → ∀ r ∈ l, a ≤ r.1 ∧ r.1 ≤ r.2 ∧ r.2 ≤ n
  | c :: l, a, h, r, hr => by
    obtain ⟨h0, h1, h2, h3, h4⟩ := h
    rcases List.mem_cons.1 hr with rfl | hr
    · exact ⟨h1, h2, h3⟩
    · have := rgnOk_all h4 r hr
      omega
theorem mInv_start {base : List ByteArray} {p q : List Hk} (hp : ∀ h ∈ p, 0 ≤ h.1 ∧ hkEnd h ≤ base.length) (hq : ∀ h ∈ q, 0 ≤ h.1 ∧ hkEnd h ≤ base.length) : mInv base p q 0 (stM [] []) :=
  ⟨rgP p q, rfl, (rgP_apart p q).1, fun r hr => ⟨hr, rgnOk_all (rgP_ok (by omega) hp hq) r hr⟩, fun j _ => rgP_gap p q j⟩
theorem mgN_step (base : List ByteArray) (p q : List Hk) (l : List Pr2) (k : Nat) (s : MSt) (hk : k < base.length) (hl : ∀ r ∈ l, (k : Int) + 1 ≤ r.1) : mgN base p q l k s = mgN base p q l ((k + 1 : Nat) : Int) (plF s [base.getD k ByteArray.empty]) := by
  have es : ∀ c : Nat, k + 1 ≤ c → (base.take c).drop k = [base.getD k ByteArray.empty] ++ (base.take c).drop (k + 1) := by
    intro c hc
    rw [part_split base (a := k) (b := k + 1) (c := c) (by omega) hc]
    congr 1
    rw [List.take_add_one, List.getElem?_eq_getElem hk, Option.toList_some, List.drop_append, List.length_take, List.drop_eq_nil_of_le (by rw [List.length_take]; omega), List.nil_append, show k - min k base.length = 0 by omega, List.drop_zero, List.getD_eq_getElem?_getD, List.getElem?_eq_getElem hk]
    rfl
  cases l with
  | nil =>
    show plF s (base.drop ((k : Int)).toNat) = plF (plF s _) (base.drop (((k + 1 : Nat) : Int)).toNat)
    rw [plF_plF, Int.toNat_natCast, Int.toNat_natCast]
    have := es base.length (by omega)
    rw [List.take_length] at this
    rw [this]
  | cons r l =>
    have hr := hl r List.mem_cons_self
    show mgN base p q l r.2 (mgS base p q r.1 r.2 (plF s ((base.take r.1.toNat).drop ((k : Int)).toNat))) = mgN base p q l r.2 (mgS base p q r.1 r.2 (plF (plF s _) ((base.take r.1.toNat).drop (((k + 1 : Nat) : Int)).toNat)))
    rw [plF_plF, Int.toNat_natCast, Int.toNat_natCast, es r.1.toNat (by omega)]
theorem mInv_calm {base : List ByteArray} {p q : List Hk} {k : Nat} {s : MSt} (h : mInv base p q k s) (hk : k < base.length) (hg : gIn (p ++ q) k = false) : mInv base p q (k + 1) (plF s [base.getD k ByteArray.empty]) := by
  obtain ⟨l, h1, h2, h3, h4⟩ := h
  have hlo : ∀ r ∈ l, (k : Int) + 1 ≤ r.1 := fun r hr => by
    have g := h3 r hr
    rcases Int.lt_or_eq_of_le g.2.1 with z | z
    · omega
    · have := (h4 k (Int.le_refl _)).1.2 ⟨r, hr, by omega, by omega⟩
      rw [hg] at this; cases this
  refine ⟨l, ?_, h2, fun r hr => ⟨(h3 r hr).1, ?_, (h3 r hr).2.2⟩, fun j hj => h4 j (by omega)⟩
  · rw [h1, mgN_step base p q l k s hk hlo]
  · have := hlo r hr; omega
theorem mInv_calm_end {base : List ByteArray} {p q : List Hk} {s : MSt} (h : mInv base p q base.length s) (hg : gIn (p ++ q) base.length = false) : mInv base p q (base.length + 1) s := by
  obtain ⟨l, h1, h2, h3, h4⟩ := h
  cases l with
  | nil =>
    refine ⟨[], ?_, h2, fun r hr => (by cases hr), fun j hj => h4 j (by omega)⟩
    rw [h1]
    show flushM (plF s (base.drop ((base.length : Int)).toNat)) = flushM (plF s (base.drop (((base.length + 1 : Nat) : Int)).toNat))
    rw [Int.toNat_natCast, Int.toNat_natCast, List.drop_length, List.drop_eq_nil_of_le (by omega)]
  | cons r l =>
    have g := h3 r List.mem_cons_self
    have := (h4 base.length (Int.le_refl _)).1.2 ⟨r, List.mem_cons_self, by omega, by omega⟩
    rw [hg] at this; cases this
theorem mInv_end {base : List ByteArray} {p q : List Hk} {s : MSt} (h : mInv base p q (base.length + 1) s) : mgL base p q = flushM s := by
  obtain ⟨l, h1, h2, h3, -⟩ := h
  cases l with
  | nil =>
    rw [h1]
    show flushM (plF s (base.drop (((base.length + 1 : Nat) : Int)).toNat)) = _
    rw [Int.toNat_natCast, List.drop_eq_nil_of_le (by omega)]
    rfl
  | cons r l => have g := h3 r List.mem_cons_self; omega
theorem mInv_region {base : List ByteArray} {p q : List Hk} {k : Nat} {s : MSt} (h : mInv base p q k s) (hg : gIn (p ++ q) k = true) : ∃ hi : Nat, ((k : Int), (hi : Int)) ∈ rgP p q ∧ k ≤ hi ∧ hi ≤ base.length ∧ (∀ j : Nat, k ≤ j → j < hi → gCov (p ++ q) j = true) ∧ gCov (p ++ q) hi = false ∧
    (hi < base.length → mInv base p q (hi + 1) (plF (mgS base p q k hi s) [base.getD hi ByteArray.empty])) ∧ (hi = base.length → mInv base p q (hi + 1) (mgS base p q k hi s)) := by
  obtain ⟨l, h1, h2, h3, h4⟩ := h
  obtain ⟨r, hr, g1, g2⟩ := (h4 k (Int.le_refl _)).1.1 hg
  obtain ⟨t1, t2, t3, t4⟩ := h3 r hr
  have e1 : r.1 = k := by omega
  -- r is the first
  obtain ⟨l', rfl⟩ : ∃ l', l = r :: l' := by
    cases l with
    | nil => cases hr
    | cons c l' =>
      rcases List.mem_cons.1 hr with rfl | hr
      · exact ⟨l', rfl⟩
      · have := (List.pairwise_cons.1 h2).1 r hr
        have := h3 c List.mem_cons_self
        omega
  have hl' := List.pairwise_cons.1 h2
  have en : r = ((k : Int), ((r.2.toNat : Nat) : Int)) := Prod.ext e1 (show r.2 = _ by omega)
  have nx : ∀ j : Int, r.2 < j → (gIn (p ++ q) j = true ↔ ∃ x ∈ l', x.1 ≤ j ∧ j ≤ x.2) ∧ (gCov (p ++ q) j = true ↔ ∃ x ∈ l', x.1 ≤ j ∧ j < x.2) := fun j hj => by
    obtain ⟨a, b⟩ := h4 j (by omega)
    rw [a, b]
    constructor
    · constructor
      · rintro ⟨x, hx, z⟩
        rcases List.mem_cons.1 hx with rfl | hx
        · omega
        · exact ⟨x, hx, z⟩
      · rintro ⟨x, hx, z⟩; exact ⟨x, List.mem_cons_of_mem _ hx, z⟩
    · constructor
      · rintro ⟨x, hx, z⟩
        rcases List.mem_cons.1 hx with rfl | hx
        · omega
        · exact ⟨x, hx, z⟩
      · rintro ⟨x, hx, z⟩; exact ⟨x, List.mem_cons_of_mem _ hx, z⟩
  have em : mgN base p q (r :: l') k s = mgN base p q l' r.2 (mgS base p q k r.2 s) := by
    show mgN base p q l' r.2 (mgS base p q r.1 r.2 (plF s ((base.take r.1.toNat).drop ((k : Int)).toNat))) = _
    rw [e1, Int.toNat_natCast, List.drop_eq_nil_of_le (by rw [List.length_take]; omega)]
    rfl
  refine ⟨r.2.toNat, by rw [← en]; exact t1, by omega, by omega, fun j j1 j2 => ?_, ?_, fun hlt => ?_, fun heq => ?_⟩
  · exact (h4 j (by omega)).2.2 ⟨r, List.mem_cons_self, by omega, by omega⟩
  · rw [← Bool.not_eq_true]
    intro z
    obtain ⟨x, hx, z1, z2⟩ := (h4 _ (by omega)).2.1 z
    rcases List.mem_cons.1 hx with rfl | hx
    · omega
    · have := hl'.1 x hx; omega
  · have e2 : ((r.2.toNat : Nat) : Int) = r.2 := by omega
    refine ⟨l', ?_, hl'.2, fun x hx => ⟨(h3 x (List.mem_cons_of_mem _ hx)).1, by have := hl'.1 x hx; omega, (h3 x (List.mem_cons_of_mem _ hx)).2.2⟩, fun j hj => nx j (by omega)⟩
    rw [h1, em, e2, ← mgN_step base p q l' r.2.toNat (mgS base p q k r.2 s) hlt (fun x hx => by have := hl'.1 x hx; omega), e2]
  · have e2 : ((r.2.toNat : Nat) : Int) = r.2 := by omega
    have el : l' = [] := by
      cases l' with
      | nil => rfl
      | cons x l' => have := hl'.1 x List.mem_cons_self; have := h3 x (List.mem_cons_of_mem _ List.mem_cons_self); omega
    subst el
    refine ⟨[], ?_, hl'.2, fun x hx => (by cases hx), fun j hj => nx j (by omega)⟩
    rw [h1, em, e2]
    show flushM (plF _ (base.drop r.2.toNat)) = flushM (plF _ (base.drop (((r.2.toNat + 1 : Nat) : Int)).toNat))
    rw [Int.toNat_natCast, List.drop_eq_nil_of_le (by omega), List.drop_eq_nil_of_le (by omega)]
/-- what the reference does in a region -/
theorem mgS_ref {base : List ByteArray} {p q : List Hk} (hp : ch (-1) p) (hq : ch (-1) q) {lo hi : Nat} (hr : ((lo : Int), (hi : Int)) ∈ rgP p q) (h1 : lo ≤ hi) (h2 : hi ≤ base.length) (o : List Ch) (c : List ByteArray) :
    mgS base p q lo hi (stM o c) =
      if vA q lo (hi + 1) = false ∨ vT base p hi (hi - lo + 1) lo = vT base q hi (hi - lo + 1) lo then stM o (c ++ vT base p hi (hi - lo + 1) lo)
      else if vA p lo (hi + 1) = false then stM o (c ++ vT base q hi (hi - lo + 1) lo)
      else stM ((if 0 < c.length then o ++ [plCh c] else o) ++ [(true, [], (base.take hi).drop lo, vT base p hi (hi - lo + 1) lo, vT base q hi (hi - lo + 1) lo)]) [] := by
  obtain ⟨a1, a2, a3⟩ := rgP_apart p q
  have en : (((hi : Int) - (lo : Int) + 1).toNat) = hi - lo + 1 := by omega
  have v1 := vT_region (base := base) a1 a2 hr hp (show (0 : Int) ≤ (lo : Int) by omega) (show (lo : Int) ≤ (hi : Int) by omega) (show (hi : Int) ≤ base.length by omega)
  have v2 := vT_region (base := base) a1 a3 hr hq (show (0 : Int) ≤ (lo : Int) by omega) (show (lo : Int) ≤ (hi : Int) by omega) (show (hi : Int) ≤ base.length by omega)
  have w1 := vA_region a1 a2 hr
  have w2 := vA_region a1 a3 hr
  dsimp only at v1 v2 w1 w2
  rw [en] at v1 v2
  have d : ∀ n : Nat, (decide (n ≠ 0) = false) = (n = 0) := fun n => by simp
  unfold mgS
  simp only [v1, v2, w1, w2, d, plF_stM, cfF_stM, Int.toNat_natCast]
/-! ### steps of the reference's loops -/
theorem any_take {α : Type} (f : α → Bool) {l : List α} {i : Nat} (h : i < l.length) : (l.take (i + 1)).any f = ((l.take i).any f || f l[i]) := by
  rw [List.take_add_one, List.getElem?_eq_getElem h, Option.toList_some, List.any_append]; simp
theorem any_drop {α : Type} (f : α → Bool) {l : List α} {i : Nat} (h : i < l.length) : (l.drop i).any f = (f l[i] || (l.drop (i + 1)).any f) := by
  rw [List.drop_eq_getElem_cons h]; rfl
theorem gCov_take {p : List Hk} {i : Nat} (h : i < p.length) (k : Int) : gCov (p.take (i + 1)) k = (gCov (p.take i) k || (decide (p[i].1 ≤ k) && decide (k < hkEnd p[i]))) := any_take _ h
theorem gCov_drop {p : List Hk} {i : Nat} (h : i < p.length) (k : Int) : gCov (p.drop i) k = ((decide (p[i].1 ≤ k) && decide (k < hkEnd p[i])) || gCov (p.drop (i + 1)) k) := any_drop _ h
theorem gCov_app (p q : List Hk) (k : Int) : gCov (p ++ q) k = (gCov p k || gCov q k) := List.any_append
theorem gIn_app (p q : List Hk) (k : Int) : gIn (p ++ q) k = (gIn p k || gIn q k) := List.any_append
def atB (p : List Hk) (k : Int) : Bool := p.any fun h => decide (h.1 = k)
theorem atB_take {p : List Hk} {i : Nat} (h : i < p.length) (k : Int) : atB (p.take (i + 1)) k = (atB (p.take i) k || decide (p[i].1 = k)) := any_take _ h
theorem vS_take {p : List Hk} {i : Nat} (h : i < p.length) (k : Int) : vS (p.take (i + 1)) k = vS (p.take i) k ++ (if p[i].1 = k then p[i].2.2 else []) := by
  unfold vS
  rw [List.take_add_one, List.getElem?_eq_getElem h, Option.toList_some, List.flatMap_append, List.flatMap_singleton]
theorem vS_len {p : List Hk} (hp : ∀ h ∈ p, HkOk h) (k : Int) : (vS p k).length ≤ 120 * p.length := by
  induction p with
  | nil => exact Nat.zero_le _
  | cons h p ih =>
    have ih := ih fun x hx => hp x (List.mem_cons_of_mem _ hx)
    have h4 := (hp h List.mem_cons_self).2.2.2
    show ((if h.1 = k then h.2.2 else []) ++ vS p k).length ≤ _
    rw [List.length_append, List.length_cons]
    split
    · omega
    · rw [List.length_nil]; omega
theorem vA_step (p : List Hk) {lo k : Int} (h : lo ≤ k) : vA p lo (k + 1) = (vA p lo k || atB p k) := by
  induction p with
  | nil => rfl
  | cons x p ih =>
    show ((decide (lo ≤ x.1) && decide (x.1 < k + 1)) || vA p lo (k + 1)) = (((decide (lo ≤ x.1) && decide (x.1 < k)) || vA p lo k) || (decide (x.1 = k) || atB p k))
    rw [ih]
    by_cases h1 : x.1 < k
    · rw [decide_eq_true (p := x.1 < k + 1) (by omega), decide_eq_true h1, decide_eq_false (p := x.1 = k) (by omega), Bool.false_or, Bool.or_assoc]
    · by_cases h2 : x.1 = k
      · rw [decide_eq_true (p := x.1 < k + 1) (by omega), decide_eq_true h2, decide_eq_true (p := lo ≤ x.1) (by omega)]; simp
      · rw [decide_eq_false (p := x.1 < k + 1) (by omega), decide_eq_false h1, decide_eq_false h2]; simp
theorem vA_start (p : List Hk) (lo : Int) : vA p lo lo = false := by
  unfold vA
  rw [List.any_eq_false]
  intro x _
  rw [Bool.and_eq_true, decide_eq_true_eq, decide_eq_true_eq]; omega
/-- the marks of the gaps -/
def mkF (n : Nat) (f : Int → Bool) : List Int := (List.range (n + 1)).map fun (j : Nat) => if f (j : Int) = true then 1 else 0
def mkG (n : Nat) (L : List Hk) : List Int := mkF n (gIn L)
theorem mkF_congr {n : Nat} {f g : Int → Bool} (h : ∀ j : Int, 0 ≤ j → f j = g j) : mkF n f = mkF n g := List.map_congr_left fun j _ => by rw [h j (by omega)]
theorem mkF_len (n : Nat) (f : Int → Bool) : (mkF n f).length = n + 1 := by unfold mkF; rw [List.length_map, List.length_range]
theorem mkF_zero (n : Nat) : List.replicate (n + 1) (0 : Int) = mkF n fun _ => false := by
  unfold mkF
  apply List.ext_getElem
  · simp
  · intro i h1 h2; simp
theorem mkF_set {n : Nat} (f : Int → Bool) (k : Nat) : (mkF n f).set k 1 = mkF n fun j => f j || decide (j = k) := by
  unfold mkF
  apply List.ext_getElem
  · simp
  · intro i h1 h2
    rw [List.getElem_set]
    simp only [List.getElem_map, List.getElem_range]
    by_cases e : k = i
    · subst e; simp
    · rw [if_neg e, decide_eq_false (by omega), Bool.or_false]
theorem mkF_get {n : Nat} (f : Int → Bool) {k : Nat} (h : k ≤ n) (d : Int) : (mkF n f).getD k d = if f k = true then 1 else 0 := by
  unfold mkF
  rw [List.getD_eq_getElem?_getD, List.getElem?_map, List.getElem?_range (by omega)]; rfl
/-- marks so far: the hunks L, and of h the gaps ahead of k -/
def mkH (n : Nat) (L : List Hk) (h : Hk) (k : Int) : List Int := mkF n fun j => gIn L j || (decide (h.1 ≤ j) && decide (j < k))
theorem mkH_start (n : Nat) (L : List Hk) (h : Hk) : mkH n L h h.1 = mkG n L := mkF_congr fun j _ => by
  have : (decide (h.1 ≤ j) && decide (j < h.1)) = false := by
    rw [← Bool.not_eq_true, Bool.and_eq_true, decide_eq_true_eq, decide_eq_true_eq]; omega
  rw [this, Bool.or_false]
theorem mkH_set {n : Nat} {L : List Hk} {h : Hk} {k : Int} (h0 : 0 ≤ h.1) (h1 : h.1 ≤ k) : (mkH n L h k).set k.toNat 1 = mkH n L h (k + 1) := by
  unfold mkH
  rw [mkF_set]
  refine mkF_congr fun j hj => ?_
  rw [Bool.or_assoc]
  congr 1
  rw [Bool.eq_iff_iff]
  simp only [Bool.or_eq_true, Bool.and_eq_true, decide_eq_true_eq]
  omega
theorem mkH_end (n : Nat) (L : List Hk) (h : Hk) : mkH n L h (hkEnd h + 1) = mkG n (L ++ [h]) := mkF_congr fun j _ => by
  rw [gIn_app]
  congr 1
  show (decide (h.1 ≤ j) && decide (j < hkEnd h + 1)) = ((decide (h.1 ≤ j) && decide (j ≤ hkEnd h)) || false)
  rw [Bool.or_false, Bool.eq_iff_iff]
  simp only [Bool.and_eq_true, decide_eq_true_eq]
  omega
end Go.Proofs.Ytppmhjaooiameaa
