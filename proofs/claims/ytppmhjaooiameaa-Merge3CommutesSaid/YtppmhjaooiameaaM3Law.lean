/- Three-way merges: symmetry, the sides. -/
import Derived.Test.YtppmhjaooiameaaM3Res
namespace Go.Proofs.Ytppmhjaooiameaa
open Go.RowKit

/-! ### length -/
theorem script_inL {a b : List ByteArray} (ha : vC a = 0) (hb : vC b = 0) : (∀ h ∈ script a b, HkOk h) ∧ (script a b).length ≤ 130 ∧ phC (-1) (script a b) = 0 ∧ ∀ h ∈ script a b, 0 ≤ h.1 ∧ hkEnd h ≤ a.length := by
  have hg := script_good ha hb
  obtain ⟨hlen, hok⟩ := pC_ok hg
  have hp : phC (-1) (script a b) = 0 := by
    unfold pC at hg
    rwa [if_neg (by omega)] at hg
  have ha' := script_ap a b
  obtain ⟨i1, -⟩ := ap_to a (script a b) 0 b (Int.le_refl _) (by omega) (by simpa using ha')
  refine ⟨hok, hlen, hp, fun h hh => ⟨(hok h hh).1, ?_⟩⟩
  have := i1 h hh
  unfold occ at this
  simp only [Bool.and_eq_true, decide_eq_true_eq] at this
  unfold hkEnd; omega
theorem flush_plF (s : MSt) (l : List ByteArray) : (flushM (plF s l)).length ≤ (flushM s).length + 1 := by
  obtain ⟨a, b⟩ := s
  unfold plF
  split
  · omega
  · cases b with
    | none => show (a ++ [plCh l]).length ≤ a.length + 1; rw [List.length_append]; exact Nat.le_refl _
    | some m => show (a ++ [plCh (m ++ l)]).length ≤ (a ++ [plCh m]).length + 1; rw [List.length_append, List.length_append, List.length_singleton, List.length_singleton]; omega
theorem flush_cfF (s : MSt) (b l r : List ByteArray) : (flushM (cfF s b l r)).length = (flushM s).length + 1 := by
  show (flushM s ++ [_]).length = _
  rw [List.length_append]; rfl
theorem flush_mgS (base : List ByteArray) (p q : List Hk) (lo hi : Int) (s : MSt) : (flushM (mgS base p q lo hi s)).length ≤ (flushM s).length + 1 := by
  unfold mgS
  split
  · exact flush_plF _ _
  split
  · exact flush_plF _ _
  · rw [flush_cfF]; exact Nat.le_refl _
theorem flush_mgN (base : List ByteArray) (p q : List Hk) : ∀ (l : List Pr2) (a : Int) (s : MSt), (flushM (mgN base p q l a s)).length ≤ (flushM s).length + 2 * l.length + 1
  | [], a, s => by have := flush_plF s (base.drop a.toNat); show (flushM (plF s (base.drop a.toNat))).length ≤ _; simp only [List.length_nil]; omega
  | r :: l, a, s => by
    have h1 := flush_plF s ((base.take r.1.toNat).drop a.toNat)
    have h2 := flush_mgS base p q r.1 r.2 (plF s ((base.take r.1.toNat).drop a.toNat))
    have h3 := flush_mgN base p q l r.2 (mgS base p q r.1 r.2 (plF s ((base.take r.1.toNat).drop a.toNat)))
    show (flushM (mgN base p q l r.2 (mgS base p q r.1 r.2 (plF s ((base.take r.1.toNat).drop a.toNat))))).length ≤ _
    rw [List.length_cons]; omega
theorem rgP_len (p q : List Hk) : (rgP p q).length ≤ p.length + q.length := by
  have hpm := (srtP_perm ((oldR p ++ oldR q).map prj)).length_eq
  have e1 : (oldR p).length = p.length := by unfold oldR; rw [List.length_map]
  have e2 : (oldR q).length = q.length := by unfold oldR; rw [List.length_map]
  rw [List.length_map, List.length_append, e1, e2] at hpm
  unfold rgP mrgP
  generalize srtP ((oldR p ++ oldR q).map prj) = L at hpm
  cases L with
  | nil => exact Nat.zero_le _
  | cons x L =>
    have := mrgPC_len L x
    rw [List.length_cons] at hpm
    show (mrgPC x L).length ≤ _
    omega
theorem mgC_good {b l r : List ByteArray} : mgC b l r = 0 ↔ vC b = 0 ∧ vC l = 0 ∧ vC r = 0 := by
  unfold mgC
  constructor
  · intro h
    split at h
    · contradiction
    · rename_i q
      obtain ⟨h1, h2⟩ := (bC_good b l).1 (Classical.not_not.1 q)
      exact ⟨(vC_good b).2 h1, (vC_good l).2 h2, h⟩
  · rintro ⟨h1, h2, h3⟩
    rw [if_neg (fun z => z ((bC_good b l).2 ⟨(vC_good b).1 h1, (vC_good l).1 h2⟩))]
    exact h3
theorem mgV_len (b l r : List ByteArray) : (mgV b l r).length ≤ 1000 := by
  unfold mgV
  split
  · rename_i h
    obtain ⟨h1, h2, h3⟩ := mgC_good.1 h
    obtain ⟨-, g1, -⟩ := script_inL h1 h2
    obtain ⟨-, g2, -⟩ := script_inL h1 h3
    have := flush_mgN b (script b l) (script b r) (rgP (script b l) (script b r)) 0 ([], none)
    have := rgP_len (script b l) (script b r)
    have e : (flushM (([], none) : MSt)).length = 0 := rfl
    unfold mgL
    omega
  · exact Nat.zero_le _

/-! ### symmetry -/
def swC (c : Ch) : Ch := (c.1, c.2.1, c.2.2.1, c.2.2.2.2, c.2.2.2.1)
def swS (s : MSt) : MSt := (s.1.map swC, s.2)
theorem flush_sw (s : MSt) : flushM (swS s) = (flushM s).map swC := by
  obtain ⟨a, b⟩ := s
  cases b with
  | none => rfl
  | some m => show a.map swC ++ [plCh m] = (a ++ [plCh m]).map swC; rw [List.map_append]; rfl
theorem plF_sw (s : MSt) (l : List ByteArray) : plF (swS s) l = swS (plF s l) := by
  obtain ⟨a, b⟩ := s
  unfold plF
  split
  · rfl
  · cases b <;> rfl
theorem cfF_sw (s : MSt) (b l r : List ByteArray) : cfF (swS s) b r l = swS (cfF s b l r) := by
  show (flushM (swS s) ++ [(true, [], b, r, l)], none) = ((flushM s ++ [(true, [], b, l, r)]).map swC, none)
  rw [flush_sw, List.map_append]; rfl
theorem mgS_sw (base : List ByteArray) (p q : List Hk) (lo hi : Int) (s : MSt) : mgS base q p lo hi (swS s) = swS (mgS base p q lo hi s) := by
  unfold mgS
  by_cases e : raw base hi lo (inR p lo hi) = raw base hi lo (inR q lo hi)
  · rw [if_pos (.inr e.symm), if_pos (.inr e), ← e, plF_sw]
  · by_cases hp : (inR p lo hi).length = 0
    · rw [if_pos (.inl hp)]
      by_cases hq : (inR q lo hi).length = 0
      · rw [List.eq_nil_of_length_eq_zero hp, List.eq_nil_of_length_eq_zero hq] at e
        exact absurd rfl e
      · rw [if_neg (fun z => z.elim hq e), if_pos hp, plF_sw]
    · rw [if_neg (fun z => z.elim hp (fun z => e z.symm))]
      by_cases hq : (inR q lo hi).length = 0
      · rw [if_pos hq, if_pos (.inl hq), plF_sw]
      · rw [if_neg hq, if_neg (fun z => z.elim hq e), if_neg hp, cfF_sw]
theorem mgN_sw (base : List ByteArray) (p q : List Hk) : ∀ (l : List Pr2) (a : Int) (s : MSt), mgN base q p l a (swS s) = swS (mgN base p q l a s)
  | [], a, s => plF_sw _ _
  | r :: l, a, s => by
    show mgN base q p l r.2 (mgS base q p r.1 r.2 (plF (swS s) ((base.take r.1.toNat).drop a.toNat))) = swS (mgN base p q l r.2 (mgS base p q r.1 r.2 (plF s ((base.take r.1.toNat).drop a.toNat))))
    rw [plF_sw, mgS_sw, mgN_sw base p q l]
theorem rgP_sw (p q : List Hk) : rgP q p = rgP p q := by
  unfold rgP
  rw [srt_uniq ((srtP_perm _).trans ((List.perm_append_comm.map prj).trans (srtP_perm _).symm)) (srtP_srt _) (srtP_srt _)]
theorem mgV_sw {b l r : List ByteArray} (h : mgC b l r = 0) : mgV b r l = (mgV b l r).map swC := by
  obtain ⟨h1, h2, h3⟩ := mgC_good.1 h
  unfold mgV
  rw [if_pos h, if_pos (mgC_good.2 ⟨h1, h3, h2⟩)]
  unfold mgL
  rw [rgP_sw, ← flush_sw, ← mgN_sw]
  rfl

/-! ### the sides -/
/-- all lines of a chunk are lines, and a chunk has the shape of a chunk -/
def LnOk (l : List ByteArray) : Prop := ∀ s ∈ l, lineC s = 0
def ChOk (c : Ch) : Prop := ((c.1 = true ∧ c.2.1 = []) ∨ (c.1 = false ∧ c.2.1 ≠ [] ∧ c.2.2.1 = [] ∧ c.2.2.2.1 = [] ∧ c.2.2.2.2 = [])) ∧ LnOk c.2.1 ∧ LnOk c.2.2.1 ∧ LnOk c.2.2.2.1 ∧ LnOk c.2.2.2.2
def StOk (s : MSt) : Prop := (∀ c ∈ s.1, ChOk c) ∧ ∀ l, s.2 = some l → l ≠ [] ∧ LnOk l
theorem LnOk.app {a b : List ByteArray} (h : LnOk a) (g : LnOk b) : LnOk (a ++ b) := fun s hs => (List.mem_append.1 hs).elim (h s) (g s)
theorem LnOk.sub {a b : List ByteArray} (h : LnOk a) (g : ∀ s ∈ b, s ∈ a) : LnOk b := fun s hs => h s (g s hs)
theorem LnOk.nil : LnOk [] := fun s hs => (by cases hs)
theorem plCh_ok {l : List ByteArray} (h : l ≠ []) (g : LnOk l) : ChOk (plCh l) := ⟨.inr ⟨rfl, h, rfl, rfl, rfl⟩, g, .nil, .nil, .nil⟩
theorem flush_ok {s : MSt} (h : StOk s) : ∀ c ∈ flushM s, ChOk c := by
  obtain ⟨a, b⟩ := s
  cases b with
  | none => exact h.1
  | some m =>
    intro c hc
    rcases List.mem_append.1 hc with hc | hc
    · exact h.1 c hc
    · rw [List.mem_singleton.1 hc]
      exact plCh_ok (h.2 m rfl).1 (h.2 m rfl).2
theorem plF_ok {s : MSt} (h : StOk s) {l : List ByteArray} (g : LnOk l) : StOk (plF s l) := by
  obtain ⟨a, b⟩ := s
  unfold plF
  split
  · exact h
  · rename_i q
    have hl : l ≠ [] := fun z => q (by rw [z]; rfl)
    cases b with
    | none => exact ⟨h.1, fun m hm => by cases hm; exact ⟨hl, g⟩⟩
    | some m => exact ⟨h.1, fun m' hm => by cases hm; exact ⟨fun z => hl (List.append_eq_nil_iff.1 z).2, (h.2 m rfl).2.app g⟩⟩
theorem cfF_ok {s : MSt} (h : StOk s) {b l r : List ByteArray} (hb : LnOk b) (hl : LnOk l) (hr : LnOk r) : StOk (cfF s b l r) :=
  ⟨fun c hc => by
    rcases List.mem_append.1 hc with hc | hc
    · exact flush_ok h c hc
    · rw [List.mem_singleton.1 hc]
      exact ⟨.inl ⟨rfl, rfl⟩, .nil, hb, hl, hr⟩, fun m hm => by cases hm⟩
theorem part_ok {t : List ByteArray} (h : LnOk t) (a b : Nat) : LnOk ((t.take b).drop a) := h.sub fun _ hs => List.mem_of_mem_take (List.mem_of_mem_drop hs)
theorem raw_ln {t : List ByteArray} {p : List Hk} (ht : LnOk t) (hp : ∀ h ∈ p, LnOk h.2.2) (high low : Int) : LnOk (raw t high low p) := fun s hs => by
  rcases raw_mem p low hs with q | ⟨h, hh, q⟩
  · exact ht s q
  · exact hp h hh s q
theorem inR_ln {p : List Hk} (hp : ∀ h ∈ p, LnOk h.2.2) (lo hi : Int) : ∀ h ∈ inR p lo hi, LnOk h.2.2 := fun h hh => hp h (List.mem_filter.1 hh).1
theorem mgS_ok {base : List ByteArray} {p q : List Hk} (hb : LnOk base) (hp : ∀ h ∈ p, LnOk h.2.2) (hq : ∀ h ∈ q, LnOk h.2.2) (lo hi : Int) {s : MSt} (h : StOk s) : StOk (mgS base p q lo hi s) := by
  have r1 := raw_ln hb (inR_ln hp lo hi) hi lo
  have r2 := raw_ln hb (inR_ln hq lo hi) hi lo
  unfold mgS
  split
  · exact plF_ok h r1
  split
  · exact plF_ok h r2
  · exact cfF_ok h (part_ok hb _ _) r1 r2
theorem mgN_ok {base : List ByteArray} {p q : List Hk} (hb : LnOk base) (hp : ∀ h ∈ p, LnOk h.2.2) (hq : ∀ h ∈ q, LnOk h.2.2) : ∀ (l : List Pr2) (a : Int) {s : MSt}, StOk s → StOk (mgN base p q l a s)
  | [], a, s, h => plF_ok h (hb.sub fun _ hs => List.mem_of_mem_drop hs)
  | r :: l, a, s, h => mgN_ok hb hp hq l r.2 (mgS_ok hb hp hq r.1 r.2 (plF_ok h (part_ok hb _ _)))
theorem ln_good {l : List ByteArray} (h : vC l = 0) : LnOk l := fun s hs => (lineC_ok s).2 (((vC_good l).1 h).2 s hs)
theorem ln_vC {l : List ByteArray} (h : LnOk l) : vC l = 0 ∨ vC l = 2 := by
  by_cases h1 : 120 < l.length
  · exact .inr (if_pos h1)
  · exact .inl ((vC_good l).2 ⟨by omega, fun s hs => (lineC_ok s).1 (h s hs)⟩)
theorem script_ln {a b : List ByteArray} (ha : vC a = 0) (hb : vC b = 0) : ∀ h ∈ script a b, LnOk h.2.2 := fun h hh => ln_good ((pC_iff.1 (script_good ha hb)).2.2 h hh).2.2.2.1
theorem mgV_ok (b l r : List ByteArray) : ∀ c ∈ mgV b l r, ChOk c := by
  unfold mgV
  split
  · rename_i h
    obtain ⟨h1, h2, h3⟩ := mgC_good.1 h
    exact flush_ok (mgN_ok (ln_good h1) (script_ln h1 h2) (script_ln h1 h3) _ _ ⟨fun c hc => by (cases hc), fun m hm => by cases hm⟩)
  · intro c hc; cases hc
theorem chOk_C {c : Ch} (h : ChOk c) : chC c = 0 ∨ chC c = 2 := by
  obtain ⟨h0, h1, h2, h3, h4⟩ := h
  have hb : ¬ chBad c := by
    unfold chBad
    rcases h0 with ⟨a, b⟩ | ⟨a, b, c1, c2, c3⟩
    · rw [a, b]; simp
    · rw [a, c1, c2, c3]
      rintro (⟨z, -⟩ | ⟨-, z | z⟩)
      · cases z
      · exact b (List.eq_nil_of_length_eq_zero z)
      · simp at z
  unfold chC
  rcases ln_vC h1 with e | e <;> rw [e]
  · rw [if_neg (fun z => z rfl)]
    rcases ln_vC h2 with e | e <;> rw [e]
    · rw [if_neg (fun z => z rfl)]
      rcases ln_vC h3 with e | e <;> rw [e]
      · rw [if_neg (fun z => z rfl)]
        rcases ln_vC h4 with e | e <;> rw [e]
        · rw [if_neg (fun z => z rfl), if_neg hb]; exact .inl rfl
        · exact .inr rfl
      · exact .inr rfl
    · exact .inr rfl
  · exact .inr rfl
theorem chsOk_C : ∀ {l : List Ch}, (∀ c ∈ l, ChOk c) → csC l = 0 ∨ csC l = 2
  | [], _ => .inl rfl
  | c :: l, h => by
    unfold csC
    rcases chOk_C (h c List.mem_cons_self) with e | e
    · rw [if_pos e]; exact chsOk_C fun d hd => h d (List.mem_cons_of_mem _ hd)
    · rw [e]; exact .inr rfl
theorem mg_rsF {l : List Ch} (h : ∀ c ∈ l, ChOk c) {n : Int} (hn : n = 0 ∨ n = 1) : ((rsF l (List.replicate (nCf l) n)).1 = 0 ∧ rsL l (List.replicate (nCf l) n) = rsN l (List.replicate (nCf l) n)) ∨ (rsF l (List.replicate (nCf l) n)).1 = 2 ∨ (rsF l (List.replicate (nCf l) n)).1 = 10 := by
  have key : (rsF l (List.replicate (nCf l) n)).1 = 0 ∨ (rsF l (List.replicate (nCf l) n)).1 = 2 ∨ (rsF l (List.replicate (nCf l) n)).1 = 10 := by
    unfold rsF
    have hc : ckC l = 0 ∨ ckC l = 2 := by
      unfold ckC
      split
      · exact .inr rfl
      · exact chsOk_C h
    rcases hc with e | e
    · rw [if_neg (fun z => z e), if_neg (fun z => z List.length_replicate)]
      have hb : badI 0 (List.replicate (nCf l) n) = none := badI_none.2 fun m hm => by rw [(List.mem_replicate.1 hm).2]; omega
      rw [hb]
      dsimp only
      split
      · exact .inr (.inr rfl)
      · exact .inl rfl
    · rw [if_pos (by rw [e]; decide), e]; exact .inr (.inl rfl)
  rcases key with e | e
  · exact .inl ⟨e, if_pos e⟩
  · exact .inr e
/-- by how much the left sides are longer -/
def dS : List Ch → Int
  | [] => 0
  | c :: l => ((c.2.2.2.1.length : Int) - c.2.2.1.length) + dS l
theorem dS_append : ∀ (l m : List Ch), dS (l ++ m) = dS l + dS m
  | [], m => by simp [dS]
  | c :: l, m => by simp only [List.cons_append, dS, dS_append l m]; omega
theorem dS_take {l : List Ch} {k : Nat} (h : k < l.length) : dS (l.take (k + 1)) = dS (l.take k) + ((l[k].2.2.2.1.length : Int) - l[k].2.2.1.length) := by
  rw [List.take_add_one, List.getElem?_eq_getElem h, Option.toList_some, dS_append]; simp [dS]
theorem rs_diff : ∀ {l : List Ch}, (∀ c ∈ l, ChOk c) → ((rsN l (List.replicate (nCf l) 1)).length : Int) - (rsN l (List.replicate (nCf l) 0)).length = dS l
  | [], _ => rfl
  | c :: l, h => by
    have ih := rs_diff fun d hd => h d (List.mem_cons_of_mem _ hd)
    rcases (h c List.mem_cons_self).1 with ⟨a, -⟩ | ⟨a, -, c1, c2, -⟩
    · have en : nCf (c :: l) = nCf l + 1 := by show (bif c.1 then 1 else 0) + nCf l = _; rw [a, cond_true, Nat.add_comm]
      have er : ∀ n : Int, rsN (c :: l) (List.replicate (nCf (c :: l)) n) = pickC c n ++ rsN l (List.replicate (nCf l) n) := by
        intro n
        rw [en, List.replicate_succ]
        show (bif c.1 then pickC c n ++ rsN l (List.replicate (nCf l) n) else _) = _
        rw [a]; rfl
      rw [er, er, List.length_append, List.length_append]
      show ((c.2.2.2.1.length + _ : Nat) : Int) - ((c.2.2.1.length + _ : Nat) : Int) = _
      unfold dS
      omega
    · have en : nCf (c :: l) = nCf l := by show (bif c.1 then 1 else 0) + nCf l = _; rw [a, cond_false, Nat.zero_add]
      have er : ∀ n : Int, rsN (c :: l) (List.replicate (nCf (c :: l)) n) = c.2.1 ++ rsN l (List.replicate (nCf l) n) := by
        intro n
        rw [en]
        show (bif c.1 then _ else c.2.1 ++ rsN l (List.replicate (nCf l) n)) = _
        rw [a]; rfl
      rw [er, er, List.length_append, List.length_append]
      unfold dS
      rw [c1, c2, List.length_nil]
      omega
/-- what Resolve's code 0 says -/
theorem rsF_good {l : List Ch} {ch : List Int} (h : (rsF l ch).1 = 0) : ckC l = 0 ∧ (rsN l ch).length ≤ 120 := by
  unfold rsF at h
  split at h
  · rename_i q; exact absurd h q
  · rename_i q
    refine ⟨Classical.not_not.1 q, ?_⟩
    split at h
    · exact absurd h (by decide)
    · split at h
      · exact absurd (show (3 : Int) = 0 from h) (by decide)
      · split at h
        · exact absurd h (by decide)
        · omega
theorem ck_parts {l : List Ch} (h : ckC l = 0) {k : Nat} (hk : k < l.length) : l[k].2.2.1.length ≤ 120 ∧ l[k].2.2.2.1.length ≤ 120 := by
  obtain ⟨-, -, h3, h4, -⟩ := pickC_len ((ckC_all.1 h).2 _ (List.getElem_mem hk)) 0
  exact ⟨h3, h4⟩
theorem dS_bd {l : List Ch} (h : ckC l = 0) : ∀ k : Nat, -(120 * (k : Int)) ≤ dS (l.take k) ∧ dS (l.take k) ≤ 120 * (k : Int)
  | 0 => by simp [dS]
  | k + 1 => by
    have ih := dS_bd h k
    by_cases hk : k < l.length
    · have := ck_parts h hk
      rw [dS_take hk]
      omega
    · rw [List.take_of_length_le (by omega)]
      rw [List.take_of_length_le (by omega)] at ih
      omega
end Go.Proofs.Ytppmhjaooiameaa
