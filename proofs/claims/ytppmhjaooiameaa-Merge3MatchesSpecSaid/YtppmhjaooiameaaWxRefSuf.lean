/- The walk of the reference's suffixes: the table of lengths, column by column. -/
import Derived.Test.YtppmhjaooiameaaWxRefTab
namespace Go.Proofs.Ytppmhjaooiameaa
open Go.RowKit
set_option maxRecDepth 10000
set_option linter.unusedSimpArgs false

@[reducible] def tRow : Ty := .slice (.int .i64)
def tabF (a b : List ByteArray) (m : Nat) : List (List Int) := List.replicate m [] ++ (tabL a b).drop m
theorem tabF_len (a b : List ByteArray) (m : Nat) (h : m ≤ b.length + 1) : (tabF a b m).length = b.length + 1 := by unfold tabF; rw [List.length_append, List.length_replicate, List.length_drop, tabL_len]; omega
theorem tabF_start (a b : List ByteArray) : tabF a b (b.length + 1) = List.replicate (b.length + 1) [] := by
  unfold tabF; rw [List.drop_eq_nil_of_le (by rw [tabL_len]; exact Nat.le_refl _), List.append_nil]
theorem tabF_step (a b : List ByteArray) (j : Nat) (h : j ≤ b.length) : (tabF a b (j + 1)).take j ++ colL a b j :: (tabF a b (j + 1)).drop (j + 1) = tabF a b j := by
  unfold tabF
  have hd : (tabL a b).drop j = colL a b j :: (tabL a b).drop (j + 1) := by
    have hk : j < (tabL a b).length := by rw [tabL_len]; omega
    rw [List.drop_eq_getElem_cons hk]
    congr 1
    have := tabL_at a b j h []
    rw [List.getD_eq_getElem?_getD, List.getElem?_eq_getElem hk] at this
    exact this
  rw [hd, List.take_append_of_le_length (by rw [List.length_replicate]; omega), List.take_replicate, Nat.min_eq_left (by omega), List.drop_append, List.drop_of_length_le (by rw [List.length_replicate]; exact Nat.le_refl _), List.length_replicate, Nat.sub_self, List.drop_zero, List.nil_append]
theorem tabF_next (a b : List ByteArray) (j : Nat) (h : j < b.length) (d : List Int) : ((tabF a b (j + 1)).drop (j + 1)).getD 0 d = colL a b (j + 1) := by
  unfold tabF
  rw [List.drop_append, List.drop_of_length_le (by rw [List.length_replicate]; exact Nat.le_refl _), List.length_replicate, Nat.sub_self, List.drop_zero, List.nil_append, List.getD_eq_getElem?_getD, List.getElem?_drop, Nat.add_zero, ← List.getD_eq_getElem?_getD, tabL_at a b (j + 1) h]
def sp_Suf : SpecF := pureSp false [.slice .str, .slice .str] (fun (a', b', _) => a'.length ≤ 120 ∧ b'.length ≤ 120) (fun (a', b', _) => .v false [.d (.slice tRow) (tabL a' b')])
theorem Suf_sp : SpFact 73 sp_Suf := by
  refine ⟨⟨Try.f73, rfl, rfl, rfl, pureSp_okF (env1_fine (sp := []) (eq := []) (inl := []) (cl := [40, 76, 89]) True.intro True.intro True.intro) rfl (fun ⟨_, _, _⟩ _ => rfl) ?_⟩, pureSp_loc _ _ _ _⟩
  rintro ⟨a, b, u⟩ - ⟨ha, hb⟩
  change List ByteArray at a b
  replace ha : a.length ≤ 120 := ha
  replace hb : b.length ≤ 120 := hb
  (refine fnM_of rfl rfl rfl rfl ?_; dsimp only [params, argAV, Ty.leaves, Ty.isSt])
  (repeat' (first | (with_reducible refine Cend.go ?_) | (with_reducible refine Step.mk True.intro ?_) | (with_reducible refine Step.mk ?_ ?_; focus (((try simp only [true_and, and_true, and_self, kmin, kmax, decide_eq_true_eq, decide_eq_false_iff_not, castD_self, castL_self, List.length_cons, List.length_nil, List.length_append, Int.natCast_add] at *) <;> omega))) | (with_reducible refine Step.mk ?_ ?_) | (with_reducible refine Way.t1 ?_) | (with_reducible refine Way.f1 ?_) | ((with_reducible refine Way.dec (fun _ => ?_) (fun _ => ?_)) <;> try (exfalso; omega)) | (with_reducible refine Way.nt ?_) | (with_reducible refine Way.mk (fun _ => ?_) (fun _ => ?_)) | (with_reducible refine Drawn.mk (by kernel_rfl) ?_) | (refine Run.mk ?_)))
  refine loop_by (X := Nat) (fun m => [.put 0 (.v false [.d (.slice .str) a]), .put 1 (.v false [.d (.slice .str) b]), .put 5 (.v false [.o 12]), .put 6 (.v false [.d (.int .i64) ((m : Int) - 1)])])
    (fun m => [.put 12 (.row 37 tRow (tabF a b m))]) (fun m => m ≤ b.length + 1) (fun m => m) (b.length + 1) (Nat.le_refl _) ?_ ?_
  · rw [tabF_start]
    (refine Wk.keep ?_ ?_ <;> repeat' (first | exact True.intro | refine And.intro rfl ?_ | refine And.intro (congrArg (fun z : Int => AV.v false [Lf.d (.int .i64) z]) (by first | omega | (simp only [Int.natCast_add, List.length_cons, List.length_append, List.length_nil]; omega))) ?_ | refine And.intro ?_ ?_))
  intro m hm
  (try dsimp only)
  by_cases hm0 : m = 0
  · subst hm0
    (repeat' (first | (with_reducible refine Cend.go ?_) | (with_reducible refine Step.mk True.intro ?_) | (with_reducible refine Step.mk ?_ ?_; focus (((try simp only [true_and, and_true, and_self, kmin, kmax, decide_eq_true_eq, decide_eq_false_iff_not, castD_self, castL_self, List.length_cons, List.length_nil, List.length_append, Int.natCast_add] at *) <;> omega))) | (with_reducible refine Step.mk ?_ ?_) | (with_reducible refine Way.t1 ?_) | (with_reducible refine Way.f1 ?_) | ((with_reducible refine Way.dec (fun _ => ?_) (fun _ => ?_)) <;> try (exfalso; omega)) | (with_reducible refine Way.nt ?_) | (with_reducible refine Way.mk (fun _ => ?_) (fun _ => ?_)) | (with_reducible refine Drawn.mk (by kernel_rfl) ?_) | (refine Run.mk ?_)))
    refine Ret.mk ?_
    exact ⟨rfl, .frz rfl, True.intro⟩
  obtain ⟨j, rfl⟩ : ∃ j, m = j + 1 := ⟨m - 1, by omega⟩
  have hT := tabF_len a b (j + 1) hm
  rw [show (((j + 1 : Nat) : Int) - 1) = (j : Int) by omega]
  have hst := tabF_step a b j (by omega)
  by_cases hjb : j = b.length
  · rw [hjb, ← colF_last, colF_start, ← hjb] at hst
    replace hst := Lib.hid hst
    generalize tabF a b (j + 1) = T at hT hst
    (repeat' (first | (with_reducible refine Cend.go ?_) | (with_reducible refine Step.mk True.intro ?_) | (with_reducible refine Step.mk ?_ ?_; focus (((try simp only [true_and, and_true, and_self, kmin, kmax, decide_eq_true_eq, decide_eq_false_iff_not, castD_self, castL_self, List.length_cons, List.length_nil, List.length_append, Int.natCast_add] at *) <;> omega))) | (with_reducible refine Step.mk ?_ ?_) | (with_reducible refine Way.t1 ?_) | (with_reducible refine Way.f1 ?_) | ((with_reducible refine Way.dec (fun _ => ?_) (fun _ => ?_)) <;> try (exfalso; omega)) | (with_reducible refine Way.nt ?_) | (with_reducible refine Way.mk (fun _ => ?_) (fun _ => ?_)) | (with_reducible refine Drawn.mk (by kernel_rfl) ?_) | (refine Run.mk ?_)))
    refine Back.by j ?_ ?_ ?_
    · refine (Wk.pack 12 (t := tRow) (x := List.replicate (a.length + 1) (0 : Int)) (l1 := T.take j) (l2 := T.drop (j + 1)) (hl' := []) rfl rfl True.intro rfl rfl).trans ?_
      rw [← hst.out]
      (refine Wk.keep ?_ ?_ <;> repeat' (first | exact True.intro | refine And.intro rfl ?_ | refine And.intro (congrArg (fun z : Int => AV.v false [Lf.d (.int .i64) z]) (by first | omega | (simp only [Int.natCast_add, List.length_cons, List.length_append, List.length_nil]; omega))) ?_ | refine And.intro ?_ ?_))
    · show j ≤ b.length + 1; omega
    · show j < j + 1; omega
  · have hjl : j < b.length := by omega
    have hnx := tabF_next a b j hjl []
    have hc1 := colF_len a b j
    generalize tabF a b (j + 1) = T at hT hst hnx
    have hl1 : (T.take j).length = j := by rw [List.length_take]; omega
    have hl2 : (T.drop (j + 1)).length = b.length - j := by rw [List.length_drop]; omega
    have hro : ∀ n : Nat, n = j + 1 → roxAt tRow (T.take j) (T.drop (j + 1)) n = colL a b (j + 1) := by
      intro n hn
      unfold roxAt
      rw [if_neg (by rw [hl1]; omega), hl1, hn, Nat.sub_self]
      exact hnx
    replace hst := Lib.hid hst
    replace hnx := Lib.hid hnx
    replace hro := Lib.hid hro
    replace hc1 := Lib.hid hc1
    (repeat' (first | (with_reducible refine Cend.go ?_) | (with_reducible refine Step.mk True.intro ?_) | (with_reducible refine Step.mk ?_ ?_; focus (((try simp only [true_and, and_true, and_self, kmin, kmax, decide_eq_true_eq, decide_eq_false_iff_not, castD_self, castL_self, List.length_cons, List.length_nil, List.length_append, Int.natCast_add] at *) <;> omega))) | (with_reducible refine Step.mk ?_ ?_) | (with_reducible refine Way.t1 ?_) | (with_reducible refine Way.f1 ?_) | ((with_reducible refine Way.dec (fun _ => ?_) (fun _ => ?_)) <;> try (exfalso; omega)) | (with_reducible refine Way.nt ?_) | (with_reducible refine Way.mk (fun _ => ?_) (fun _ => ?_)) | (with_reducible refine Drawn.mk (by kernel_rfl) ?_) | (refine Run.mk ?_)))
    refine loop_by (X := Nat × List Int) (fun x => [.put 0 (.v false [.d (.slice .str) a]), .put 1 (.v false [.d (.slice .str) b]), .put 5 (.v false [.o 12]), .put 6 (.v false [.d (.int .i64) (j : Int)]), .put 7 (.v false [.d (.int .i64) ((x.1 : Int) - 1)])])
      (fun x => [.put 12 (.rox 37 tRow (T.take j) [.o 24] (T.drop (j + 1))), .put 24 (.row 3 (.int .i64) x.2)]) (fun x => x.1 ≤ a.length ∧ x.2 = colF a b j x.1) (fun x => x.1) (a.length, List.replicate (a.length + 1) 0) ⟨Nat.le_refl _, (colF_start a b j).symm⟩ ?_ ?_
    · (refine Wk.keep ?_ ?_ <;> repeat' (first | exact True.intro | refine And.intro rfl ?_ | refine And.intro (congrArg (fun z : Int => AV.v false [Lf.d (.int .i64) z]) (by first | omega | (simp only [Int.natCast_add, List.length_cons, List.length_append, List.length_nil]; omega))) ?_ | refine And.intro ?_ ?_))
    rintro ⟨k', M⟩ ⟨hk, hM⟩
    dsimp only at hk hM ⊢
    have hro := hro.out
    have hMl : M.length = a.length + 1 := by rw [hM]; exact hc1.out k' (by omega)
    generalize T.take j = L1 at hst hl1 hro
    generalize T.drop (j + 1) = L2 at hst hl2 hro
    by_cases hk0 : k' = 0
    · subst hk0
      rw [colF_zero] at hM
      subst hM
      replace hro := Lib.hid hro
      (repeat' (first | (with_reducible refine Cend.go ?_) | (with_reducible refine Step.mk True.intro ?_) | (with_reducible refine Step.mk ?_ ?_; focus (((try simp only [true_and, and_true, and_self, kmin, kmax, decide_eq_true_eq, decide_eq_false_iff_not, castD_self, castL_self, List.length_cons, List.length_nil, List.length_append, Int.natCast_add] at *) <;> omega))) | (with_reducible refine Step.mk ?_ ?_) | (with_reducible refine Way.t1 ?_) | (with_reducible refine Way.f1 ?_) | ((with_reducible refine Way.dec (fun _ => ?_) (fun _ => ?_)) <;> try (exfalso; omega)) | (with_reducible refine Way.nt ?_) | (with_reducible refine Way.mk (fun _ => ?_) (fun _ => ?_)) | (with_reducible refine Drawn.mk (by kernel_rfl) ?_) | (refine Run.mk ?_)))
      refine Back.by j ?_ ?_ ?_
      · refine (Wk.pack 12 (t := tRow) (x := colL a b j) (l1 := L1) (l2 := L2) (hl' := []) rfl rfl True.intro rfl rfl).trans ?_
        rw [← hst.out]
        (refine Wk.keep ?_ ?_ <;> repeat' (first | exact True.intro | refine And.intro rfl ?_ | refine And.intro (congrArg (fun z : Int => AV.v false [Lf.d (.int .i64) z]) (by first | omega | (simp only [Int.natCast_add, List.length_cons, List.length_append, List.length_nil]; omega))) ?_ | refine And.intro ?_ ?_))
      · show j ≤ b.length + 1; omega
      · show j < j + 1; omega
    obtain ⟨k, rfl⟩ : ∃ k, k' = k + 1 := ⟨k' - 1, by omega⟩
    rw [show (((k + 1 : Nat) : Int) - 1) = (k : Int) by omega]
    have g1 : (roxAt tRow L1 L2 ((j : Int) + 1).toNat).getD ((k : Int)).toNat (Ty.int .i64).dflt = ((lcs (a.drop k) (b.drop (j + 1)) : Nat) : Int) := by rw [hro _ (by omega)]; exact colL_at a b (j + 1) k (by omega) _
    have g2 : (roxAt tRow L1 L2 ((j : Int) + 1).toNat).getD ((k : Int) + 1).toNat (Ty.int .i64).dflt = ((lcs (a.drop (k + 1)) (b.drop (j + 1)) : Nat) : Int) := by rw [hro _ (by omega), show ((k : Int) + 1).toNat = k + 1 by omega]; exact colL_at a b (j + 1) (k + 1) (by omega) _
    have g3 : M.getD ((k : Int) + 1).toNat (Ty.int .i64).dflt = ((lcs (a.drop (k + 1)) (b.drop j) : Nat) : Int) := by rw [hM, show ((k : Int) + 1).toNat = k + 1 by omega]; exact colF_at a b j (k + 1) (k + 1) (Nat.le_refl _) (by omega) _
    have g0 : ((roxAt tRow L1 L2 ((j : Int) + 1).toNat).length : Int) = a.length + 1 := by rw [hro _ (by omega), colL_len]; rfl
    have hmx := lcs_max a b k j (by omega) hjl 0
    have hset := colF_step a b j k (by omega)
    rw [← hM] at hset
    have ga := getD_at (a := a) (i := k) Ty.str.dflt (by omega)
    have gb := getD_at (a := b) (i := j) Ty.str.dflt hjl
    rw [← ga, ← gb] at hmx
    have b1 := lcs_le_l (a.drop k) (b.drop (j + 1))
    have b2 := lcs_le_l (a.drop (k + 1)) (b.drop (j + 1))
    have b3 := lcs_le_l (a.drop (k + 1)) (b.drop j)
    rw [List.length_drop] at b1 b2 b3
    obtain ⟨hmx1, hmx2⟩ := hmx
    replace hmx1 := Lib.hid hmx1
    replace hmx2 := Lib.hid hmx2
    replace hset := Lib.hid hset
    replace hM := Lib.hid hM
    replace hro := Lib.hid hro
    replace ga := Lib.hid ga
    replace gb := Lib.hid gb
    generalize lcs (a.drop k) (b.drop (j + 1)) = n1 at g1 b1 hmx1 hmx2
    generalize lcs (a.drop (k + 1)) (b.drop (j + 1)) = n2 at g2 b2 hmx1 hmx2
    generalize lcs (a.drop (k + 1)) (b.drop j) = n3 at g3 b3 hmx1 hmx2
    generalize lcs (a.drop k) (b.drop j) = n4 at hset hmx1 hmx2
    (repeat' (first | (with_reducible refine Cend.go ?_) | (with_reducible refine Step.mk True.intro ?_) | (with_reducible refine Step.mk ?_ ?_; focus (((try simp only [true_and, and_true, and_self, kmin, kmax, decide_eq_true_eq, decide_eq_false_iff_not, castD_self, castL_self, List.length_cons, List.length_nil, List.length_append, Int.natCast_add] at *) <;> omega))) | (with_reducible refine Step.mk ?_ ?_) | (with_reducible refine Way.t1 ?_) | (with_reducible refine Way.f1 ?_) | ((with_reducible refine Way.dec (fun _ => ?_) (fun _ => ?_)) <;> try (exfalso; omega)) | (with_reducible refine Way.nt ?_) | (with_reducible refine Way.mk (fun _ => ?_) (fun _ => ?_)) | (with_reducible refine Drawn.mk (by kernel_rfl) ?_) | (refine Run.mk ?_)))
    · show (-9223372036854775808 : Int) ≤ (roxAt tRow L1 L2 ((j : Int) + 1).toNat).getD ((k : Int) + 1).toNat (Ty.int .i64).dflt + 1 ∧ (roxAt tRow L1 L2 ((j : Int) + 1).toNat).getD ((k : Int) + 1).toNat (Ty.int .i64).dflt + 1 ≤ 9223372036854775807
      rw [g2]
      show (-9223372036854775808 : Int) ≤ ((n2 : Nat) : Int) + 1 ∧ ((n2 : Nat) : Int) + 1 ≤ 9223372036854775807
      omega
    · show (-9223372036854775808 : Int) ≤ (roxAt tRow L1 L2 ((j : Int) + 1).toNat).getD ((k : Int) + 1).toNat (Ty.int .i64).dflt + 1 ∧ (roxAt tRow L1 L2 ((j : Int) + 1).toNat).getD ((k : Int) + 1).toNat (Ty.int .i64).dflt + 1 ≤ 9223372036854775807
      rw [g2]
      show (-9223372036854775808 : Int) ≤ ((n2 : Nat) : Int) + 1 ∧ ((n2 : Nat) : Int) + 1 ≤ 9223372036854775807
      omega
    · rename_i q1 q2 q3
      have q1 : (roxAt tRow L1 L2 ((j : Int) + 1).toNat).getD ((k : Int)).toNat (Ty.int .i64).dflt < M.getD ((k : Int) + 1).toNat (Ty.int .i64).dflt := q1
      have q2 : a.getD ((k : Int)).toNat Ty.str.dflt = b.getD ((j : Int)).toNat Ty.str.dflt := q2
      have q3 : (M.getD ((k : Int) + 1).toNat (Ty.int .i64).dflt < (roxAt tRow L1 L2 ((j : Int) + 1).toNat).getD ((k : Int) + 1).toNat (Ty.int .i64).dflt + 1) := q3
      (apply Back.by ((k, _)); focus (refine Wk.keep ?_ ?_ <;> repeat' (first | exact True.intro | refine And.intro rfl ?_ | refine And.intro (congrArg (fun z : Int => AV.v false [Lf.d (.int .i64) z]) (by first | omega | (simp only [Int.natCast_add, List.length_cons, List.length_append, List.length_nil]; omega))) ?_ | refine And.intro ?_ ?_)))
      · refine ⟨by dsimp only; omega, ?_⟩
        rw [← hset.out]
        refine congrArg (M.set k) (show (roxAt tRow L1 L2 ((j : Int) + 1).toNat).getD ((k : Int) + 1).toNat (Ty.int .i64).dflt + 1 = ((n4 : Nat) : Int) from ?_)
        have q1' : (((n1 : Nat) : Int) < ((n3 : Nat) : Int)) := by rw [← g1, ← g3]; exact q1
        have q3' : (((n3 : Nat) : Int) < ((n2 : Nat) : Int) + 1) := by rw [← g3, ← g2]; exact q3
        rw [g2]
        show ((n2 : Nat) : Int) + 1 = ((n4 : Nat) : Int)
        obtain ⟨m1, m2, m3⟩ := hmx1.out q2
        omega
      · show k < k + 1; omega
    · rename_i q1 q2 q3
      have q1 : (roxAt tRow L1 L2 ((j : Int) + 1).toNat).getD ((k : Int)).toNat (Ty.int .i64).dflt < M.getD ((k : Int) + 1).toNat (Ty.int .i64).dflt := q1
      have q2 : a.getD ((k : Int)).toNat Ty.str.dflt = b.getD ((j : Int)).toNat Ty.str.dflt := q2
      have q3 : ¬ (M.getD ((k : Int) + 1).toNat (Ty.int .i64).dflt < (roxAt tRow L1 L2 ((j : Int) + 1).toNat).getD ((k : Int) + 1).toNat (Ty.int .i64).dflt + 1) := q3
      (apply Back.by ((k, _)); focus (refine Wk.keep ?_ ?_ <;> repeat' (first | exact True.intro | refine And.intro rfl ?_ | refine And.intro (congrArg (fun z : Int => AV.v false [Lf.d (.int .i64) z]) (by first | omega | (simp only [Int.natCast_add, List.length_cons, List.length_append, List.length_nil]; omega))) ?_ | refine And.intro ?_ ?_)))
      · refine ⟨by dsimp only; omega, ?_⟩
        rw [← hset.out]
        refine congrArg (M.set k) (show M.getD ((k : Int) + 1).toNat (Ty.int .i64).dflt = ((n4 : Nat) : Int) from ?_)
        have q1' : (((n1 : Nat) : Int) < ((n3 : Nat) : Int)) := by rw [← g1, ← g3]; exact q1
        have q3' : ¬ (((n3 : Nat) : Int) < ((n2 : Nat) : Int) + 1) := by rw [← g3, ← g2]; exact q3
        rw [g3]
        show ((n3 : Nat) : Int) = ((n4 : Nat) : Int)
        obtain ⟨m1, m2, m3⟩ := hmx1.out q2
        omega
      · show k < k + 1; omega
    · rename_i q1 q2
      have q1 : (roxAt tRow L1 L2 ((j : Int) + 1).toNat).getD ((k : Int)).toNat (Ty.int .i64).dflt < M.getD ((k : Int) + 1).toNat (Ty.int .i64).dflt := q1
      have q2 : ¬ a.getD ((k : Int)).toNat Ty.str.dflt = b.getD ((j : Int)).toNat Ty.str.dflt := q2
      (apply Back.by ((k, _)); focus (refine Wk.keep ?_ ?_ <;> repeat' (first | exact True.intro | refine And.intro rfl ?_ | refine And.intro (congrArg (fun z : Int => AV.v false [Lf.d (.int .i64) z]) (by first | omega | (simp only [Int.natCast_add, List.length_cons, List.length_append, List.length_nil]; omega))) ?_ | refine And.intro ?_ ?_)))
      · refine ⟨by dsimp only; omega, ?_⟩
        rw [← hset.out]
        refine congrArg (M.set k) (show M.getD ((k : Int) + 1).toNat (Ty.int .i64).dflt = ((n4 : Nat) : Int) from ?_)
        have q1' : (((n1 : Nat) : Int) < ((n3 : Nat) : Int)) := by rw [← g1, ← g3]; exact q1
        rw [g3]
        show ((n3 : Nat) : Int) = ((n4 : Nat) : Int)
        have m1 := hmx2.out q2
        omega
      · show k < k + 1; omega
    · show (-9223372036854775808 : Int) ≤ (roxAt tRow L1 L2 ((j : Int) + 1).toNat).getD ((k : Int) + 1).toNat (Ty.int .i64).dflt + 1 ∧ (roxAt tRow L1 L2 ((j : Int) + 1).toNat).getD ((k : Int) + 1).toNat (Ty.int .i64).dflt + 1 ≤ 9223372036854775807
      rw [g2]
      show (-9223372036854775808 : Int) ≤ ((n2 : Nat) : Int) + 1 ∧ ((n2 : Nat) : Int) + 1 ≤ 9223372036854775807
      omega
    · show (-9223372036854775808 : Int) ≤ (roxAt tRow L1 L2 ((j : Int) + 1).toNat).getD ((k : Int) + 1).toNat (Ty.int .i64).dflt + 1 ∧ (roxAt tRow L1 L2 ((j : Int) + 1).toNat).getD ((k : Int) + 1).toNat (Ty.int .i64).dflt + 1 ≤ 9223372036854775807
      rw [g2]
      show (-9223372036854775808 : Int) ≤ ((n2 : Nat) : Int) + 1 ∧ ((n2 : Nat) : Int) + 1 ≤ 9223372036854775807
      omega
    · rename_i q1 q2 q3
      have q1 : ¬ ((roxAt tRow L1 L2 ((j : Int) + 1).toNat).getD ((k : Int)).toNat (Ty.int .i64).dflt < M.getD ((k : Int) + 1).toNat (Ty.int .i64).dflt) := q1
      have q2 : a.getD ((k : Int)).toNat Ty.str.dflt = b.getD ((j : Int)).toNat Ty.str.dflt := q2
      have q3 : ((roxAt tRow L1 L2 ((j : Int) + 1).toNat).getD ((k : Int)).toNat (Ty.int .i64).dflt < (roxAt tRow L1 L2 ((j : Int) + 1).toNat).getD ((k : Int) + 1).toNat (Ty.int .i64).dflt + 1) := q3
      (apply Back.by ((k, _)); focus (refine Wk.keep ?_ ?_ <;> repeat' (first | exact True.intro | refine And.intro rfl ?_ | refine And.intro (congrArg (fun z : Int => AV.v false [Lf.d (.int .i64) z]) (by first | omega | (simp only [Int.natCast_add, List.length_cons, List.length_append, List.length_nil]; omega))) ?_ | refine And.intro ?_ ?_)))
      · refine ⟨by dsimp only; omega, ?_⟩
        rw [← hset.out]
        refine congrArg (M.set k) (show (roxAt tRow L1 L2 ((j : Int) + 1).toNat).getD ((k : Int) + 1).toNat (Ty.int .i64).dflt + 1 = ((n4 : Nat) : Int) from ?_)
        have q1' : ¬ (((n1 : Nat) : Int) < ((n3 : Nat) : Int)) := by rw [← g1, ← g3]; exact q1
        have q3' : (((n1 : Nat) : Int) < ((n2 : Nat) : Int) + 1) := by rw [← g1, ← g2]; exact q3
        rw [g2]
        show ((n2 : Nat) : Int) + 1 = ((n4 : Nat) : Int)
        obtain ⟨m1, m2, m3⟩ := hmx1.out q2
        omega
      · show k < k + 1; omega
    · rename_i q1 q2 q3
      have q1 : ¬ ((roxAt tRow L1 L2 ((j : Int) + 1).toNat).getD ((k : Int)).toNat (Ty.int .i64).dflt < M.getD ((k : Int) + 1).toNat (Ty.int .i64).dflt) := q1
      have q2 : a.getD ((k : Int)).toNat Ty.str.dflt = b.getD ((j : Int)).toNat Ty.str.dflt := q2
      have q3 : ¬ ((roxAt tRow L1 L2 ((j : Int) + 1).toNat).getD ((k : Int)).toNat (Ty.int .i64).dflt < (roxAt tRow L1 L2 ((j : Int) + 1).toNat).getD ((k : Int) + 1).toNat (Ty.int .i64).dflt + 1) := q3
      (apply Back.by ((k, _)); focus (refine Wk.keep ?_ ?_ <;> repeat' (first | exact True.intro | refine And.intro rfl ?_ | refine And.intro (congrArg (fun z : Int => AV.v false [Lf.d (.int .i64) z]) (by first | omega | (simp only [Int.natCast_add, List.length_cons, List.length_append, List.length_nil]; omega))) ?_ | refine And.intro ?_ ?_)))
      · refine ⟨by dsimp only; omega, ?_⟩
        rw [← hset.out]
        refine congrArg (M.set k) (show (roxAt tRow L1 L2 ((j : Int) + 1).toNat).getD ((k : Int)).toNat (Ty.int .i64).dflt = ((n4 : Nat) : Int) from ?_)
        have q1' : ¬ (((n1 : Nat) : Int) < ((n3 : Nat) : Int)) := by rw [← g1, ← g3]; exact q1
        have q3' : ¬ (((n1 : Nat) : Int) < ((n2 : Nat) : Int) + 1) := by rw [← g1, ← g2]; exact q3
        rw [g1]
        show ((n1 : Nat) : Int) = ((n4 : Nat) : Int)
        obtain ⟨m1, m2, m3⟩ := hmx1.out q2
        omega
      · show k < k + 1; omega
    · rename_i q1 q2
      have q1 : ¬ ((roxAt tRow L1 L2 ((j : Int) + 1).toNat).getD ((k : Int)).toNat (Ty.int .i64).dflt < M.getD ((k : Int) + 1).toNat (Ty.int .i64).dflt) := q1
      have q2 : ¬ a.getD ((k : Int)).toNat Ty.str.dflt = b.getD ((j : Int)).toNat Ty.str.dflt := q2
      (apply Back.by ((k, _)); focus (refine Wk.keep ?_ ?_ <;> repeat' (first | exact True.intro | refine And.intro rfl ?_ | refine And.intro (congrArg (fun z : Int => AV.v false [Lf.d (.int .i64) z]) (by first | omega | (simp only [Int.natCast_add, List.length_cons, List.length_append, List.length_nil]; omega))) ?_ | refine And.intro ?_ ?_)))
      · refine ⟨by dsimp only; omega, ?_⟩
        rw [← hset.out]
        refine congrArg (M.set k) (show (roxAt tRow L1 L2 ((j : Int) + 1).toNat).getD ((k : Int)).toNat (Ty.int .i64).dflt = ((n4 : Nat) : Int) from ?_)
        have q1' : ¬ (((n1 : Nat) : Int) < ((n3 : Nat) : Int)) := by rw [← g1, ← g3]; exact q1
        rw [g1]
        show ((n1 : Nat) : Int) = ((n4 : Nat) : Int)
        have m1 := hmx2.out q2
        omega
      · show k < k + 1; omega
end Go.Proofs.Ytppmhjaooiameaa
