/- The walks of the laws WorddiffUnmarked, WorddiffSymmetricWhole, WorddiffAsLines. -/
import Derived.Test.YtdpcbffmmndhcaaWxHigh
import Derived.Test.YtdpcbffmmndhcaaWxRest
import Derived.Test.YtdpcbffmmndhcaaWxTokU
import Derived.Test.YtdpcbffmmndhcaaWxCommon
namespace Go.Proofs.Ytdpcbffmmndhcaa
open Go.RowKit
set_option maxRecDepth 10000
set_option linter.unusedSimpArgs false

/-- what the ranges of two lines leave -/
theorem hl_facts (s t : ByteArray) (h : hlC s t = 0) : s.size ≤ 80 ∧ t.size ≤ 80 ∧ (∃ e, gd true 0 (hlX s t) e ∧ e ≤ s.size) ∧ (∃ e, gd true 0 (hlY s t) e ∧ e ≤ t.size) ∧
    restS s (hlX s t) = joinB (kp (toks s.data.toList) (toks t.data.toList)) ∧ restS t (hlY s t) = joinB (kp (toks s.data.toList) (toks t.data.toList)) := by
  have h1 : vC [s] = 0 := by
    unfold hlC at h
    by_cases q : vC [s] = 0
    · exact q
    · rw [if_neg q] at h; exact h
  have h2 : vC [t] = 0 := by unfold hlC at h; rw [if_pos h1] at h; exact h
  have hs : s.size ≤ 80 := (((vC_good [s]).1 h1).2 s (by simp)).1
  have ht : t.size ≤ 80 := (((vC_good [t]).1 h2).2 t (by simp)).1
  obtain ⟨f1, f2, f3, f4⟩ := steps_facts _ (toks s.data.toList) (toks t.data.toList) (Nat.le_refl _)
  obtain ⟨u1, u2⟩ := unmk_old _ f1
  obtain ⟨u3, u4⟩ := unmk_new _ f1
  rw [f2, f4] at u1
  rw [f3, f4] at u3
  rw [f2] at u2
  rw [f3] at u4
  have b1 : bytesOf (toks s.data.toList) = s.data.toList := (toks_facts _).2.2.2
  have b2 : bytesOf (toks t.data.toList) = t.data.toList := (toks_facts _).2.2.2
  rw [b1] at u1 u2
  rw [b2] at u3 u4
  obtain ⟨e, g1, g2, g3⟩ := rgs_good s.data.toList _ u2
  obtain ⟨e', g4, g5, g6⟩ := rgs_good t.data.toList _ u4
  have ex : hlX s t = rgs (mX (steps (toks s.data.toList) (toks t.data.toList))) := if_pos h
  have ey : hlY s t = rgs (mY (steps (toks s.data.toList) (toks t.data.toList))) := if_pos h
  have ls := bytes_len s
  have lt := bytes_len t
  refine ⟨hs, ht, ⟨e, by rw [ex]; exact g1, by omega⟩, ⟨e', by rw [ey]; exact g4, by omega⟩, ?_, ?_⟩
  · refine ext_bytes ?_
    show gaps s.data.toList 0 (hlX s t) = bytesOf _
    rw [ex]
    refine (gaps_gp _ _ _ _ _ g1).trans ?_
    exact g3.symm.trans u1
  · refine ext_bytes ?_
    show gaps t.data.toList 0 (hlY s t) = bytesOf _
    rw [ey]
    refine (gaps_gp _ _ _ _ _ g4).trans ?_
    exact g6.symm.trans u3
theorem align_same : ∀ a : List ByteArray, align a a = List.replicate a.length 0
  | [] => rfl
  | x :: a => by rw [align_cons, if_pos rfl, align_same a]; rfl
theorem stp_same : ∀ a : List ByteArray, stp (List.replicate a.length 0) a a = a.map fun x => (0, x)
  | [] => rfl
  | x :: a => by
    rw [List.length_cons, List.replicate_succ, List.map_cons, ← stp_same a]
    simp [stp]
theorem rgs_none : ∀ n, rgs (List.replicate n false) = [] := fun n => by rw [rgs, rgl_false]
theorem hl_same (s : ByteArray) : hlX s s = [] ∧ hlY s s = [] := by
  have e : steps (toks s.data.toList) (toks s.data.toList) = (toks s.data.toList).map fun x => (0, x) := by unfold steps; rw [align_same, stp_same]
  have hx : ∀ l : List ByteArray, mX (l.map fun x => (0, x)) = List.replicate (bytesOf l).length false ∧ mY (l.map fun x => (0, x)) = List.replicate (bytesOf l).length false := by
    intro l
    induction l with
    | nil => exact ⟨rfl, rfl⟩
    | cons x l ih =>
      have e1 : mX ((x :: l).map fun x => ((0 : Int), x)) = List.replicate x.size false ++ mX (l.map fun x => (0, x)) := rfl
      have e2 : mY ((x :: l).map fun x => ((0 : Int), x)) = List.replicate x.size false ++ mY (l.map fun x => (0, x)) := rfl
      have e3 : (bytesOf (x :: l)).length = x.size + (bytesOf l).length := by
        show (x.data.toList ++ bytesOf l).length = _
        rw [List.length_append, bytes_len]
      rw [e1, e2, ih.1, ih.2, e3, List.replicate_append_replicate]
      exact ⟨rfl, rfl⟩
  constructor
  · unfold hlX; split
    · rw [e, (hx _).1, rgs_none]
    · rfl
  · unfold hlY; split
    · rw [e, (hx _).2, rgs_none]
    · rfl

theorem gd_len : ∀ (l : List (Int × Int)) (f : Bool) (a e : Int), gd f a l e → a + l.length ≤ e
  | [], _, _, _, h => by have h : _ = _ := h; simp; omega
  | p :: r, f, a, e, h => by
    have := gd_len r false p.2 e h.2.2
    have := h.1.1; have := h.2.1
    simp only [List.length_cons]; omega
theorem law_Unmarked : SpFact 8 (pureSp false [.str, .str] (fun _ => True) (fun _ => .v false [.d .bool true])) := by
  refine ⟨⟨Try.f8, rfl, rfl, rfl, pureSp_ok (env_fine (sp := [(22, sp_Highlight), (28, sp_rest), (14, sp_true)]) (eq := []) ⟨Highlight_sp, rest_sp, split_sp, True.intro⟩ True.intro) rfl (fun _ _ => rfl) ?_⟩, pureSp_loc _ _ _ _⟩
  rintro ⟨s, t, u⟩ - -
  by_cases h0 : hlC s t = 0
  · obtain ⟨hs, ht, g1, g2, r1, r2⟩ := hl_facts s t h0
    have r3 : restS s (hlX s t) = restS t (hlY s t) := by rw [r1, r2]
    have l1 : (hlX s t).length ≤ 80 := by obtain ⟨e, q1, q2⟩ := g1; have := gd_len _ _ _ _ q1; omega
    have l2 : (hlY s t).length ≤ 80 := by obtain ⟨e, q1, q2⟩ := g2; have := gd_len _ _ _ _ q1; omega
    have hsame : s = t → (hlX s t).length = 0 ∧ (hlY s t).length = 0 := by rintro rfl; obtain ⟨q1, q2⟩ := hl_same s; rw [q1, q2]; exact ⟨rfl, rfl⟩
    replace r3 := Lib.hid r3
    replace g1 := Lib.hid g1
    replace g2 := Lib.hid g2
    replace hsame := Lib.hid hsame
    clear r1 r2
    (refine fnM_of rfl rfl rfl rfl ?_; dsimp only [params, argAV, Ty.leaves, Ty.isSt])
    (repeat' (first | (with_reducible refine Step.mk True.intro ?_) | (with_reducible refine Step.mk ?_ ?_; focus (((try simp only [true_and, and_true, and_self, kmin, kmax, decide_eq_true_eq, decide_eq_false_iff_not, castD_self, castL_self, List.length_cons, List.length_nil, List.length_append, Int.natCast_add] at *) <;> omega))) | (with_reducible refine Step.mk ?_ ?_) | (with_reducible refine Way.t1 ?_) | (with_reducible refine Way.f1 ?_) | ((with_reducible refine Way.dec (fun _ => ?_) (fun _ => ?_)) <;> try (exfalso; omega)) | (with_reducible refine Way.nt ?_) | (with_reducible refine Way.mk (fun _ => ?_) (fun _ => ?_)) | (with_reducible refine Drawn.mk (by kernel_rfl) ?_) | (refine Run.mk ?_)))
    · exact ⟨hs, g1.out⟩
    · exact ⟨ht, g2.out⟩
    · exact Ret.mk rfl
    · exfalso
      rename_i h1 h2
      obtain ⟨q1, q2⟩ := hsame.out h1
      omega
    · exact Ret.mk rfl
    · exfalso
      rename_i h
      exact h r3.out
  · (refine fnM_of rfl rfl rfl rfl ?_; dsimp only [params, argAV, Ty.leaves, Ty.isSt])
    (repeat' (first | (with_reducible refine Step.mk True.intro ?_) | (with_reducible refine Step.mk ?_ ?_; focus (((try simp only [true_and, and_true, and_self, kmin, kmax, decide_eq_true_eq, decide_eq_false_iff_not, castD_self, castL_self, List.length_cons, List.length_nil, List.length_append, Int.natCast_add] at *) <;> omega))) | (with_reducible refine Step.mk ?_ ?_) | (with_reducible refine Way.t1 ?_) | (with_reducible refine Way.f1 ?_) | ((with_reducible refine Way.dec (fun _ => ?_) (fun _ => ?_)) <;> try (exfalso; omega)) | (with_reducible refine Way.nt ?_) | (with_reducible refine Way.mk (fun _ => ?_) (fun _ => ?_)) | (with_reducible refine Drawn.mk (by kernel_rfl) ?_) | (refine Run.mk ?_)))
    exact Ret.mk rfl
theorem rest_len (s t : ByteArray) (h : hlC s t = 0) : (bytesOf (kp (toks s.data.toList) (toks t.data.toList))).length ≤ 80 := by
  obtain ⟨hs, ht, ⟨e, g1, g2⟩, -, r1, -⟩ := hl_facts s t h
  have e1 : (restS s (hlX s t)).data.toList = bytesOf (kp (toks s.data.toList) (toks t.data.toList)) := by rw [r1]; rfl
  have e2 := gaps_len s.data.toList _ _ _ _ g1 (Int.le_refl _) (by rw [bytes_len]; exact g2)
  rw [bytes_len] at e2
  have e3 : gaps s.data.toList 0 (hlX s t) = bytesOf (kp (toks s.data.toList) (toks t.data.toList)) := e1
  rw [e3] at e2
  omega
theorem hl_tok (s t : ByteArray) (h : hlC s t = 0) : tokV s = toks s.data.toList ∧ tokV t = toks t.data.toList := by
  have h1 : vC [s] = 0 := by
    unfold hlC at h
    by_cases q : vC [s] = 0
    · exact q
    · rw [if_neg q] at h; exact h
  have h2 : vC [t] = 0 := by unfold hlC at h; rw [if_pos h1] at h; exact h
  exact ⟨if_pos h1, if_pos h2⟩
theorem kp_apart (a b : List ByteArray) (h : ∀ i (hi : i < a.length) j (hj : j < b.length), ¬ a[i] = b[j]) : kp a b = [] := by
  obtain ⟨h1, h2, _⟩ := kp_sub a b
  cases hk : kp a b with
  | nil => rfl
  | cons x r =>
    rw [hk] at h1 h2
    obtain ⟨i, hi, e1⟩ := List.getElem_of_mem (h1.subset List.mem_cons_self)
    obtain ⟨j, hj, e2⟩ := List.getElem_of_mem (h2.subset List.mem_cons_self)
    exact absurd (e1.trans e2.symm) (h i hi j hj)
theorem law_SymmetricWhole : SpFact 9 (pureSp false [.str, .str] (fun _ => True) (fun _ => .v false [.d .bool true])) := by
  refine ⟨⟨Try.f9, rfl, rfl, rfl, pureSp_ok (env_fine (sp := [(22, sp_Highlight), (13, sp_Tokens), (28, sp_rest), (14, sp_true)]) (eq := []) ⟨Highlight_sp, Tokens_sp, rest_sp, split_sp, True.intro⟩ True.intro) rfl (fun _ _ => rfl) ?_⟩, pureSp_loc _ _ _ _⟩
  rintro ⟨s, t, u⟩ - -
  by_cases h0 : hlC s t = 0
  · obtain ⟨hs, ht, g1, g2, r1, r2⟩ := hl_facts s t h0
    obtain ⟨k1, k2⟩ := hl_tok s t h0
    have hA : (tokV s).length ≤ 80 := by rw [k1]; have := (toks_facts s.data.toList).2.2.1; rw [bytes_len] at this; omega
    have hB : (tokV t).length ≤ 80 := by rw [k2]; have := (toks_facts t.data.toList).2.2.1; rw [bytes_len] at this; omega
    rw [← k1, ← k2] at r1 r2
    replace r1 := Lib.hid r1
    replace r2 := Lib.hid r2
    replace g1 := Lib.hid g1
    replace g2 := Lib.hid g2
    clear k1 k2
    generalize hAe : tokV s = A at *
    generalize hBe : tokV t = B at *
    replace hAe := Lib.hid hAe
    replace hBe := Lib.hid hBe
    (refine fnM_of rfl rfl rfl rfl ?_; dsimp only [params, argAV, Ty.leaves, Ty.isSt])
    (repeat' (first | (with_reducible refine Step.mk True.intro ?_) | (with_reducible refine Step.mk ?_ ?_; focus (((try simp only [true_and, and_true, and_self, kmin, kmax, decide_eq_true_eq, decide_eq_false_iff_not, castD_self, castL_self, List.length_cons, List.length_nil, List.length_append, Int.natCast_add] at *) <;> omega))) | (with_reducible refine Step.mk ?_ ?_) | (with_reducible refine Way.t1 ?_) | (with_reducible refine Way.f1 ?_) | ((with_reducible refine Way.dec (fun _ => ?_) (fun _ => ?_)) <;> try (exfalso; omega)) | (with_reducible refine Way.nt ?_) | (with_reducible refine Way.mk (fun _ => ?_) (fun _ => ?_)) | (with_reducible refine Drawn.mk (by kernel_rfl) ?_) | (refine Run.mk ?_)))
    · refine loop_by (X := Nat) (fun i => [.put 0 (.v false [.d .str s]), .put 1 (.v false [.d .str t]), .put 5 (.v false [.d (.slice tPr) (hlX s t)]), .put 6 (.v false [.d (.slice tPr) (hlY s t)]), .put 8 (.v false [.d (.slice .str) (tokV s)]), .put 10 (.v false [.d (.slice .str) (tokV t)]), .put 12 (.v false [.d (.int .i64) (i : Int)])]) (fun _ => [])
        (fun i => i ≤ A.length ∧ ∀ i' (hi : i' < A.length), i' < i → ∀ j (hj : j < B.length), ¬ A[i'] = B[j]) (fun i => A.length - i) 0 ⟨Nat.zero_le _, fun i' hi h => by omega⟩ ?_ ?_
      · (refine Wk.keep ?_ ?_ <;> repeat' (first | exact True.intro | refine And.intro rfl ?_ | refine And.intro (congrArg (fun z : Int => AV.v false [Lf.d (.int .i64) z]) (by first | omega | (simp only [Int.natCast_add, List.length_cons, List.length_append, List.length_nil]; omega))) ?_ | refine And.intro ?_ ?_))
      rintro i ⟨hi, hno⟩
      replace hno := Lib.hid hno
      rw [hAe.out, hBe.out]
      by_cases hlt : i < A.length
      · (repeat' (first | (with_reducible refine Step.mk True.intro ?_) | (with_reducible refine Step.mk ?_ ?_; focus (((try simp only [true_and, and_true, and_self, kmin, kmax, decide_eq_true_eq, decide_eq_false_iff_not, castD_self, castL_self, List.length_cons, List.length_nil, List.length_append, Int.natCast_add] at *) <;> omega))) | (with_reducible refine Step.mk ?_ ?_) | (with_reducible refine Way.t1 ?_) | (with_reducible refine Way.f1 ?_) | ((with_reducible refine Way.dec (fun _ => ?_) (fun _ => ?_)) <;> try (exfalso; omega)) | (with_reducible refine Way.nt ?_) | (with_reducible refine Way.mk (fun _ => ?_) (fun _ => ?_)) | (with_reducible refine Drawn.mk (by kernel_rfl) ?_) | (refine Run.mk ?_)))
        refine loop_by (X := Nat) (fun j => [.put 0 (.v false [.d .str s]), .put 1 (.v false [.d .str t]), .put 5 (.v false [.d (.slice tPr) (hlX s t)]), .put 6 (.v false [.d (.slice tPr) (hlY s t)]), .put 8 (.v false [.d (.slice .str) A]), .put 10 (.v false [.d (.slice .str) B]), .put 12 (.v false [.d (.int .i64) (i : Int)]), .put 13 (.v false [.d (.int .i64) (j : Int)])]) (fun _ => [])
          (fun j => j ≤ B.length ∧ ∀ j' (hj : j' < B.length), j' < j → ¬ A[i] = B[j']) (fun j => B.length - j) 0 ⟨Nat.zero_le _, fun j' hj h => by omega⟩ ?_ ?_
        · (refine Wk.keep ?_ ?_ <;> repeat' (first | exact True.intro | refine And.intro rfl ?_ | refine And.intro (congrArg (fun z : Int => AV.v false [Lf.d (.int .i64) z]) (by first | omega | (simp only [Int.natCast_add, List.length_cons, List.length_append, List.length_nil]; omega))) ?_ | refine And.intro ?_ ?_))
        rintro j ⟨hj, hnj⟩
        replace hnj := Lib.hid hnj
        by_cases hjl : j < B.length
        · have ga := getD_at (a := A) Ty.str.dflt hlt
          have gb := getD_at (a := B) Ty.str.dflt hjl
          replace ga := Lib.hid ga
          replace gb := Lib.hid gb
          (repeat' (first | (with_reducible refine Step.mk True.intro ?_) | (with_reducible refine Step.mk ?_ ?_; focus (((try simp only [true_and, and_true, and_self, kmin, kmax, decide_eq_true_eq, decide_eq_false_iff_not, castD_self, castL_self, List.length_cons, List.length_nil, List.length_append, Int.natCast_add] at *) <;> omega))) | (with_reducible refine Step.mk ?_ ?_) | (with_reducible refine Way.t1 ?_) | (with_reducible refine Way.f1 ?_) | ((with_reducible refine Way.dec (fun _ => ?_) (fun _ => ?_)) <;> try (exfalso; omega)) | (with_reducible refine Way.nt ?_) | (with_reducible refine Way.mk (fun _ => ?_) (fun _ => ?_)) | (with_reducible refine Drawn.mk (by kernel_rfl) ?_) | (refine Run.mk ?_)))
          · exact Ret.mk rfl
          · rename_i h
            have h : ¬ A.getD ((i : Int)).toNat Ty.str.dflt = B.getD ((j : Int)).toNat Ty.str.dflt := h
            rw [ga.out, gb.out] at h
            (refine Back.by (j + 1) ?_ ?_ ?_; focus (refine Wk.keep ?_ ?_ <;> repeat' (first | exact True.intro | refine And.intro rfl ?_ | refine And.intro (congrArg (fun z : Int => AV.v false [Lf.d (.int .i64) z]) (by first | omega | (simp only [Int.natCast_add, List.length_cons, List.length_append, List.length_nil]; omega))) ?_ | refine And.intro ?_ ?_)))
            · refine ⟨hjl, fun j' hj' hl => ?_⟩
              rcases Nat.lt_or_ge j' j with q | q
              · exact hnj.out j' hj' q
              · obtain rfl : j' = j := by omega
                exact h
            · show B.length - (j + 1) < B.length - j; omega
        · (repeat' (first | (with_reducible refine Step.mk True.intro ?_) | (with_reducible refine Step.mk ?_ ?_; focus (((try simp only [true_and, and_true, and_self, kmin, kmax, decide_eq_true_eq, decide_eq_false_iff_not, castD_self, castL_self, List.length_cons, List.length_nil, List.length_append, Int.natCast_add] at *) <;> omega))) | (with_reducible refine Step.mk ?_ ?_) | (with_reducible refine Way.t1 ?_) | (with_reducible refine Way.f1 ?_) | ((with_reducible refine Way.dec (fun _ => ?_) (fun _ => ?_)) <;> try (exfalso; omega)) | (with_reducible refine Way.nt ?_) | (with_reducible refine Way.mk (fun _ => ?_) (fun _ => ?_)) | (with_reducible refine Drawn.mk (by kernel_rfl) ?_) | (refine Run.mk ?_)))
          (refine Back.by (i + 1) ?_ ?_ ?_; focus (refine Wk.keep ?_ ?_ <;> repeat' (first | exact True.intro | refine And.intro rfl ?_ | refine And.intro (congrArg (fun z : Int => AV.v false [Lf.d (.int .i64) z]) (by first | omega | (simp only [Int.natCast_add, List.length_cons, List.length_append, List.length_nil]; omega))) ?_ | refine And.intro ?_ ?_)))
          · refine ⟨hlt, fun i' hi' hl j' hj' => ?_⟩
            rcases Nat.lt_or_ge i' i with q | q
            · exact hno.out i' hi' q j' hj'
            · obtain rfl : i' = i := by omega
              exact hnj.out j' hj' (by omega)
          · show A.length - (i + 1) < A.length - i; omega
      · have kpe : kp A B = [] := kp_apart A B fun i' hi' j hj => hno.out i' hi' (by omega) j hj
        have e1 : restS s (hlX s t) = ⟨#[]⟩ := by rw [r1.out, kpe]; rfl
        have e2 : restS t (hlY s t) = ⟨#[]⟩ := by rw [r2.out, kpe]; rfl
        replace e1 := Lib.hid e1
        replace e2 := Lib.hid e2
        (repeat' (first | (with_reducible refine Step.mk True.intro ?_) | (with_reducible refine Step.mk ?_ ?_; focus (((try simp only [true_and, and_true, and_self, kmin, kmax, decide_eq_true_eq, decide_eq_false_iff_not, castD_self, castL_self, List.length_cons, List.length_nil, List.length_append, Int.natCast_add] at *) <;> omega))) | (with_reducible refine Step.mk ?_ ?_) | (with_reducible refine Way.t1 ?_) | (with_reducible refine Way.f1 ?_) | ((with_reducible refine Way.dec (fun _ => ?_) (fun _ => ?_)) <;> try (exfalso; omega)) | (with_reducible refine Way.nt ?_) | (with_reducible refine Way.mk (fun _ => ?_) (fun _ => ?_)) | (with_reducible refine Drawn.mk (by kernel_rfl) ?_) | (refine Run.mk ?_)))
        · exact ⟨hs, g1.out⟩
        · exact ⟨ht, g2.out⟩
        · exact Ret.mk rfl
        · exfalso
          rename_i h
          first | exact h e2.out | exact h e1.out
        · exfalso
          rename_i h
          first | exact h e1.out | exact h e2.out
    all_goals exact Ret.mk rfl
  · (refine fnM_of rfl rfl rfl rfl ?_; dsimp only [params, argAV, Ty.leaves, Ty.isSt])
    (repeat' (first | (with_reducible refine Step.mk True.intro ?_) | (with_reducible refine Step.mk ?_ ?_; focus (((try simp only [true_and, and_true, and_self, kmin, kmax, decide_eq_true_eq, decide_eq_false_iff_not, castD_self, castL_self, List.length_cons, List.length_nil, List.length_append, Int.natCast_add] at *) <;> omega))) | (with_reducible refine Step.mk ?_ ?_) | (with_reducible refine Way.t1 ?_) | (with_reducible refine Way.f1 ?_) | ((with_reducible refine Way.dec (fun _ => ?_) (fun _ => ?_)) <;> try (exfalso; omega)) | (with_reducible refine Way.nt ?_) | (with_reducible refine Way.mk (fun _ => ?_) (fun _ => ?_)) | (with_reducible refine Drawn.mk (by kernel_rfl) ?_) | (refine Run.mk ?_)))
    all_goals exact Ret.mk rfl
theorem law_AsLines : SpFact 11 (pureSp false [.str, .str] (fun _ => True) (fun _ => .v false [.d .bool true])) := by
  refine ⟨⟨Try.f11, rfl, rfl, rfl, pureSp_ok (env_fine (sp := [(22, sp_Highlight), (13, sp_Tokens), (28, sp_rest), (14, sp_true), (20, sp_Common), (15, sp_together)]) (eq := []) ⟨Highlight_sp, Tokens_sp, rest_sp, split_sp, Common_sp, together_sp, True.intro⟩ True.intro) rfl (fun _ _ => rfl) ?_⟩, pureSp_loc _ _ _ _⟩
  rintro ⟨s, t, u⟩ - -
  by_cases h0 : hlC s t = 0
  · obtain ⟨hs, ht, g1, g2, r1, r2⟩ := hl_facts s t h0
    obtain ⟨k1, k2⟩ := hl_tok s t h0
    have key : bC (tokV s) (tokV t) = 0 → restS s (hlX s t) = joinB (comV (tokV s) (tokV t)) := fun h => by unfold comV; rw [if_pos h, r1, k1, k2]
    have hsz : (bytesOf (comV (tokV s) (tokV t))).length ≤ 1000000 := by
      unfold comV
      split
      · rw [k1, k2]; exact Nat.le_trans (rest_len s t h0) (by decide)
      · exact Nat.zero_le _
    replace key := Lib.hid key
    replace hsz := Lib.hid hsz
    clear r1 r2 k1 k2
    (refine fnM_of rfl rfl rfl rfl ?_; dsimp only [params, argAV, Ty.leaves, Ty.isSt])
    (repeat' (first | (with_reducible refine Step.mk True.intro ?_) | (with_reducible refine Step.mk ?_ ?_; focus (((try simp only [true_and, and_true, and_self, kmin, kmax, decide_eq_true_eq, decide_eq_false_iff_not, castD_self, castL_self, List.length_cons, List.length_nil, List.length_append, Int.natCast_add] at *) <;> omega))) | (with_reducible refine Step.mk ?_ ?_) | (with_reducible refine Way.t1 ?_) | (with_reducible refine Way.f1 ?_) | ((with_reducible refine Way.dec (fun _ => ?_) (fun _ => ?_)) <;> try (exfalso; omega)) | (with_reducible refine Way.nt ?_) | (with_reducible refine Way.mk (fun _ => ?_) (fun _ => ?_)) | (with_reducible refine Drawn.mk (by kernel_rfl) ?_) | (refine Run.mk ?_)))
    · exact ⟨hs, g1⟩
    · exact hsz.out
    · exact Ret.mk rfl
    · exfalso
      rename_i h1 h2
      exact h2 (key.out h1)
    all_goals exact Ret.mk rfl
  · (refine fnM_of rfl rfl rfl rfl ?_; dsimp only [params, argAV, Ty.leaves, Ty.isSt])
    (repeat' (first | (with_reducible refine Step.mk True.intro ?_) | (with_reducible refine Step.mk ?_ ?_; focus (((try simp only [true_and, and_true, and_self, kmin, kmax, decide_eq_true_eq, decide_eq_false_iff_not, castD_self, castL_self, List.length_cons, List.length_nil, List.length_append, Int.natCast_add] at *) <;> omega))) | (with_reducible refine Step.mk ?_ ?_) | (with_reducible refine Way.t1 ?_) | (with_reducible refine Way.f1 ?_) | ((with_reducible refine Way.dec (fun _ => ?_) (fun _ => ?_)) <;> try (exfalso; omega)) | (with_reducible refine Way.nt ?_) | (with_reducible refine Way.mk (fun _ => ?_) (fun _ => ?_)) | (with_reducible refine Drawn.mk (by kernel_rfl) ?_) | (refine Run.mk ?_)))
    all_goals exact Ret.mk rfl
end Go.Proofs.Ytdpcbffmmndhcaa
