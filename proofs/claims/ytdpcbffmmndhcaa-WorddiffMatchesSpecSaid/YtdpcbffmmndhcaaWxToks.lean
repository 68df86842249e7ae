import Derived.Test.YtdpcbffmmndhcaaWxClass
namespace Go.Proofs.Ytdpcbffmmndhcaa
open Go.RowKit
set_option maxRecDepth 10000
set_option linter.unusedSimpArgs false
def sp_tokens : SpecF := ownSp false [.str] 9 .str (fun (a', _) => a'.size ≤ 80) (fun (a', _) => toks a'.data.toList)
theorem tokens_sp : SpFact 37 sp_tokens := by
  refine ⟨⟨Try.f37, rfl, rfl, rfl, ownSp_ok (env_fine (sp := [(55, sp_class)]) (eq := []) ⟨class_sp, True.intro⟩ True.intro) rfl (fun _ => rfl) ?_⟩, ownSp_loc _ _ _ _ _ _⟩
  rintro ⟨s, u⟩ - hs
  dsimp only at hs ⊢
  refine fnM_of rfl rfl rfl rfl ?_
  (repeat' (first | (with_reducible refine Step.mk True.intro ?_) | (with_reducible refine Step.mk ?_ ?_; focus (((try simp only [true_and, and_true, and_self, kmin, kmax, decide_eq_true_eq, decide_eq_false_iff_not, castD_self, castL_self, List.length_cons, List.length_nil, List.length_append, Int.natCast_add] at *) <;> omega))) | (with_reducible refine Step.mk ?_ ?_) | (with_reducible refine Way.t1 ?_) | (with_reducible refine Way.f1 ?_) | ((with_reducible refine Way.dec (fun _ => ?_) (fun _ => ?_)) <;> try (exfalso; omega)) | (with_reducible refine Way.nt ?_) | (with_reducible refine Way.mk (fun _ => ?_) (fun _ => ?_)) | (with_reducible refine Drawn.mk (by kernel_rfl) ?_) | (refine Run.mk ?_)))
  refine loop_by (X := Nat × List ByteArray) (fun x => [.put 0 (.v false [.d .str s]), .put 3 (.v false [.o 41]), .put 4 (.v false [.d (.int .i64) (x.1 : Int)])]) (fun x => [.put 41 (.row 9 .str x.2)])
    (fun x => x.1 ≤ s.size ∧ x.2.length ≤ x.1 ∧ toks s.data.toList = x.2 ++ toks (s.data.toList.drop x.1)) (fun x => s.size - x.1) (0, []) ⟨Nat.zero_le _, Nat.zero_le _, rfl⟩ ?_ ?_
  · refine (Wk.nilrow 3 41 9 .str rfl).trans (Wk.keep ⟨rfl, rfl, rfl, True.intro⟩ ⟨rfl, True.intro⟩)
  rintro ⟨p, o⟩ ⟨hp, hol, ht⟩
  dsimp only at hp hol ht ⊢
  have hlen : s.data.toList.length = s.size := by rw [Array.length_toList]; rfl
  (repeat' (first | (with_reducible refine Step.mk True.intro ?_) | (with_reducible refine Step.mk ?_ ?_; focus (((try simp only [true_and, and_true, and_self, kmin, kmax, decide_eq_true_eq, decide_eq_false_iff_not, castD_self, castL_self, List.length_cons, List.length_nil, List.length_append, Int.natCast_add] at *) <;> omega))) | (with_reducible refine Step.mk ?_ ?_) | (with_reducible refine Way.t1 ?_) | (with_reducible refine Way.f1 ?_) | ((with_reducible refine Way.dec (fun _ => ?_) (fun _ => ?_)) <;> try (exfalso; omega)) | (with_reducible refine Way.nt ?_) | (with_reducible refine Way.mk (fun _ => ?_) (fun _ => ?_)) | (with_reducible refine Drawn.mk (by kernel_rfl) ?_) | (refine Run.mk ?_)))
  · rename_i hp0
    have hp1 : p < s.size := by omega
    have hpL : p < s.data.toList.length := by omega
    have hb0 : byteAt s p = (s.data.toList[p].toNat : Int) := by
      unfold byteAt; rw [List.getD_eq_getElem?_getD, List.getElem?_eq_getElem hpL]; rfl
    have hbr : ∀ m, (h' : m < (s.data.toList.drop (p + 1)).length) → byteAt s (p + 1 + m) = ((s.data.toList.drop (p + 1))[m].toNat : Int) := by
      intro m h'
      have : p + 1 + m < s.data.toList.length := by rw [List.length_drop] at h'; omega
      unfold byteAt; rw [List.getD_eq_getElem?_getD, List.getElem?_eq_getElem this, List.getElem_drop]; rfl
    have hmle := more_le s.data.toList[p] (s.data.toList.drop (p + 1))
    have hmlt := more_lt s.data.toList[p] (s.data.toList.drop (p + 1))
    have hmend := more_end s.data.toList[p] (s.data.toList.drop (p + 1))
    have htk := drop_toks s.data.toList p hpL
    have hex := extract_tok s p (more s.data.toList[p] (s.data.toList.drop (p + 1))) hpL
    rw [← hex] at htk
    rw [List.length_drop] at hmle
    replace hmlt := Lib.hid hmlt
    replace hmend := Lib.hid hmend
    replace hbr := Lib.hid hbr
    generalize hM : more s.data.toList[p] (s.data.toList.drop (p + 1)) = M at *
    refine loop_by (X := Nat) (fun m => [.put 0 (.v false [.d .str s]), .put 3 (.v false [.o 41]), .put 4 (.v false [.d (.int .i64) (p : Int)]), .put 5 (.v false [.d (.int .i64) ((p : Int) + 1 + (m : Int))]), .put 6 (.v false [.d (.int .i64) (clsV (byteAt s p))])]) (fun _ => [.put 41 (.row 9 .str o)])
      (fun m => m ≤ M) (fun m => M - m) 0 (Nat.zero_le _) (Wk.keep ⟨rfl, rfl, rfl, rfl, rfl, True.intro⟩ ⟨rfl, True.intro⟩) ?_
    intro m hm
    (try dsimp only)
    (repeat' (first | (with_reducible refine Step.mk True.intro ?_) | (with_reducible refine Step.mk ?_ ?_; focus (((try simp only [true_and, and_true, and_self, kmin, kmax, decide_eq_true_eq, decide_eq_false_iff_not, castD_self, castL_self, List.length_cons, List.length_nil, List.length_append, Int.natCast_add] at *) <;> omega))) | (with_reducible refine Step.mk ?_ ?_) | (with_reducible refine Way.t1 ?_) | (with_reducible refine Way.f1 ?_) | ((with_reducible refine Way.dec (fun _ => ?_) (fun _ => ?_)) <;> try (exfalso; omega)) | (with_reducible refine Way.nt ?_) | (with_reducible refine Way.mk (fun _ => ?_) (fun _ => ?_)) | (with_reducible refine Drawn.mk (by kernel_rfl) ?_) | (refine Run.mk ?_)))
    · rename_i h1
      obtain rfl : m = M := by
        rcases Nat.lt_or_ge m M with q | q
        · rw [hb0] at h1
          exact absurd h1 (hmlt.out m q).1
        · omega
      (refine Back.by ((p + 1 + m, o ++ [s.extract p (p + 1 + m)])) ?_ ?_ ?_; focus (refine Wk.keep ?_ ?_ <;> repeat' (first | exact True.intro | refine And.intro rfl ?_ | refine And.intro (congrArg (fun z : Int => AV.v false [Lf.d (.int .i64) z]) (by first | omega | (simp only [Int.natCast_add, List.length_cons, List.length_append, List.length_nil]; omega))) ?_ | refine And.intro ?_ ?_)))
      · refine ⟨by show p + 1 + m ≤ _; omega, by simp only [List.length_append, List.length_cons, List.length_nil]; omega, ?_⟩
        (try dsimp only)
        rw [ht, htk, List.append_assoc]
        rfl
      · show s.size - (p + 1 + m) < s.size - p
        omega
    · rename_i h1 h2 h3
      have h3 : clsV (byteAt s (p + 1 + m)) = clsV (byteAt s p) := h3
      have hm1 : m < M := by
        rcases Nat.lt_or_ge m M with q | q
        · exact q
        · obtain rfl : m = M := by omega
          have hr : m < (s.data.toList.drop (p + 1)).length := by rw [List.length_drop]; omega
          rcases hmend.out with r | r | ⟨r1, r2⟩
          · rw [hb0] at h1; exact absurd r h1
          · omega
          · rw [hbr.out m hr, hb0] at h3; exact absurd h3 r2
      (refine Back.by (m + 1) ?_ ?_ ?_; focus (refine Wk.keep ?_ ?_ <;> repeat' (first | exact True.intro | refine And.intro rfl ?_ | refine And.intro (congrArg (fun z : Int => AV.v false [Lf.d (.int .i64) z]) (by first | omega | (simp only [Int.natCast_add, List.length_cons, List.length_append, List.length_nil]; omega))) ?_ | refine And.intro ?_ ?_)))
      · exact hm1
      · show M - (m + 1) < M - m
        omega
    · rename_i h1 h2 h3
      have h3 : ¬ clsV (byteAt s (p + 1 + m)) = clsV (byteAt s p) := h3
      obtain rfl : m = M := by
        rcases Nat.lt_or_ge m M with q | q
        · obtain ⟨q1, q2, q3⟩ := hmlt.out m q
          rw [hbr.out m q2, hb0] at h3
          exact absurd q3 h3
        · omega
      (refine Back.by ((p + 1 + m, o ++ [s.extract p (p + 1 + m)])) ?_ ?_ ?_; focus (refine Wk.keep ?_ ?_ <;> repeat' (first | exact True.intro | refine And.intro rfl ?_ | refine And.intro (congrArg (fun z : Int => AV.v false [Lf.d (.int .i64) z]) (by first | omega | (simp only [Int.natCast_add, List.length_cons, List.length_append, List.length_nil]; omega))) ?_ | refine And.intro ?_ ?_)))
      · refine ⟨by show p + 1 + m ≤ _; omega, by simp only [List.length_append, List.length_cons, List.length_nil]; omega, ?_⟩
        (try dsimp only)
        rw [ht, htk, List.append_assoc]
        rfl
      · show s.size - (p + 1 + m) < s.size - p
        omega
    · rename_i h1 h2
      obtain rfl : m = M := by omega
      (refine Back.by ((p + 1 + m, o ++ [s.extract p (p + 1 + m)])) ?_ ?_ ?_; focus (refine Wk.keep ?_ ?_ <;> repeat' (first | exact True.intro | refine And.intro rfl ?_ | refine And.intro (congrArg (fun z : Int => AV.v false [Lf.d (.int .i64) z]) (by first | omega | (simp only [Int.natCast_add, List.length_cons, List.length_append, List.length_nil]; omega))) ?_ | refine And.intro ?_ ?_)))
      · refine ⟨by show p + 1 + m ≤ _; omega, by simp only [List.length_append, List.length_cons, List.length_nil]; omega, ?_⟩
        (try dsimp only)
        rw [ht, htk, List.append_assoc]
        rfl
      · show s.size - (p + 1 + m) < s.size - p
        omega
  · rename_i h1
    obtain rfl : p = s.size := by omega
    refine Ret.mk (.inl ⟨41, rfl, ?_⟩)
    rw [List.drop_of_length_le (by omega)] at ht
    rw [ht]
    show _ = some (Ob.row 9 .str (o ++ []))
    rw [List.append_nil]
    rfl
end Go.Proofs.Ytdpcbffmmndhcaa
