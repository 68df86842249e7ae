/- The walk of diff.Align. -/
import Derived.Test.YthacjpemeaekdaaSxTab
import Derived.Test.YthacjpemeaekdaaTabPure
namespace Go.Proofs.Ythacjpemeaekdaa
open Go.RowKit
set_option maxRecDepth 10000
set_option linter.unusedSimpArgs false

theorem max_in (u v : Nat) (hu : u ≤ 120) (hv : v ≤ 120) : kmin .i64 ≤ max (u : Int) v ∧ max (u : Int) v ≤ kmax .i64 := by
  simp only [kmin, kmax]; omega
theorem max_cast (u v : Nat) : max (u : Int) (v : Int) = ((max u v : Nat) : Int) := by omega
def sp_Align : SpecF := ownSp true [.slice .str, .slice .str] 3 (.int .i64) (fun (a', b', _) => a'.length ≤ 120 ∧ b'.length ≤ 120) (fun (a', b', _) => align a' b')
theorem Align_sp : SpFact 65 sp_Align := by
  refine ⟨⟨Try.f65, rfl, rfl, rfl, ownSp_ok (env1_fine (sp := []) (eq := []) (inl := [(81, Try.f81)]) (cl := []) True.intro True.intro ⟨⟨rfl, rfl, rfl⟩, True.intro⟩) rfl (fun _ => rfl) ?_⟩, ownSp_loc _ _ _ _ _ _⟩
  rintro ⟨a, b, u⟩ - ⟨ha, hb⟩
  dsimp only at ha hb ⊢
  have hp := idx_in a.length b.length b.length a.length (Nat.le_refl _) (Nat.le_refl _) ha hb (a.length : Int) ((b.length : Int) + 1) b.length rfl rfl rfl
  have hp2 : ((a.length : Int) + 1) * ((b.length : Int) + 1) = (a.length : Int) * ((b.length : Int) + 1) + b.length + 1 := by rw [Int.add_mul]; omega
  have hn : (((a.length : Int) + 1) * ((b.length : Int) + 1)).toNat = (a.length + 1) * (b.length + 1) := by
    rw [← Int.toNat_natCast ((a.length + 1) * (b.length + 1))]; congr 1
  (refine fnM_of rfl rfl rfl rfl ?_; dsimp only [params, argAV, Ty.leaves, Ty.isSt])
  (repeat' (first | (with_reducible refine Cend.go ?_) | (with_reducible refine Step.mk True.intro ?_) | (with_reducible refine Step.mk ?_ ?_; focus (((try simp only [true_and, and_true, and_self, kmin, kmax, decide_eq_true_eq, decide_eq_false_iff_not, castD_self, castL_self, List.length_cons, List.length_nil, List.length_append, Int.natCast_add] at *) <;> omega))) | (with_reducible refine Step.mk ?_ ?_) | (with_reducible refine Way.t1 ?_) | (with_reducible refine Way.f1 ?_) | ((with_reducible refine Way.dec (fun _ => ?_) (fun _ => ?_)) <;> try (exfalso; omega)) | (with_reducible refine Way.nt ?_) | (with_reducible refine Way.mk (fun _ => ?_) (fun _ => ?_)) | (with_reducible refine Drawn.mk (by kernel_rfl) ?_) | (refine Run.mk ?_)))
  refine loop_by (X := Nat × List Int) (fun x => [.put 0 (.v false [.d (.slice .str) a]), .put 1 (.v false [.d (.slice .str) b]), .put 5 (.v false [.p 5 0]), .put 6 (.v false [.p 6 0]), .put 7 (.v false [.fn 81 [6, 5]]), .put 8 (.v false [.d (.int .i64) ((x.1 : Int) - 1)])])
    (fun x => [.put 5 (.box 3 [.d (.int .i64) ((b.length : Int) + 1)]), .put 6 (.box 100 [.o 22]), .put 22 (.row 3 (.int .i64) x.2)])
    (fun x => x.1 ≤ a.length ∧ FillL a b x.1 b.length x.2) (fun x => x.1) (a.length, List.replicate (((a.length : Int) + 1) * ((b.length : Int) + 1)).toNat 0) ⟨Nat.le_refl _, FillL.start a b _ hn⟩ ?_ ?_
  · (refine Wk.keep ?_ ?_ <;> repeat' (first | exact True.intro | refine And.intro rfl ?_ | refine And.intro (congrArg (fun z : Int => AV.v false [Lf.d (.int .i64) z]) (by first | omega | (simp only [Int.natCast_add, List.length_cons, List.length_append, List.length_nil]; omega))) ?_ | refine And.intro ?_ ?_))
  rintro ⟨k, L⟩ ⟨hk, hL⟩
  dsimp only at hk hL ⊢
  replace hL := Lib.hid hL
  clear hp2 hn hp
  (repeat' (first | (with_reducible refine Cend.go ?_) | (with_reducible refine Step.mk True.intro ?_) | (with_reducible refine Step.mk ?_ ?_; focus (((try simp only [true_and, and_true, and_self, kmin, kmax, decide_eq_true_eq, decide_eq_false_iff_not, castD_self, castL_self, List.length_cons, List.length_nil, List.length_append, Int.natCast_add] at *) <;> omega))) | (with_reducible refine Step.mk ?_ ?_) | (with_reducible refine Way.t1 ?_) | (with_reducible refine Way.f1 ?_) | ((with_reducible refine Way.dec (fun _ => ?_) (fun _ => ?_)) <;> try (exfalso; omega)) | (with_reducible refine Way.nt ?_) | (with_reducible refine Way.mk (fun _ => ?_) (fun _ => ?_)) | (with_reducible refine Drawn.mk (by kernel_rfl) ?_) | (refine Run.mk ?_)))
  · rename_i h0
    -- a row
    obtain ⟨k, rfl⟩ : ∃ k', k = k' + 1 := ⟨k - 1, by omega⟩
    refine loop_by (X := Nat × List Int) (fun x => [.put 0 (.v false [.d (.slice .str) a]), .put 1 (.v false [.d (.slice .str) b]), .put 5 (.v false [.p 5 0]), .put 6 (.v false [.p 6 0]), .put 7 (.v false [.fn 81 [6, 5]]), .put 8 (.v false [.d (.int .i64) (k : Int)]), .put 9 (.v false [.d (.int .i64) ((x.1 : Int) - 1)])])
      (fun x => [.put 5 (.box 3 [.d (.int .i64) ((b.length : Int) + 1)]), .put 6 (.box 100 [.o 22]), .put 22 (.row 3 (.int .i64) x.2)])
      (fun x => x.1 ≤ b.length ∧ FillL a b (k + 1) x.1 x.2) (fun x => x.1) (b.length, L) ⟨Nat.le_refl _, hL.out⟩ ?_ ?_
    · (refine Wk.keep ?_ ?_ <;> repeat' (first | exact True.intro | refine And.intro rfl ?_ | refine And.intro (congrArg (fun z : Int => AV.v false [Lf.d (.int .i64) z]) (by first | omega | (simp only [Int.natCast_add, List.length_cons, List.length_append, List.length_nil]; omega))) ?_ | refine And.intro ?_ ?_))
    rintro ⟨m, M⟩ ⟨hm, hM⟩
    dsimp only at hm hM ⊢
    replace hM := Lib.hid hM
    by_cases hm0 : m = 0
    · subst hm0
      (repeat' (first | (with_reducible refine Cend.go ?_) | (with_reducible refine Step.mk True.intro ?_) | (with_reducible refine Step.mk ?_ ?_; focus (((try simp only [true_and, and_true, and_self, kmin, kmax, decide_eq_true_eq, decide_eq_false_iff_not, castD_self, castL_self, List.length_cons, List.length_nil, List.length_append, Int.natCast_add] at *) <;> omega))) | (with_reducible refine Step.mk ?_ ?_) | (with_reducible refine Way.t1 ?_) | (with_reducible refine Way.f1 ?_) | ((with_reducible refine Way.dec (fun _ => ?_) (fun _ => ?_)) <;> try (exfalso; omega)) | (with_reducible refine Way.nt ?_) | (with_reducible refine Way.mk (fun _ => ?_) (fun _ => ?_)) | (with_reducible refine Drawn.mk (by kernel_rfl) ?_) | (refine Run.mk ?_)))
      · (refine Back.by ((k, M)) ?_ ?_ ?_; focus (refine Wk.keep ?_ ?_ <;> repeat' (first | exact True.intro | refine And.intro rfl ?_ | refine And.intro (congrArg (fun z : Int => AV.v false [Lf.d (.int .i64) z]) (by first | omega | (simp only [Int.natCast_add, List.length_cons, List.length_append, List.length_nil]; omega))) ?_ | refine And.intro ?_ ?_)))
        · exact ⟨by show k ≤ _; omega, hM.out.row⟩
        · show k < k + 1; omega
    obtain ⟨m, rfl⟩ : ∃ m', m = m' + 1 := ⟨m - 1, by omega⟩
    -- the numbers that are read
    have i1 := idx_in (k + 1) m b.length a.length (by omega) (by omega) ha hb ((k : Int) + 1) ((b.length : Int) + 1) (((m + 1 : Nat) : Int) - 1) (by omega) rfl (by omega)
    have i2 := idx_in k (m + 1) b.length a.length (by omega) (by omega) ha hb (k : Int) ((b.length : Int) + 1) ((((m + 1 : Nat) : Int) - 1) + 1) (by omega) rfl (by omega)
    have i3 := idx_in (k + 1) (m + 1) b.length a.length (by omega) (by omega) ha hb ((k : Int) + 1) ((b.length : Int) + 1) ((((m + 1 : Nat) : Int) - 1) + 1) (by omega) rfl (by omega)
    have i4 := idx_in k m b.length a.length (by omega) (by omega) ha hb (k : Int) ((b.length : Int) + 1) (((m + 1 : Nat) : Int) - 1) (by omega) rfl (by omega)
    have hlen : (M.length : Int) = ((a.length : Int) + 1) * ((b.length : Int) + 1) := by rw [hM.out.1]; push_cast; rfl
    have e1 := hM.out.at (k + 1) m hk (by omega) (.inl (Nat.le_refl _)) _ (idx_toNat (k + 1) m (b.length + 1) ((k : Int) + 1) ((b.length : Int) + 1) (((m + 1 : Nat) : Int) - 1) (by omega) rfl (by omega)) 0
    have e2 := hM.out.at k (m + 1) (by omega) hm (.inr (.inr ⟨rfl, Nat.le_refl _⟩)) _ (idx_toNat k (m + 1) (b.length + 1) (k : Int) ((b.length : Int) + 1) ((((m + 1 : Nat) : Int) - 1) + 1) (by omega) rfl (by omega)) 0
    have e3 := hM.out.at (k + 1) (m + 1) hk hm (.inl (Nat.le_refl _)) _ (idx_toNat (k + 1) (m + 1) (b.length + 1) ((k : Int) + 1) ((b.length : Int) + 1) ((((m + 1 : Nat) : Int) - 1) + 1) (by omega) rfl (by omega)) 0
    have e4 := idx_toNat k m (b.length + 1) (k : Int) ((b.length : Int) + 1) (((m + 1 : Nat) : Int) - 1) (by omega) rfl (by omega)
    have dl := drop_lcs a b k m (by omega) (by omega)
    have l1 := lcs_le_l (a.drop (k + 1)) (b.drop m)
    have l2 := lcs_le_l (a.drop k) (b.drop (m + 1))
    have l3 := lcs_le_l (a.drop (k + 1)) (b.drop (m + 1))
    rw [List.length_drop] at l1 l2 l3
    have ga : a.getD (k : Int).toNat Ty.str.dflt = a[k] := by rw [Int.toNat_natCast, List.getD_eq_getElem?_getD, List.getElem?_eq_getElem (by omega)]; rfl
    have gb : b.getD (((m + 1 : Nat) : Int) - 1).toNat Ty.str.dflt = b[m] := by rw [show (((m + 1 : Nat) : Int) - 1).toNat = m by omega, List.getD_eq_getElem?_getD, List.getElem?_eq_getElem (by omega)]; rfl
    replace e1 := Lib.hid e1
    replace e2 := Lib.hid e2
    replace e3 := Lib.hid e3
    replace e4 := Lib.hid e4
    replace dl := Lib.hid dl
    replace ga := Lib.hid ga
    replace gb := Lib.hid gb
    (repeat' (first | (with_reducible refine Cend.go ?_) | (with_reducible refine Step.mk True.intro ?_) | (with_reducible refine Step.mk ?_ ?_; focus (((try simp only [true_and, and_true, and_self, kmin, kmax, decide_eq_true_eq, decide_eq_false_iff_not, castD_self, castL_self, List.length_cons, List.length_nil, List.length_append, Int.natCast_add] at *) <;> omega))) | (with_reducible refine Step.mk ?_ ?_) | (with_reducible refine Way.t1 ?_) | (with_reducible refine Way.f1 ?_) | ((with_reducible refine Way.dec (fun _ => ?_) (fun _ => ?_)) <;> try (exfalso; omega)) | (with_reducible refine Way.nt ?_) | (with_reducible refine Way.mk (fun _ => ?_) (fun _ => ?_)) | (with_reducible refine Drawn.mk (by kernel_rfl) ?_) | (refine Run.mk ?_)))
    · have q1 : M.getD (((k : Int) + 1) * ((b.length : Int) + 1) + (((m + 1 : Nat) : Int) - 1)).toNat (Ty.int .i64).dflt = _ := e1.out
      have q2 : M.getD ((k : Int) * ((b.length : Int) + 1) + (((m + 1 : Nat) : Int) - 1 + 1)).toNat (Ty.int .i64).dflt = _ := e2.out
      rw [q1, q2]
      exact max_in _ _ (by omega) (by omega)
    · have q3 : M.getD (((k : Int) + 1) * ((b.length : Int) + 1) + (((m + 1 : Nat) : Int) - 1 + 1)).toNat (Ty.int .i64).dflt = _ := e3.out
      rw [q3]
      simp only [kmin, kmax]
      omega
    · rename_i hab
      have hab : a.getD (k : Int).toNat Ty.str.dflt = b.getD (((m + 1 : Nat) : Int) - 1).toNat Ty.str.dflt := hab
      rw [ga.out, gb.out] at hab
      (refine Back.by ((m, M.set ((k : Int) * ((b.length : Int) + 1) + (((m + 1 : Nat) : Int) - 1)).toNat (M.getD (((k : Int) + 1) * ((b.length : Int) + 1) + (((m + 1 : Nat) : Int) - 1 + 1)).toNat (Ty.int .i64).dflt + 1))) ?_ ?_ ?_; focus (refine Wk.keep ?_ ?_ <;> repeat' (first | exact True.intro | refine And.intro rfl ?_ | refine And.intro (congrArg (fun z : Int => AV.v false [Lf.d (.int .i64) z]) (by first | omega | (simp only [Int.natCast_add, List.length_cons, List.length_append, List.length_nil]; omega))) ?_ | refine And.intro ?_ ?_)))
      · refine ⟨by show m ≤ _; omega, hM.out.step (by omega) (by omega) _ ?_ _ e4.out⟩
        rw [dl.out, if_pos hab]
        exact congrArg (fun z : Int => z + 1) e3.out
      · show m < m + 1; omega
    · rename_i hab
      have hab : ¬ a.getD (k : Int).toNat Ty.str.dflt = b.getD (((m + 1 : Nat) : Int) - 1).toNat Ty.str.dflt := hab
      rw [ga.out, gb.out] at hab
      (refine Back.by ((m, M.set ((k : Int) * ((b.length : Int) + 1) + (((m + 1 : Nat) : Int) - 1)).toNat (max (M.getD (((k : Int) + 1) * ((b.length : Int) + 1) + (((m + 1 : Nat) : Int) - 1)).toNat (Ty.int .i64).dflt) (M.getD ((k : Int) * ((b.length : Int) + 1) + (((m + 1 : Nat) : Int) - 1 + 1)).toNat (Ty.int .i64).dflt)))) ?_ ?_ ?_; focus (refine Wk.keep ?_ ?_ <;> repeat' (first | exact True.intro | refine And.intro rfl ?_ | refine And.intro (congrArg (fun z : Int => AV.v false [Lf.d (.int .i64) z]) (by first | omega | (simp only [Int.natCast_add, List.length_cons, List.length_append, List.length_nil]; omega))) ?_ | refine And.intro ?_ ?_)))
      · refine ⟨by show m ≤ _; omega, hM.out.step (by omega) (by omega) _ ?_ _ e4.out⟩
        rw [dl.out, if_neg hab]
        have q1 : M.getD (((k : Int) + 1) * ((b.length : Int) + 1) + (((m + 1 : Nat) : Int) - 1)).toNat (Ty.int .i64).dflt = _ := e1.out
        have q2 : M.getD ((k : Int) * ((b.length : Int) + 1) + (((m + 1 : Nat) : Int) - 1 + 1)).toNat (Ty.int .i64).dflt = _ := e2.out
        rw [q1, q2]
        exact max_cast _ _
      · show m < m + 1; omega
  · rename_i h0
    obtain rfl : k = 0 := by omega
    refine loop_by (X := Nat × Nat × List Int) (fun x => [.put 0 (.v false [.d (.slice .str) a]), .put 1 (.v false [.d (.slice .str) b]), .put 5 (.v false [.p 5 0]), .put 6 (.v false [.p 6 0]), .put 7 (.v false [.fn 81 [6, 5]]), .put 11 (.v false [.o 143]), .put 12 (.v false [.d (.int .i64) (x.1 : Int)]), .put 13 (.v false [.d (.int .i64) (x.2.1 : Int)])])
      (fun x => [.put 5 (.box 3 [.d (.int .i64) ((b.length : Int) + 1)]), .put 6 (.box 100 [.o 22]), .put 22 (.row 3 (.int .i64) L), .put 143 (.row 3 (.int .i64) x.2.2)])
      (fun x => x.1 ≤ a.length ∧ x.2.1 ≤ b.length ∧ x.2.2.length ≤ x.1 + x.2.1 ∧ align a b = x.2.2 ++ align (a.drop x.1) (b.drop x.2.1)) (fun x => a.length - x.1 + (b.length - x.2.1)) (0, 0, []) ⟨Nat.zero_le _, Nat.zero_le _, Nat.zero_le _, rfl⟩ ?_ ?_
    · refine (Wk.nilrow 11 143 3 (.int .i64) rfl).trans ?_
      (refine Wk.keep ?_ ?_ <;> repeat' (first | exact True.intro | refine And.intro rfl ?_ | refine And.intro (congrArg (fun z : Int => AV.v false [Lf.d (.int .i64) z]) (by first | omega | (simp only [Int.natCast_add, List.length_cons, List.length_append, List.length_nil]; omega))) ?_ | refine And.intro ?_ ?_))
    rintro ⟨i, j, o⟩ ⟨hi, hj, ho, hal⟩
    dsimp only at hi hj ho hal ⊢
    replace hal := Lib.hid hal
    by_cases hia : i < a.length
    · by_cases hjb : j < b.length
      · have i1 := idx_in (i + 1) j b.length a.length hia hj ha hb ((i : Int) + 1) ((b.length : Int) + 1) (j : Int) (by omega) rfl (by omega)
        have i2 := idx_in i (j + 1) b.length a.length hi hjb ha hb (i : Int) ((b.length : Int) + 1) ((j : Int) + 1) (by omega) rfl (by omega)
        have hlen : (L.length : Int) = ((a.length : Int) + 1) * ((b.length : Int) + 1) := by rw [hL.out.1]; push_cast; rfl
        have e1 := hL.out.at (i + 1) j hia hj (.inl (Nat.zero_le _)) _ (idx_toNat (i + 1) j (b.length + 1) ((i : Int) + 1) ((b.length : Int) + 1) (j : Int) (by omega) rfl (by omega)) 0
        have e2 := hL.out.at i (j + 1) hi hjb (.inl (Nat.zero_le _)) _ (idx_toNat i (j + 1) (b.length + 1) (i : Int) ((b.length : Int) + 1) ((j : Int) + 1) (by omega) rfl (by omega)) 0
        have ga : a.getD (i : Int).toNat Ty.str.dflt = a[i] := by rw [Int.toNat_natCast, List.getD_eq_getElem?_getD, List.getElem?_eq_getElem hia]; rfl
        have gb : b.getD (j : Int).toNat Ty.str.dflt = b[j] := by rw [Int.toNat_natCast, List.getD_eq_getElem?_getD, List.getElem?_eq_getElem hjb]; rfl
        have da := drop_align a b i j hia hjb
        replace e1 := Lib.hid e1
        replace e2 := Lib.hid e2
        replace ga := Lib.hid ga
        replace gb := Lib.hid gb
        replace da := Lib.hid da
        (repeat' (first | (with_reducible refine Cend.go ?_) | (with_reducible refine Step.mk True.intro ?_) | (with_reducible refine Step.mk ?_ ?_; focus (((try simp only [true_and, and_true, and_self, kmin, kmax, decide_eq_true_eq, decide_eq_false_iff_not, castD_self, castL_self, List.length_cons, List.length_nil, List.length_append, Int.natCast_add] at *) <;> omega))) | (with_reducible refine Step.mk ?_ ?_) | (with_reducible refine Way.t1 ?_) | (with_reducible refine Way.f1 ?_) | ((with_reducible refine Way.dec (fun _ => ?_) (fun _ => ?_)) <;> try (exfalso; omega)) | (with_reducible refine Way.nt ?_) | (with_reducible refine Way.mk (fun _ => ?_) (fun _ => ?_)) | (with_reducible refine Drawn.mk (by kernel_rfl) ?_) | (refine Run.mk ?_)))
        · rename_i hab
          have hab : a.getD (i : Int).toNat Ty.str.dflt = b.getD (j : Int).toNat Ty.str.dflt := hab
          rw [ga.out, gb.out] at hab
          (refine Back.by ((i + 1, j + 1, o ++ [0])) ?_ ?_ ?_; focus (refine Wk.ren [(143, 112)] rfl ?_ ?_ <;> repeat' (first | exact True.intro | refine And.intro rfl ?_ | refine And.intro (congrArg (fun z : Int => AV.v false [Lf.d (.int .i64) z]) (by first | omega | (simp only [Int.natCast_add, List.length_cons, List.length_append, List.length_nil]; omega))) ?_ | refine And.intro ?_ ?_)))
          · refine ⟨hia, hjb, by simp only [List.length_append, List.length_cons, List.length_nil]; omega, ?_⟩
            dsimp only
            rw [hal.out, da.out, if_pos hab, List.append_assoc]
            rfl
          · show a.length - (i + 1) + (b.length - (j + 1)) < a.length - i + (b.length - j); omega
        · rename_i hab _ _ hge
          have hab : ¬ a.getD (i : Int).toNat Ty.str.dflt = b.getD (j : Int).toNat Ty.str.dflt := hab
          rw [ga.out, gb.out] at hab
          have q1 : L.getD (((i : Int) + 1) * ((b.length : Int) + 1) + (j : Int)).toNat (Ty.int .i64).dflt = _ := e1.out
          have q2 : L.getD ((i : Int) * ((b.length : Int) + 1) + ((j : Int) + 1)).toNat (Ty.int .i64).dflt = _ := e2.out
          rw [q1, q2] at hge
          (refine Back.by ((i + 1, j, o ++ [1])) ?_ ?_ ?_; focus (refine Wk.keep ?_ ?_ <;> repeat' (first | exact True.intro | refine And.intro rfl ?_ | refine And.intro (congrArg (fun z : Int => AV.v false [Lf.d (.int .i64) z]) (by first | omega | (simp only [Int.natCast_add, List.length_cons, List.length_append, List.length_nil]; omega))) ?_ | refine And.intro ?_ ?_)))
          · refine ⟨hia, hj, by simp only [List.length_append, List.length_cons, List.length_nil]; omega, ?_⟩
            dsimp only
            rw [hal.out, da.out, if_neg hab, if_pos (by omega), List.append_assoc]
            rfl
          · show a.length - (i + 1) + (b.length - j) < a.length - i + (b.length - j); omega
        · rename_i hab _ _ hge
          have hab : ¬ a.getD (i : Int).toNat Ty.str.dflt = b.getD (j : Int).toNat Ty.str.dflt := hab
          rw [ga.out, gb.out] at hab
          have q1 : L.getD (((i : Int) + 1) * ((b.length : Int) + 1) + (j : Int)).toNat (Ty.int .i64).dflt = _ := e1.out
          have q2 : L.getD ((i : Int) * ((b.length : Int) + 1) + ((j : Int) + 1)).toNat (Ty.int .i64).dflt = _ := e2.out
          rw [q1, q2] at hge
          (refine Back.by ((i, j + 1, o ++ [2])) ?_ ?_ ?_; focus (refine Wk.ren [(143, 85)] rfl ?_ ?_ <;> repeat' (first | exact True.intro | refine And.intro rfl ?_ | refine And.intro (congrArg (fun z : Int => AV.v false [Lf.d (.int .i64) z]) (by first | omega | (simp only [Int.natCast_add, List.length_cons, List.length_append, List.length_nil]; omega))) ?_ | refine And.intro ?_ ?_)))
          · refine ⟨hi, hjb, by simp only [List.length_append, List.length_cons, List.length_nil]; omega, ?_⟩
            dsimp only
            rw [hal.out, da.out, if_neg hab, if_neg (by omega), List.append_assoc]
            rfl
          · show a.length - i + (b.length - (j + 1)) < a.length - i + (b.length - j); omega
      · obtain rfl : j = b.length := by omega
        have da := drop_align_del a b i hia
        replace da := Lib.hid da
        (repeat' (first | (with_reducible refine Cend.go ?_) | (with_reducible refine Step.mk True.intro ?_) | (with_reducible refine Step.mk ?_ ?_; focus (((try simp only [true_and, and_true, and_self, kmin, kmax, decide_eq_true_eq, decide_eq_false_iff_not, castD_self, castL_self, List.length_cons, List.length_nil, List.length_append, Int.natCast_add] at *) <;> omega))) | (with_reducible refine Step.mk ?_ ?_) | (with_reducible refine Way.t1 ?_) | (with_reducible refine Way.f1 ?_) | ((with_reducible refine Way.dec (fun _ => ?_) (fun _ => ?_)) <;> try (exfalso; omega)) | (with_reducible refine Way.nt ?_) | (with_reducible refine Way.mk (fun _ => ?_) (fun _ => ?_)) | (with_reducible refine Drawn.mk (by kernel_rfl) ?_) | (refine Run.mk ?_)))
        (refine Back.by ((i + 1, b.length, o ++ [1])) ?_ ?_ ?_; focus (refine Wk.keep ?_ ?_ <;> repeat' (first | exact True.intro | refine And.intro rfl ?_ | refine And.intro (congrArg (fun z : Int => AV.v false [Lf.d (.int .i64) z]) (by first | omega | (simp only [Int.natCast_add, List.length_cons, List.length_append, List.length_nil]; omega))) ?_ | refine And.intro ?_ ?_)))
        · refine ⟨hia, hj, by simp only [List.length_append, List.length_cons, List.length_nil]; omega, ?_⟩
          dsimp only
          rw [hal.out, da.out, List.append_assoc]
          rfl
        · show a.length - (i + 1) + (b.length - b.length) < a.length - i + (b.length - b.length); omega
    · obtain rfl : i = a.length := by omega
      by_cases hjb : j < b.length
      · have da := drop_align_ins a b j hjb
        replace da := Lib.hid da
        (repeat' (first | (with_reducible refine Cend.go ?_) | (with_reducible refine Step.mk True.intro ?_) | (with_reducible refine Step.mk ?_ ?_; focus (((try simp only [true_and, and_true, and_self, kmin, kmax, decide_eq_true_eq, decide_eq_false_iff_not, castD_self, castL_self, List.length_cons, List.length_nil, List.length_append, Int.natCast_add] at *) <;> omega))) | (with_reducible refine Step.mk ?_ ?_) | (with_reducible refine Way.t1 ?_) | (with_reducible refine Way.f1 ?_) | ((with_reducible refine Way.dec (fun _ => ?_) (fun _ => ?_)) <;> try (exfalso; omega)) | (with_reducible refine Way.nt ?_) | (with_reducible refine Way.mk (fun _ => ?_) (fun _ => ?_)) | (with_reducible refine Drawn.mk (by kernel_rfl) ?_) | (refine Run.mk ?_)))
        (refine Back.by ((a.length, j + 1, o ++ [2])) ?_ ?_ ?_; focus (refine Wk.ren [(143, 85)] rfl ?_ ?_ <;> repeat' (first | exact True.intro | refine And.intro rfl ?_ | refine And.intro (congrArg (fun z : Int => AV.v false [Lf.d (.int .i64) z]) (by first | omega | (simp only [Int.natCast_add, List.length_cons, List.length_append, List.length_nil]; omega))) ?_ | refine And.intro ?_ ?_)))
        · refine ⟨hi, hjb, by simp only [List.length_append, List.length_cons, List.length_nil]; omega, ?_⟩
          dsimp only
          rw [hal.out, da.out, List.append_assoc]
          rfl
        · show a.length - a.length + (b.length - (j + 1)) < a.length - a.length + (b.length - j); omega
      · obtain rfl : j = b.length := by omega
        (repeat' (first | (with_reducible refine Cend.go ?_) | (with_reducible refine Step.mk True.intro ?_) | (with_reducible refine Step.mk ?_ ?_; focus (((try simp only [true_and, and_true, and_self, kmin, kmax, decide_eq_true_eq, decide_eq_false_iff_not, castD_self, castL_self, List.length_cons, List.length_nil, List.length_append, Int.natCast_add] at *) <;> omega))) | (with_reducible refine Step.mk ?_ ?_) | (with_reducible refine Way.t1 ?_) | (with_reducible refine Way.f1 ?_) | ((with_reducible refine Way.dec (fun _ => ?_) (fun _ => ?_)) <;> try (exfalso; omega)) | (with_reducible refine Way.nt ?_) | (with_reducible refine Way.mk (fun _ => ?_) (fun _ => ?_)) | (with_reducible refine Drawn.mk (by kernel_rfl) ?_) | (refine Run.mk ?_)))
        refine Ret.mk (.inl ⟨143, rfl, ?_⟩)
        rw [hal.out, List.drop_length, List.drop_length, align_nil, List.append_nil]
        rfl
end Go.Proofs.Ythacjpemeaekdaa
