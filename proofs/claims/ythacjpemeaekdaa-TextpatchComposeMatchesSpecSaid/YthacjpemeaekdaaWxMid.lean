/- The walk of textpatch.midway. -/
import Derived.Test.YthacjpemeaekdaaWxComm
import Derived.Test.YthacjpemeaekdaaComPure
namespace Go.Proofs.Ythacjpemeaekdaa
open Go.RowKit
set_option maxRecDepth 10000
set_option linter.unusedSimpArgs false

@[reducible] def tMid : Ty := .st (.pair .bool (.pair .str (.slice .str)))
theorem insS_drop {l : List ByteArray} {j : Nat} (h : j < l.length) (S : MS) : insS (l.drop j) S = insS (l.drop (j + 1)) (addS S true l[j]) := by
  rw [List.drop_eq_getElem_cons h]; rfl
theorem midF_drop {p : List Hk} {k : Nat} (h : k < p.length) (a : Int) (S : MS) : midF a (p.drop k) S = midF (hkEnd p[k]) (p.drop (k + 1)) (insS p[k].2.2 (goneS p[k].2.1 (plainS (p[k].1 - a).toNat S))) := by
  rw [List.drop_eq_getElem_cons h]; rfl
def sp_midway : SpecF := pureSp false [tPat] (fun (p', _) => (∀ h ∈ p', HkOk h) ∧ p'.length ≤ 130) (fun (p', _) => .v false [.d (.slice tMid) (midF 0 p' ([], [])).1])
theorem midway_sp : SpFact 44 sp_midway := by
  refine ⟨⟨Try.f44, rfl, rfl, rfl, pureSp_okF (env1_fine (sp := [(55, sp_End)]) (eq := [])
    (inl := [(75, Try.f75)]) (cl := []) ⟨End_sp, True.intro⟩ True.intro ⟨⟨rfl, rfl, rfl⟩, True.intro⟩) rfl (fun ⟨_, _⟩ _ => rfl) ?_⟩, pureSp_loc _ _ _ _⟩
  rintro ⟨p, u⟩ - ⟨hok, hlen⟩
  change List Hk at p
  replace hlen : p.length ≤ 130 := hlen
  replace hok : ∀ h ∈ p, HkOk h := hok
  replace hok := Lib.hid hok
  (refine fnM_of rfl rfl rfl rfl ?_; dsimp only [params, argAV, Ty.leaves, Ty.isSt])
  (repeat' (first | (with_reducible refine Cend.go ?_) | (with_reducible refine Step.mk True.intro ?_) | (with_reducible refine Step.mk ?_ ?_; focus (((try simp only [true_and, and_true, and_self, kmin, kmax, decide_eq_true_eq, decide_eq_false_iff_not, castD_self, castL_self, List.length_cons, List.length_nil, List.length_append, Int.natCast_add] at *) <;> omega))) | (with_reducible refine Step.mk ?_ ?_) | (with_reducible refine Way.t1 ?_) | (with_reducible refine Way.f1 ?_) | ((with_reducible refine Way.dec (fun _ => ?_) (fun _ => ?_)) <;> try (exfalso; omega)) | (with_reducible refine Way.nt ?_) | (with_reducible refine Way.mk (fun _ => ?_) (fun _ => ?_)) | (with_reducible refine Drawn.mk (by kernel_rfl) ?_) | (refine Run.mk ?_)))
  refine loop_by (X := Nat × Int × MS) (fun x => [.put 3 (.v false [.p 3 0]), .put 4 (.v false [.p 4 0]), .put 5 (.v false [.fn 75 [4, 3]]), .put 6 (.v false [.d (.int .i64) x.2.1]), .put 13 (.v false [.d (.slice tHk) p]), .put 14 (.v false [.d (.int .i64) (p.length : Int)]), .put 15 (.v false [.d (.int .i64) (x.1 : Int)])])
    (fun x => [.put 3 (.box 73 [.o 91]), .put 91 (.row 78 tMid x.2.2.1), .put 4 (.box 22 [.o 92]), .put 92 (.row 9 .str x.2.2.2)]) (fun x => x.1 ≤ p.length ∧ midF 0 p ([], []) = midF x.2.1 (p.drop x.1) x.2.2 ∧ 0 ≤ x.2.1 ∧ x.2.1 ≤ 240 ∧ x.2.2.1.length ≤ 360 * x.1 ∧ x.2.2.2.length ≤ 120 * x.1) (fun x => p.length - x.1) (0, 0, [], []) ⟨Nat.zero_le _, rfl, Int.le_refl _, by decide, Nat.zero_le _, Nat.zero_le _⟩ ?_ ?_
  · refine (Wk.nilbox 3 0 91 78 tMid (T := 73) (cs := [.nl]) rfl rfl rfl).trans ((Wk.nilbox 4 0 92 9 .str (T := 22) (cs := [.nl]) rfl rfl rfl).trans ?_)
    (refine Wk.keep ?_ ?_ <;> repeat' (first | exact True.intro | refine And.intro rfl ?_ | refine And.intro (congrArg (fun z : Int => AV.v false [Lf.d (.int .i64) z]) (by first | omega | (simp only [Int.natCast_add, List.length_cons, List.length_append, List.length_nil]; omega))) ?_ | refine And.intro ?_ ?_))
  rintro ⟨k, a, O, G⟩ ⟨hk, hW, ha0, ha1, hO, hG⟩
  dsimp only at hk hW ha0 ha1 hO hG ⊢
  by_cases hlt : k < p.length
  · have hg := getD_at (a := p) tHk.dflt hlt
    have ho := hok.out p[k] (List.getElem_mem hlt)
    rw [midF_drop hlt, ← hg] at hW
    rw [← hg] at ho
    have ho' := ho
    obtain ⟨o1, o2, o3, o4⟩ := ho'
    replace hg := Lib.hid hg
    replace hW := Lib.hid hW
    replace ho := Lib.hid ho
    (repeat' (first | (with_reducible refine Cend.go ?_) | (with_reducible refine Step.mk True.intro ?_) | (with_reducible refine Step.mk ?_ ?_; focus (((try simp only [true_and, and_true, and_self, kmin, kmax, decide_eq_true_eq, decide_eq_false_iff_not, castD_self, castL_self, List.length_cons, List.length_nil, List.length_append, Int.natCast_add] at *) <;> omega))) | (with_reducible refine Step.mk ?_ ?_) | (with_reducible refine Way.t1 ?_) | (with_reducible refine Way.f1 ?_) | ((with_reducible refine Way.dec (fun _ => ?_) (fun _ => ?_)) <;> try (exfalso; omega)) | (with_reducible refine Way.nt ?_) | (with_reducible refine Way.mk (fun _ => ?_) (fun _ => ?_)) | (with_reducible refine Drawn.mk (by kernel_rfl) ?_) | (refine Run.mk ?_)))
    refine loop_by (X := Int × MS) (fun x => [.put 3 (.v false [.p 3 0]), .put 4 (.v false [.p 4 0]), .put 5 (.v false [.fn 75 [4, 3]]), .put 6 (.v false [.d (.int .i64) x.1]), .put 13 (.v false [.d (.slice tHk) p]), .put 14 (.v false [.d (.int .i64) (p.length : Int)]), .put 15 (.v false [.d (.int .i64) (k : Int)]), .put 8 (.v false [.p 8 0])])
      (fun x => [.put 3 (.box 73 [.o 91]), .put 91 (.row 78 tMid x.2.1), .put 4 (.box 22 [.o 92]), .put 92 (.row 9 .str x.2.2), .put 8 (.box 76 (tHk.leaves (p.getD ((k : Int)).toNat tHk.dflt)))]) (fun x => plainS ((p.getD ((k : Int)).toNat tHk.dflt).1 - a).toNat (O, G) = plainS ((p.getD ((k : Int)).toNat tHk.dflt).1 - x.1).toNat x.2 ∧ a ≤ x.1 ∧ (x.1 ≤ a ∨ x.1 ≤ (p.getD ((k : Int)).toNat tHk.dflt).1) ∧ (x.2.1.length : Int) ≤ O.length + (x.1 - a) ∧ x.2.2.length ≤ G.length) (fun x => ((p.getD ((k : Int)).toNat tHk.dflt).1 - x.1).toNat) (a, O, G) ⟨rfl, Int.le_refl _, .inl (Int.le_refl _), by dsimp only; omega, Nat.le_refl _⟩ ?_ ?_
    · (refine Wk.keep ?_ ?_ <;> repeat' (first | exact True.intro | refine And.intro rfl ?_ | refine And.intro (congrArg (fun z : Int => AV.v false [Lf.d (.int .i64) z]) (by first | omega | (simp only [Int.natCast_add, List.length_cons, List.length_append, List.length_nil]; omega))) ?_ | refine And.intro ?_ ?_))
    rintro ⟨b, O2, G⟩ ⟨hP, hb1, hb2, hO2, hG2⟩
    dsimp only at hP hb1 hb2 hO2 hG2 ⊢
    by_cases hbl : b < (p.getD ((k : Int)).toNat tHk.dflt).1
    · have hst : plainS ((p.getD ((k : Int)).toNat tHk.dflt).1 - b).toNat (O2, G) = plainS ((p.getD ((k : Int)).toNat tHk.dflt).1 - (b + 1)).toNat (O2 ++ [(false, ByteArray.empty, G)], []) := by
        rw [show ((p.getD ((k : Int)).toNat tHk.dflt).1 - b).toNat = ((p.getD ((k : Int)).toNat tHk.dflt).1 - (b + 1)).toNat + 1 by omega]; rfl
      rw [hst] at hP
      replace hP := Lib.hid hP
      clear hst
      (repeat' (first | (with_reducible refine Cend.go ?_) | (with_reducible refine Step.mk True.intro ?_) | (with_reducible refine Step.mk ?_ ?_; focus (((try simp only [true_and, and_true, and_self, kmin, kmax, decide_eq_true_eq, decide_eq_false_iff_not, castD_self, castL_self, List.length_cons, List.length_nil, List.length_append, Int.natCast_add] at *) <;> omega))) | (with_reducible refine Step.mk ?_ ?_) | (with_reducible refine Way.t1 ?_) | (with_reducible refine Way.f1 ?_) | ((with_reducible refine Way.dec (fun _ => ?_) (fun _ => ?_)) <;> try (exfalso; omega)) | (with_reducible refine Way.nt ?_) | (with_reducible refine Way.mk (fun _ => ?_) (fun _ => ?_)) | (with_reducible refine Drawn.mk (by kernel_rfl) ?_) | (refine Run.mk ?_)))
      refine Back.by (b + 1, O2 ++ [(false, ByteArray.empty, G)], []) ?_ ?_ ?_
      · refine (Wk.pack 28009 (t := tMid) (x := (false, ByteArray.empty, G)) (l2 := []) (hl' := [.put 3 (.box 73 [.o 28009]), .put 4 (.box 22 [.nl]), .put 8 (.box 76 (tHk.leaves (p.getD ((k : Int)).toNat tHk.dflt)))]) rfl rfl ⟨rfl, rfl, rfl, True.intro⟩ rfl rfl).trans ((Wk.nilbox 4 0 92 9 .str (T := 22) (cs := [.nl]) rfl rfl rfl).trans ?_)
        (refine Wk.ren [(91, 28009)] rfl ?_ ?_ <;> repeat' (first | exact True.intro | refine And.intro rfl ?_ | refine And.intro (congrArg (fun z : Int => AV.v false [Lf.d (.int .i64) z]) (by first | omega | (simp only [Int.natCast_add, List.length_cons, List.length_append, List.length_nil]; omega))) ?_ | refine And.intro ?_ ?_))
      · exact ⟨hP.out, by dsimp only; omega, .inr (by dsimp only; omega), by dsimp only; rw [List.length_append, List.length_singleton]; omega, Nat.zero_le _⟩
      · show ((p.getD ((k : Int)).toNat tHk.dflt).1 - (b + 1)).toNat < ((p.getD ((k : Int)).toNat tHk.dflt).1 - b).toNat; omega
    · rw [show ((p.getD ((k : Int)).toNat tHk.dflt).1 - b).toNat = 0 by omega] at hP
      have hP : plainS ((p.getD ((k : Int)).toNat tHk.dflt).1 - a).toNat (O, _) = (O2, G) := hP
      have hW := hW.out
      rw [hP] at hW
      have hW : _ = midF (hkEnd (p.getD ((k : Int)).toNat tHk.dflt)) (p.drop (k + 1)) (insS (p.getD ((k : Int)).toNat tHk.dflt).2.2 (O2, G ++ (p.getD ((k : Int)).toNat tHk.dflt).2.1)) := hW
      have hO3 : O2.length ≤ 360 * k + 120 := by omega
      have hG3 : G.length ≤ 120 * k := by omega
      replace hW := Lib.hid hW
      clear hP hO2 hG2 hO hG
      (repeat' (first | (with_reducible refine Cend.go ?_) | (with_reducible refine Step.mk True.intro ?_) | (with_reducible refine Step.mk ?_ ?_; focus (((try simp only [true_and, and_true, and_self, kmin, kmax, decide_eq_true_eq, decide_eq_false_iff_not, castD_self, castL_self, List.length_cons, List.length_nil, List.length_append, Int.natCast_add] at *) <;> omega))) | (with_reducible refine Step.mk ?_ ?_) | (with_reducible refine Way.t1 ?_) | (with_reducible refine Way.f1 ?_) | ((with_reducible refine Way.dec (fun _ => ?_) (fun _ => ?_)) <;> try (exfalso; omega)) | (with_reducible refine Way.nt ?_) | (with_reducible refine Way.mk (fun _ => ?_) (fun _ => ?_)) | (with_reducible refine Drawn.mk (by kernel_rfl) ?_) | (refine Run.mk ?_)))
      refine loop_by (X := Nat × MS) (fun x => [.put 3 (.v false [.p 3 0]), .put 4 (.v false [.p 4 0]), .put 5 (.v false [.fn 75 [4, 3]]), .put 13 (.v false [.d (.slice tHk) p]), .put 14 (.v false [.d (.int .i64) (p.length : Int)]), .put 15 (.v false [.d (.int .i64) (k : Int)]), .put 8 (.v false [.p 8 0]), .put 33 (.v false [.d (.slice .str) (p.getD ((k : Int)).toNat tHk.dflt).2.2]), .put 34 (.v false [.d (.int .i64) ((p.getD ((k : Int)).toNat tHk.dflt).2.2.length : Int)]), .put 35 (.v false [.d (.int .i64) (x.1 : Int)])])
        (fun x => [.put 3 (.box 73 [.o 91]), .put 91 (.row 78 tMid x.2.1), .put 4 (.box 22 [.o 92]), .put 92 (.row 9 .str x.2.2), .put 8 (.box 76 (tHk.leaves (p.getD ((k : Int)).toNat tHk.dflt)))]) (fun x => x.1 ≤ (p.getD ((k : Int)).toNat tHk.dflt).2.2.length ∧ insS (p.getD ((k : Int)).toNat tHk.dflt).2.2 (O2, G ++ (p.getD ((k : Int)).toNat tHk.dflt).2.1) = insS ((p.getD ((k : Int)).toNat tHk.dflt).2.2.drop x.1) x.2 ∧ x.2.1.length ≤ O2.length + x.1 ∧ x.2.2.length ≤ 120 * (k + 1)) (fun x => (p.getD ((k : Int)).toNat tHk.dflt).2.2.length - x.1) (0, O2, G ++ (p.getD ((k : Int)).toNat tHk.dflt).2.1) ⟨Nat.zero_le _, rfl, Nat.le_refl _, by dsimp only; rw [List.length_append]; omega⟩ ?_ ?_
      · (refine Wk.ren [(92, 31)] rfl ?_ ?_ <;> repeat' (first | exact True.intro | refine And.intro rfl ?_ | refine And.intro (congrArg (fun z : Int => AV.v false [Lf.d (.int .i64) z]) (by first | omega | (simp only [Int.natCast_add, List.length_cons, List.length_append, List.length_nil]; omega))) ?_ | refine And.intro ?_ ?_))
      rintro ⟨j, O3, G⟩ ⟨hj, hI, hO4, hG4⟩
      dsimp only at hj hI hO4 hG4 ⊢
      by_cases hjl : j < (p.getD ((k : Int)).toNat tHk.dflt).2.2.length
      · have hgx := getD_at (a := (p.getD ((k : Int)).toNat tHk.dflt).2.2) Ty.str.dflt hjl
        rw [insS_drop hjl, ← hgx] at hI
        replace hgx := Lib.hid hgx
        replace hI := Lib.hid hI
        (repeat' (first | (with_reducible refine Cend.go ?_) | (with_reducible refine Step.mk True.intro ?_) | (with_reducible refine Step.mk ?_ ?_; focus (((try simp only [true_and, and_true, and_self, kmin, kmax, decide_eq_true_eq, decide_eq_false_iff_not, castD_self, castL_self, List.length_cons, List.length_nil, List.length_append, Int.natCast_add] at *) <;> omega))) | (with_reducible refine Step.mk ?_ ?_) | (with_reducible refine Way.t1 ?_) | (with_reducible refine Way.f1 ?_) | ((with_reducible refine Way.dec (fun _ => ?_) (fun _ => ?_)) <;> try (exfalso; omega)) | (with_reducible refine Way.nt ?_) | (with_reducible refine Way.mk (fun _ => ?_) (fun _ => ?_)) | (with_reducible refine Drawn.mk (by kernel_rfl) ?_) | (refine Run.mk ?_)))
        refine Back.by (j + 1, O3 ++ [(true, ((p.getD ((k : Int)).toNat tHk.dflt).2.2.getD ((j : Int)).toNat Ty.str.dflt), G)], []) ?_ ?_ ?_
        · refine (Wk.pack 43009 (t := tMid) (x := (true, ((p.getD ((k : Int)).toNat tHk.dflt).2.2.getD ((j : Int)).toNat Ty.str.dflt), G)) (l2 := []) (hl' := [.put 3 (.box 73 [.o 43009]), .put 4 (.box 22 [.nl]), .put 8 (.box 76 (tHk.leaves (p.getD ((k : Int)).toNat tHk.dflt)))]) rfl rfl ⟨rfl, rfl, rfl, True.intro⟩ rfl rfl).trans ((Wk.nilbox 4 0 92 9 .str (T := 22) (cs := [.nl]) rfl rfl rfl).trans ?_)
          (refine Wk.ren [(91, 43009)] rfl ?_ ?_ <;> repeat' (first | exact True.intro | refine And.intro rfl ?_ | refine And.intro (congrArg (fun z : Int => AV.v false [Lf.d (.int .i64) z]) (by first | omega | (simp only [Int.natCast_add, List.length_cons, List.length_append, List.length_nil]; omega))) ?_ | refine And.intro ?_ ?_))
        · exact ⟨hjl, hI.out, by dsimp only; rw [List.length_append, List.length_singleton]; omega, Nat.zero_le _⟩
        · show (p.getD ((k : Int)).toNat tHk.dflt).2.2.length - (j + 1) < (p.getD ((k : Int)).toNat tHk.dflt).2.2.length - j; omega
      · rw [List.drop_eq_nil_of_le (by omega)] at hI
        have hI : _ = (O3, G) := hI
        have hW := hW.out
        rw [hI] at hW
        replace hW := Lib.hid hW
        clear hI
        (repeat' (first | (with_reducible refine Cend.go ?_) | (with_reducible refine Step.mk True.intro ?_) | (with_reducible refine Step.mk ?_ ?_; focus (((try simp only [true_and, and_true, and_self, kmin, kmax, decide_eq_true_eq, decide_eq_false_iff_not, castD_self, castL_self, List.length_cons, List.length_nil, List.length_append, Int.natCast_add] at *) <;> omega))) | (with_reducible refine Step.mk ?_ ?_) | (with_reducible refine Way.t1 ?_) | (with_reducible refine Way.f1 ?_) | ((with_reducible refine Way.dec (fun _ => ?_) (fun _ => ?_)) <;> try (exfalso; omega)) | (with_reducible refine Way.nt ?_) | (with_reducible refine Way.mk (fun _ => ?_) (fun _ => ?_)) | (with_reducible refine Drawn.mk (by kernel_rfl) ?_) | (refine Run.mk ?_)))
        · exact ho.out
        · (refine Back.by ((k + 1, hkEnd (p.getD ((k : Int)).toNat tHk.dflt), O3, G)) ?_ ?_ ?_; focus (refine Wk.keep ?_ ?_ <;> repeat' (first | exact True.intro | refine And.intro rfl ?_ | refine And.intro (congrArg (fun z : Int => AV.v false [Lf.d (.int .i64) z]) (by first | omega | (simp only [Int.natCast_add, List.length_cons, List.length_append, List.length_nil]; omega))) ?_ | refine And.intro ?_ ?_)))
          · exact ⟨hlt, hW.out, by unfold hkEnd; dsimp only; omega, by unfold hkEnd; dsimp only; omega, by dsimp only; omega, hG4⟩
          · show p.length - (k + 1) < p.length - k; omega
  · rw [List.drop_eq_nil_of_le (by omega)] at hW
    have hW : _ = plainS 480 (O, G) := hW
    have hO' : O.length ≤ 46800 := by omega
    have hG' : G.length ≤ 15600 := by omega
    replace hW := Lib.hid hW
    clear hO hG
    (repeat' (first | (with_reducible refine Cend.go ?_) | (with_reducible refine Step.mk True.intro ?_) | (with_reducible refine Step.mk ?_ ?_; focus (((try simp only [true_and, and_true, and_self, kmin, kmax, decide_eq_true_eq, decide_eq_false_iff_not, castD_self, castL_self, List.length_cons, List.length_nil, List.length_append, Int.natCast_add] at *) <;> omega))) | (with_reducible refine Step.mk ?_ ?_) | (with_reducible refine Way.t1 ?_) | (with_reducible refine Way.f1 ?_) | ((with_reducible refine Way.dec (fun _ => ?_) (fun _ => ?_)) <;> try (exfalso; omega)) | (with_reducible refine Way.nt ?_) | (with_reducible refine Way.mk (fun _ => ?_) (fun _ => ?_)) | (with_reducible refine Drawn.mk (by kernel_rfl) ?_) | (refine Run.mk ?_)))
    refine loop_by (X := Nat × MS) (fun x => [.put 3 (.v false [.p 3 0]), .put 4 (.v false [.p 4 0]), .put 5 (.v false [.fn 75 [4, 3]]), .put 47 (.v false [.d (.int .i64) (x.1 : Int)])])
      (fun x => [.put 3 (.box 73 [.o 91]), .put 91 (.row 78 tMid x.2.1), .put 4 (.box 22 [.o 92]), .put 92 (.row 9 .str x.2.2)]) (fun x => x.1 ≤ 480 ∧ plainS 480 (O, G) = plainS (480 - x.1) x.2 ∧ x.2.1.length ≤ O.length + x.1) (fun x => 480 - x.1) (0, O, G) ⟨Nat.zero_le _, rfl, Nat.le_refl _⟩ ?_ ?_
    · (refine Wk.keep ?_ ?_ <;> repeat' (first | exact True.intro | refine And.intro rfl ?_ | refine And.intro (congrArg (fun z : Int => AV.v false [Lf.d (.int .i64) z]) (by first | omega | (simp only [Int.natCast_add, List.length_cons, List.length_append, List.length_nil]; omega))) ?_ | refine And.intro ?_ ?_))
    rintro ⟨i, O3, G⟩ ⟨hi, hP, hO3⟩
    dsimp only at hi hP hO3 ⊢
    by_cases hil : i < 480
    · have hst : plainS (480 - i) (O3, G) = plainS (480 - (i + 1)) (O3 ++ [(false, ByteArray.empty, G)], []) := by
        rw [show 480 - i = (480 - (i + 1)) + 1 by omega]; rfl
      rw [hst] at hP
      replace hP := Lib.hid hP
      clear hst
      (repeat' (first | (with_reducible refine Cend.go ?_) | (with_reducible refine Step.mk True.intro ?_) | (with_reducible refine Step.mk ?_ ?_; focus (((try simp only [true_and, and_true, and_self, kmin, kmax, decide_eq_true_eq, decide_eq_false_iff_not, castD_self, castL_self, List.length_cons, List.length_nil, List.length_append, Int.natCast_add] at *) <;> omega))) | (with_reducible refine Step.mk ?_ ?_) | (with_reducible refine Way.t1 ?_) | (with_reducible refine Way.f1 ?_) | ((with_reducible refine Way.dec (fun _ => ?_) (fun _ => ?_)) <;> try (exfalso; omega)) | (with_reducible refine Way.nt ?_) | (with_reducible refine Way.mk (fun _ => ?_) (fun _ => ?_)) | (with_reducible refine Drawn.mk (by kernel_rfl) ?_) | (refine Run.mk ?_)))
      refine Back.by (i + 1, O3 ++ [(false, ByteArray.empty, G)], []) ?_ ?_ ?_
      · refine (Wk.pack 52009 (t := tMid) (x := (false, ByteArray.empty, G)) (l2 := []) (hl' := [.put 3 (.box 73 [.o 52009]), .put 4 (.box 22 [.nl])]) rfl rfl ⟨rfl, rfl, True.intro⟩ rfl rfl).trans ((Wk.nilbox 4 0 92 9 .str (T := 22) (cs := [.nl]) rfl rfl rfl).trans ?_)
        (refine Wk.ren [(91, 52009)] rfl ?_ ?_ <;> repeat' (first | exact True.intro | refine And.intro rfl ?_ | refine And.intro (congrArg (fun z : Int => AV.v false [Lf.d (.int .i64) z]) (by first | omega | (simp only [Int.natCast_add, List.length_cons, List.length_append, List.length_nil]; omega))) ?_ | refine And.intro ?_ ?_))
      · exact ⟨hil, hP.out, by dsimp only; rw [List.length_append, List.length_singleton]; omega⟩
      · show 480 - (i + 1) < 480 - i; omega
    · obtain rfl : i = 480 := by omega
      have hP : plainS 480 (O, _) = (O3, G) := hP
      have hW := hW.out
      rw [hP] at hW
      replace hW := Lib.hid hW
      (repeat' (first | (with_reducible refine Cend.go ?_) | (with_reducible refine Step.mk True.intro ?_) | (with_reducible refine Step.mk ?_ ?_; focus (((try simp only [true_and, and_true, and_self, kmin, kmax, decide_eq_true_eq, decide_eq_false_iff_not, castD_self, castL_self, List.length_cons, List.length_nil, List.length_append, Int.natCast_add] at *) <;> omega))) | (with_reducible refine Step.mk ?_ ?_) | (with_reducible refine Way.t1 ?_) | (with_reducible refine Way.f1 ?_) | ((with_reducible refine Way.dec (fun _ => ?_) (fun _ => ?_)) <;> try (exfalso; omega)) | (with_reducible refine Way.nt ?_) | (with_reducible refine Way.mk (fun _ => ?_) (fun _ => ?_)) | (with_reducible refine Drawn.mk (by kernel_rfl) ?_) | (refine Run.mk ?_)))
      refine Ret.mk ?_
      rw [hW.out]
      exact ⟨rfl, .frz rfl, True.intro⟩
end Go.Proofs.Ythacjpemeaekdaa
