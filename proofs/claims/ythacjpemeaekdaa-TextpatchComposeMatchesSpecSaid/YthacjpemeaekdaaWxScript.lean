/- The walk of diff.Script, with the collector run in place. -/
import Derived.Test.YthacjpemeaekdaaWxAlign
import Derived.Test.YthacjpemeaekdaaWxLin
import Derived.Test.YthacjpemeaekdaaColPure
namespace Go.Proofs.Ythacjpemeaekdaa
open Go.RowKit
set_option maxRecDepth 10000
set_option linter.unusedSimpArgs false

def scV (a b : List ByteArray) : List Hk := if bC a b = 0 then script a b else []
/-- the collector's objects: closed, and with an open hunk -/
def colH (bx : Nat) (at' : Int) (D : List Hk) : Option Hk → List HEnt
  | none => [.put bx (.box 99 [.o 91, .d (.int .i64) at', .d .bool false]), .put 91 (.row 76 tHk D)]
  | some h => [.put bx (.box 99 [.o 91, .d (.int .i64) at', .d .bool true]), .put 91 (.rox 76 tHk D [.d (.int .i64) h.1, .o 92, .o 93] []), .put 92 (.row 9 .str h.2.1), .put 93 (.row 9 .str h.2.2)]
def scI (a b : List ByteArray) (x : Nat × Nat × Nat × List Hk × Option Hk) : Prop :=
  x.1 ≤ (align a b).length ∧ x.2.1 ≤ a.length ∧ x.2.2.1 ≤ b.length ∧ (align a b).drop x.1 = align (a.drop x.2.1) (b.drop x.2.2.1) ∧
  script a b = x.2.2.2.1 ++ col x.2.1 x.2.2.2.2 (stp (align (a.drop x.2.1) (b.drop x.2.2.1)) (a.drop x.2.1) (b.drop x.2.2.1)) ∧ x.2.2.2.1.length + x.2.2.2.2.toList.length ≤ x.1 ∧
  (cuOld x.2.2.2.2).length ≤ x.2.1 ∧ (cuNew x.2.2.2.2).length ≤ x.2.2.1
def sp_Script : SpecF := pureSp false [.slice .str, .slice .str] (fun _ => True) (fun (a', b', _) => .tu [(true, [.d (.slice tHk) (scV a' b')]), (true, [.d (.int .i64) (bC a' b'), .d (.int .i64) (bI a' b')])])
theorem Script_sp : SpFact 33 sp_Script := by
  refine ⟨⟨Try.f33, rfl, rfl, rfl, pureSp_okF (env1_fine (sp := [(64, sp_Both), (65, sp_Align)]) (eq := [(24, true)])
    (inl := [(66, Try.f66), (67, Try.f67), (68, Try.f68), (69, Try.f69), (82, Try.f82)]) (cl := [])
    ⟨Both_sp, Align_sp, True.intro⟩ ⟨eq_fault, True.intro⟩ ⟨⟨rfl, rfl, rfl⟩, ⟨rfl, rfl, rfl⟩, ⟨rfl, rfl, rfl⟩, ⟨rfl, rfl, rfl⟩, ⟨rfl, rfl, rfl⟩, True.intro⟩) rfl (fun ⟨_, _, _⟩ _ => rfl) ?_⟩, pureSp_loc _ _ _ _⟩
  rintro ⟨a, b, u⟩ - -
  change List ByteArray at a b
  by_cases h0 : bC a b = 0
  · obtain ⟨ha, hb, hi⟩ := bgood h0
    have hal := (align_len a b).1
    have e0 : scV a b = script a b := if_pos h0
    dsimp only
    rw [e0]
    have hf : (decide (bC a b = 0) && decide (bI a b = 0)) = true := by rw [bfault, decide_eq_true h0]
    replace hf := Lib.hid hf
    rw [h0, hi]
    clear h0 hi
    (refine fnM_of rfl rfl rfl rfl ?_; dsimp only [params, argAV, Ty.leaves, Ty.isSt])
    (repeat' (first | (with_reducible refine Cend.go ?_) | (with_reducible refine Step.mk True.intro ?_) | (with_reducible refine Step.mk ?_ ?_; focus (((try simp only [true_and, and_true, and_self, kmin, kmax, decide_eq_true_eq, decide_eq_false_iff_not, castD_self, castL_self, List.length_cons, List.length_nil, List.length_append, Int.natCast_add] at *) <;> omega))) | (with_reducible refine Step.mk ?_ ?_) | (with_reducible refine Way.t1 ?_) | (with_reducible refine Way.f1 ?_) | ((with_reducible refine Way.dec (fun _ => ?_) (fun _ => ?_)) <;> try (exfalso; omega)) | (with_reducible refine Way.nt ?_) | ((with_reducible refine Way.mk (fun _ => ?_) (fun _ => ?_)) <;> try (exfalso; rename_i hw; first | exact Bool.noConfusion ((Go.RowKit.Hid.out hf).symm.trans hw) | exact Bool.noConfusion (hw.symm.trans (Go.RowKit.Hid.out hf)))) | (with_reducible refine Drawn.mk (by kernel_rfl) ?_) | (refine Run.mk ?_)))
    · refine loop_by (X := Nat × Nat × Nat × List Hk × Option Hk) (fun x => [.put 0 (.v false [.d (.slice .str) a]), .put 1 (.v false [.d (.slice .str) b]), .put 4 (.v false [.p 4 0]), .put 5 (.v false [.p 5 0]), .put 7 (.v false [.p 7 0]), .put 8 (.v false [.d (.int .i64) (x.2.1 : Int)]), .put 9 (.v false [.d (.int .i64) (x.2.2.1 : Int)]), .put 22 (.v false [.o 22]), .put 23 (.v false [.d (.int .i64) ((align a b).length : Int)]), .put 24 (.v false [.d (.int .i64) (x.1 : Int)])])
        (fun x => .put 4 (.box 41 [.nl]) :: .put 5 (.box 24 [.d (.int .i64) 0, .d (.int .i64) 0]) :: .put 22 (.row 3 (.int .i64) (align a b)) :: colH 7 x.2.1 x.2.2.2.1 x.2.2.2.2)
        (scI a b) (fun x => (align a b).length - x.1) (0, 0, 0, [], none) ⟨Nat.zero_le _, Nat.zero_le _, Nat.zero_le _, rfl, rfl, Nat.le_refl _, Nat.le_refl _, Nat.le_refl _⟩ ?_ ?_
      · refine (Wk.nilbox 7 0 91 76 tHk (T := 99) (cs := [.nl, .d (.int .i64) 0, .d .bool false]) rfl rfl rfl).trans ?_
        (refine Wk.keep ?_ ?_ <;> repeat' (first | exact True.intro | refine And.intro rfl ?_ | refine And.intro (congrArg (fun z : Int => AV.v false [Lf.d (.int .i64) z]) (by first | omega | (simp only [Int.natCast_add, List.length_cons, List.length_append, List.length_nil]; omega))) ?_ | refine And.intro ?_ ?_))
      rintro ⟨q, i, j, D, cu⟩ ⟨hq, hi, hj, hd, hs, hD, ho, hn⟩
      dsimp only at hq hi hj hd hs hD ho hn ⊢
      by_cases hqe : q < (align a b).length
      · have hv : (align a b).getD ((q : Int)).toNat (Ty.int .i64).dflt = (align a b)[q] := getD_int _ hqe
        have hcd : align (a.drop i) (b.drop j) = (align a b)[q] :: (align a b).drop (q + 1) := by rw [← hd, List.drop_eq_getElem_cons hqe]
        rcases align_next a b i j q hd hqe with ⟨e0, hi', hj', hab, hd', -⟩ | ⟨e0, hi', hd', -⟩ | ⟨e0, hj', hd', -⟩
        · rw [e0] at hv
          rw [e0, hd'] at hcd
          rw [hcd, stp_keep _ _ _ _ _ hi' hj', col_keep] at hs
          replace hd := Lib.hid hd
          replace hd' := Lib.hid hd'
          replace hs := Lib.hid hs
          replace e0 := Lib.hid e0
          replace hab := Lib.hid hab
          replace hcd := Lib.hid hcd
          rcases cu with _ | ⟨a0, o, n⟩
          · dsimp only [colH]
            (repeat' (first | (with_reducible refine Cend.go ?_) | (with_reducible refine Step.mk True.intro ?_) | (with_reducible refine Step.mk ?_ ?_; focus (((try simp only [true_and, and_true, and_self, kmin, kmax, decide_eq_true_eq, decide_eq_false_iff_not, castD_self, castL_self, List.length_cons, List.length_nil, List.length_append, Int.natCast_add] at *) <;> omega))) | (with_reducible refine Step.mk ?_ ?_) | (with_reducible refine Way.t1 ?_) | (with_reducible refine Way.f1 ?_) | ((with_reducible refine Way.dec (fun _ => ?_) (fun _ => ?_)) <;> try (exfalso; omega)) | (with_reducible refine Way.nt ?_) | (with_reducible refine Way.mk (fun _ => ?_) (fun _ => ?_)) | (with_reducible refine Drawn.mk (by kernel_rfl) ?_) | (refine Run.mk ?_)))
            (refine Back.by ((q + 1, i + 1, j + 1, D, none)) ?_ ?_ ?_; focus (refine Wk.keep ?_ ?_ <;> repeat' (first | exact True.intro | refine And.intro rfl ?_ | refine And.intro (congrArg (fun z : Int => AV.v false [Lf.d (.int .i64) z]) (by first | omega | (simp only [Int.natCast_add, List.length_cons, List.length_append, List.length_nil]; omega))) ?_ | refine And.intro ?_ ?_)))
            · exact ⟨hqe, hi', hj', hd'.out, hs.out, by dsimp only at hD ⊢; omega, Nat.zero_le _, Nat.zero_le _⟩
            · show _ - (q + 1) < _ - q; omega
          · dsimp only [colH]
            (repeat' (first | (with_reducible refine Cend.go ?_) | (with_reducible refine Step.mk True.intro ?_) | (with_reducible refine Step.mk ?_ ?_; focus (((try simp only [true_and, and_true, and_self, kmin, kmax, decide_eq_true_eq, decide_eq_false_iff_not, castD_self, castL_self, List.length_cons, List.length_nil, List.length_append, Int.natCast_add] at *) <;> omega))) | (with_reducible refine Step.mk ?_ ?_) | (with_reducible refine Way.t1 ?_) | (with_reducible refine Way.f1 ?_) | ((with_reducible refine Way.dec (fun _ => ?_) (fun _ => ?_)) <;> try (exfalso; omega)) | (with_reducible refine Way.nt ?_) | (with_reducible refine Way.mk (fun _ => ?_) (fun _ => ?_)) | (with_reducible refine Drawn.mk (by kernel_rfl) ?_) | (refine Run.mk ?_)))
            refine Back.by (q + 1, i + 1, j + 1, D ++ [(a0, o, n)], none) ?_ ?_ ?_
            · refine (Wk.pack 91 (x := (a0, o, n)) (l2 := []) (hl' := [.put 4 (.box 41 [.nl]), .put 5 (.box 24 [.d (.int .i64) 0, .d (.int .i64) 0]), .put 22 (.row 3 (.int .i64) (align a b)), .put 7 (.box 99 [.o 91, .d (.int .i64) ((i : Int) + 1), .d .bool false])]) rfl rfl ⟨rfl, rfl, rfl, rfl, True.intro⟩ rfl rfl).trans ?_
              (refine Wk.keep ?_ ?_ <;> repeat' (first | exact True.intro | refine And.intro rfl ?_ | refine And.intro (congrArg (fun z : Int => AV.v false [Lf.d (.int .i64) z]) (by first | omega | (simp only [Int.natCast_add, List.length_cons, List.length_append, List.length_nil]; omega))) ?_ | refine And.intro ?_ ?_))
            · exact ⟨hqe, hi', hj', hd'.out, by rw [hs.out, List.append_assoc]; rfl, by rw [List.length_append]; exact Nat.le_trans hD (Nat.le_succ _), Nat.zero_le _, Nat.zero_le _⟩
            · show _ - (q + 1) < _ - q; omega
        · rw [e0] at hv
          rw [e0, hd'] at hcd
          rw [hcd, stp_del _ _ _ _ _ hi', col_del] at hs
          have ga : a.getD ((i : Int)).toNat Ty.str.dflt = a[i] := by rw [Int.toNat_natCast, List.getD_eq_getElem?_getD, List.getElem?_eq_getElem hi']; rfl
          rw [← ga] at hs
          replace hd := Lib.hid hd
          replace hd' := Lib.hid hd'
          replace hs := Lib.hid hs
          replace e0 := Lib.hid e0
          replace ga := Lib.hid ga
          replace hcd := Lib.hid hcd
          rcases cu with _ | ⟨a0, o, n⟩
          · dsimp only [colH]
            (repeat' (first | (with_reducible refine Cend.go ?_) | (with_reducible refine Step.mk True.intro ?_) | (with_reducible refine Step.mk ?_ ?_; focus (((try simp only [true_and, and_true, and_self, kmin, kmax, decide_eq_true_eq, decide_eq_false_iff_not, castD_self, castL_self, List.length_cons, List.length_nil, List.length_append, Int.natCast_add] at *) <;> omega))) | (with_reducible refine Step.mk ?_ ?_) | (with_reducible refine Way.t1 ?_) | (with_reducible refine Way.f1 ?_) | ((with_reducible refine Way.dec (fun _ => ?_) (fun _ => ?_)) <;> try (exfalso; omega)) | (with_reducible refine Way.nt ?_) | (with_reducible refine Way.mk (fun _ => ?_) (fun _ => ?_)) | (with_reducible refine Drawn.mk (by kernel_rfl) ?_) | (refine Run.mk ?_)))
            refine Back.by (q + 1, i + 1, j, D, some ((i : Int), [a.getD ((i : Int)).toNat Ty.str.dflt], [])) ?_ ?_ ?_
            · refine (Wk.nilrox 50007020 2 93 9 .str rfl rfl rfl).trans ?_
              (refine Wk.ren [(91, 50007020), (92, 50014)] rfl ?_ ?_ <;> repeat' (first | exact True.intro | refine And.intro rfl ?_ | refine And.intro (congrArg (fun z : Int => AV.v false [Lf.d (.int .i64) z]) (by first | omega | (simp only [Int.natCast_add, List.length_cons, List.length_append, List.length_nil]; omega))) ?_ | refine And.intro ?_ ?_))
            · exact ⟨hqe, hi', hj, hd'.out, hs.out, by have hD : D.length + 0 ≤ q := hD; show D.length + 1 ≤ q + 1; omega, by show 1 ≤ i + 1; omega, Nat.zero_le _⟩
            · show _ - (q + 1) < _ - q; omega
          · dsimp only [colH]
            (repeat' (first | (with_reducible refine Cend.go ?_) | (with_reducible refine Step.mk True.intro ?_) | (with_reducible refine Step.mk ?_ ?_; focus (((try simp only [true_and, and_true, and_self, kmin, kmax, decide_eq_true_eq, decide_eq_false_iff_not, castD_self, castL_self, List.length_cons, List.length_nil, List.length_append, Int.natCast_add] at *) <;> omega))) | (with_reducible refine Step.mk ?_ ?_) | (with_reducible refine Way.t1 ?_) | (with_reducible refine Way.f1 ?_) | ((with_reducible refine Way.dec (fun _ => ?_) (fun _ => ?_)) <;> try (exfalso; omega)) | (with_reducible refine Way.nt ?_) | (with_reducible refine Way.mk (fun _ => ?_) (fun _ => ?_)) | (with_reducible refine Drawn.mk (by kernel_rfl) ?_) | (refine Run.mk ?_)))
            · show (o.length + 1) * 16 ≤ 140737488355328 ∧ o.length + 1 ≤ 1000000000000
              have ho : o.length ≤ i := ho
              omega
            (refine Back.by ((q + 1, i + 1, j, D, some (a0, o ++ [a.getD ((i : Int)).toNat Ty.str.dflt], n))) ?_ ?_ ?_; focus (refine Wk.ren [(92, 50014)] rfl ?_ ?_ <;> repeat' (first | exact True.intro | refine And.intro rfl ?_ | refine And.intro (congrArg (fun z : Int => AV.v false [Lf.d (.int .i64) z]) (by first | omega | (simp only [Int.natCast_add, List.length_cons, List.length_append, List.length_nil]; omega))) ?_ | refine And.intro ?_ ?_)))
            · exact ⟨hqe, hi', hj, hd'.out, hs.out, by have hD : D.length + 1 ≤ q := hD; show D.length + 1 ≤ q + 1; omega, by have ho : o.length ≤ i := ho; show (o ++ [_]).length ≤ i + 1; rw [List.length_append, List.length_singleton]; omega, hn⟩
            · show _ - (q + 1) < _ - q; omega
        · rw [e0] at hv
          rw [e0, hd'] at hcd
          rw [hcd, stp_ins _ _ _ _ _ hj', col_ins] at hs
          have gb : b.getD ((j : Int)).toNat Ty.str.dflt = b[j] := by rw [Int.toNat_natCast, List.getD_eq_getElem?_getD, List.getElem?_eq_getElem hj']; rfl
          rw [← gb] at hs
          replace hd := Lib.hid hd
          replace hd' := Lib.hid hd'
          replace hs := Lib.hid hs
          replace e0 := Lib.hid e0
          replace gb := Lib.hid gb
          replace hcd := Lib.hid hcd
          rcases cu with _ | ⟨a0, o, n⟩
          · dsimp only [colH]
            (repeat' (first | (with_reducible refine Cend.go ?_) | (with_reducible refine Step.mk True.intro ?_) | (with_reducible refine Step.mk ?_ ?_; focus (((try simp only [true_and, and_true, and_self, kmin, kmax, decide_eq_true_eq, decide_eq_false_iff_not, castD_self, castL_self, List.length_cons, List.length_nil, List.length_append, Int.natCast_add] at *) <;> omega))) | (with_reducible refine Step.mk ?_ ?_) | (with_reducible refine Way.t1 ?_) | (with_reducible refine Way.f1 ?_) | ((with_reducible refine Way.dec (fun _ => ?_) (fun _ => ?_)) <;> try (exfalso; omega)) | (with_reducible refine Way.nt ?_) | (with_reducible refine Way.mk (fun _ => ?_) (fun _ => ?_)) | (with_reducible refine Drawn.mk (by kernel_rfl) ?_) | (refine Run.mk ?_)))
            refine Back.by (q + 1, i, j + 1, D, some ((i : Int), [], [b.getD ((j : Int)).toNat Ty.str.dflt])) ?_ ?_ ?_
            · refine (Wk.nilrox 34007020 1 92 9 .str rfl rfl rfl).trans ?_
              (refine Wk.ren [(91, 34007020), (93, 34014)] rfl ?_ ?_ <;> repeat' (first | exact True.intro | refine And.intro rfl ?_ | refine And.intro (congrArg (fun z : Int => AV.v false [Lf.d (.int .i64) z]) (by first | omega | (simp only [Int.natCast_add, List.length_cons, List.length_append, List.length_nil]; omega))) ?_ | refine And.intro ?_ ?_))
            · exact ⟨hqe, hi, hj', hd'.out, hs.out, by have hD : D.length + 0 ≤ q := hD; show D.length + 1 ≤ q + 1; omega, Nat.zero_le _, by show 1 ≤ j + 1; omega⟩
            · show _ - (q + 1) < _ - q; omega
          · dsimp only [colH]
            (repeat' (first | (with_reducible refine Cend.go ?_) | (with_reducible refine Step.mk True.intro ?_) | (with_reducible refine Step.mk ?_ ?_; focus (((try simp only [true_and, and_true, and_self, kmin, kmax, decide_eq_true_eq, decide_eq_false_iff_not, castD_self, castL_self, List.length_cons, List.length_nil, List.length_append, Int.natCast_add] at *) <;> omega))) | (with_reducible refine Step.mk ?_ ?_) | (with_reducible refine Way.t1 ?_) | (with_reducible refine Way.f1 ?_) | ((with_reducible refine Way.dec (fun _ => ?_) (fun _ => ?_)) <;> try (exfalso; omega)) | (with_reducible refine Way.nt ?_) | (with_reducible refine Way.mk (fun _ => ?_) (fun _ => ?_)) | (with_reducible refine Drawn.mk (by kernel_rfl) ?_) | (refine Run.mk ?_)))
            · show (n.length + 1) * 16 ≤ 140737488355328 ∧ n.length + 1 ≤ 1000000000000
              have hn : n.length ≤ j := hn
              omega
            (refine Back.by ((q + 1, i, j + 1, D, some (a0, o, n ++ [b.getD ((j : Int)).toNat Ty.str.dflt]))) ?_ ?_ ?_; focus (refine Wk.ren [(93, 34014)] rfl ?_ ?_ <;> repeat' (first | exact True.intro | refine And.intro rfl ?_ | refine And.intro (congrArg (fun z : Int => AV.v false [Lf.d (.int .i64) z]) (by first | omega | (simp only [Int.natCast_add, List.length_cons, List.length_append, List.length_nil]; omega))) ?_ | refine And.intro ?_ ?_)))
            · exact ⟨hqe, hi, hj', hd'.out, hs.out, by have hD : D.length + 1 ≤ q := hD; show D.length + 1 ≤ q + 1; omega, ho, by have hn : n.length ≤ j := hn; show (n ++ [_]).length ≤ j + 1; rw [List.length_append, List.length_singleton]; omega⟩
            · show _ - (q + 1) < _ - q; omega
      · rw [← hd, List.drop_eq_nil_of_le (by omega)] at hs
        rcases cu with _ | ⟨a0, o, n⟩
        · dsimp only [colH]
          (repeat' (first | (with_reducible refine Cend.go ?_) | (with_reducible refine Step.mk True.intro ?_) | (with_reducible refine Step.mk ?_ ?_; focus (((try simp only [true_and, and_true, and_self, kmin, kmax, decide_eq_true_eq, decide_eq_false_iff_not, castD_self, castL_self, List.length_cons, List.length_nil, List.length_append, Int.natCast_add] at *) <;> omega))) | (with_reducible refine Step.mk ?_ ?_) | (with_reducible refine Way.t1 ?_) | (with_reducible refine Way.f1 ?_) | ((with_reducible refine Way.dec (fun _ => ?_) (fun _ => ?_)) <;> try (exfalso; omega)) | (with_reducible refine Way.nt ?_) | (with_reducible refine Way.mk (fun _ => ?_) (fun _ => ?_)) | (with_reducible refine Drawn.mk (by kernel_rfl) ?_) | (refine Run.mk ?_)))
          refine Ret.mk ?_
          rw [show script a b = D from hs.trans (List.append_nil D)]
          exact ⟨⟨rfl, .frz rfl, True.intro⟩, ⟨rfl, .same, .same, True.intro⟩, True.intro⟩
        · dsimp only [colH]
          (repeat' (first | (with_reducible refine Cend.go ?_) | (with_reducible refine Step.mk True.intro ?_) | (with_reducible refine Step.mk ?_ ?_; focus (((try simp only [true_and, and_true, and_self, kmin, kmax, decide_eq_true_eq, decide_eq_false_iff_not, castD_self, castL_self, List.length_cons, List.length_nil, List.length_append, Int.natCast_add] at *) <;> omega))) | (with_reducible refine Step.mk ?_ ?_) | (with_reducible refine Way.t1 ?_) | (with_reducible refine Way.f1 ?_) | ((with_reducible refine Way.dec (fun _ => ?_) (fun _ => ?_)) <;> try (exfalso; omega)) | (with_reducible refine Way.nt ?_) | (with_reducible refine Way.mk (fun _ => ?_) (fun _ => ?_)) | (with_reducible refine Drawn.mk (by kernel_rfl) ?_) | (refine Run.mk ?_)))
          refine Ret.mk ?_
          rw [show script a b = D ++ [(a0, o, n)] from hs]
          exact ⟨⟨rfl, .frz rfl, True.intro⟩, ⟨rfl, .same, .same, True.intro⟩, True.intro⟩
  · have e0 : scV a b = [] := if_neg h0
    have hf : (decide (bC a b = 0) && decide (bI a b = 0)) = false := by rw [bfault, decide_eq_false h0]
    dsimp only
    rw [e0]
    replace hf := Lib.hid hf
    clear h0
    (refine fnM_of rfl rfl rfl rfl ?_; dsimp only [params, argAV, Ty.leaves, Ty.isSt])
    (repeat' (first | (with_reducible refine Cend.go ?_) | (with_reducible refine Step.mk True.intro ?_) | (with_reducible refine Step.mk ?_ ?_; focus (((try simp only [true_and, and_true, and_self, kmin, kmax, decide_eq_true_eq, decide_eq_false_iff_not, castD_self, castL_self, List.length_cons, List.length_nil, List.length_append, Int.natCast_add] at *) <;> omega))) | (with_reducible refine Step.mk ?_ ?_) | (with_reducible refine Way.t1 ?_) | (with_reducible refine Way.f1 ?_) | ((with_reducible refine Way.dec (fun _ => ?_) (fun _ => ?_)) <;> try (exfalso; omega)) | (with_reducible refine Way.nt ?_) | ((with_reducible refine Way.mk (fun _ => ?_) (fun _ => ?_)) <;> try (exfalso; rename_i hw; first | exact Bool.noConfusion ((Go.RowKit.Hid.out hf).symm.trans hw) | exact Bool.noConfusion (hw.symm.trans (Go.RowKit.Hid.out hf)))) | (with_reducible refine Drawn.mk (by kernel_rfl) ?_) | (refine Run.mk ?_)))
    refine Ret.mk ?_
    exact ⟨⟨rfl, .frz rfl, True.intro⟩, ⟨rfl, .same, .same, True.intro⟩, True.intro⟩
end Go.Proofs.Ythacjpemeaekdaa
