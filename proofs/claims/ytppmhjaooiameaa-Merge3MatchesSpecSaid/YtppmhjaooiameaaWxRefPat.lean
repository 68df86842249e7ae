/- The walks of the reference's PatchOf, Script, Kept, Distance. -/
import Derived.Test.YtppmhjaooiameaaWxRefAl
import Derived.Test.YtppmhjaooiameaaColPure
import Derived.Test.YtppmhjaooiameaaWxBase
namespace Go.Proofs.Ytppmhjaooiameaa
open Go.RowKit
set_option maxRecDepth 10000
set_option linter.unusedSimpArgs false

def patH (at' : Int) (D : List Hk) : Option Hk → List HEnt
  | none => [.put 3 (.box 44 [.o 91]), .put 91 (.row 85 tHk D)]
  | some h => [.put 3 (.box 44 [.o 91]), .put 91 (.rox 85 tHk D [.d (.int .i64) h.1, .o 92, .o 93] []), .put 92 (.row 9 .str h.2.1), .put 93 (.row 9 .str h.2.2)]
def isOpen : Option Hk → Bool
  | none => false
  | some _ => true
def poI (l : List (Int × ByteArray)) (x : Nat × Nat × List Hk × Option Hk) : Prop :=
  x.1 ≤ l.length ∧ x.2.1 ≤ x.1 ∧ col 0 none l = x.2.2.1 ++ col x.2.1 x.2.2.2 (l.drop x.1) ∧ x.2.2.1.length + x.2.2.2.toList.length ≤ x.1 ∧ (cuOld x.2.2.2).length ≤ x.1 ∧ (cuNew x.2.2.2).length ≤ x.1
theorem col_step {l : List (Int × ByteArray)} {q : Nat} (h : q < l.length) (a : Int) (cu : Option Hk) : col a cu (l.drop q) = if l[q].1 = 0 then cu.toList ++ col (a + 1) none (l.drop (q + 1)) else if l[q].1 = 1 then col (a + 1) (some (cuDel a cu l[q].2)) (l.drop (q + 1)) else col a (some (cuIns a cu l[q].2)) (l.drop (q + 1)) := by
  rw [List.drop_eq_getElem_cons h]; rfl
def sp_PatchOf : SpecF := pureSp false [.slice tStep] (fun (l', _) => l'.length ≤ 240) (fun (l', _) => .v true [.d (.slice tHk) (col 0 none l')])
theorem PatchOf_sp : SpFact 61 sp_PatchOf := by
  refine ⟨⟨Try.f61, rfl, rfl, rfl, pureSp_okF (env_fine (sp := []) (eq := []) True.intro True.intro) rfl (fun ⟨_, _⟩ _ => rfl) ?_⟩, pureSp_loc _ _ _ _⟩
  rintro ⟨l, u⟩ - hl
  change List (Int × ByteArray) at l
  replace hl : l.length ≤ 240 := hl
  (refine fnM_of rfl rfl rfl rfl ?_; dsimp only [params, argAV, Ty.leaves, Ty.isSt])
  (repeat' (first | (with_reducible refine Cend.go ?_) | (with_reducible refine Step.mk True.intro ?_) | (with_reducible refine Step.mk ?_ ?_; focus (((try simp only [true_and, and_true, and_self, kmin, kmax, decide_eq_true_eq, decide_eq_false_iff_not, castD_self, castL_self, List.length_cons, List.length_nil, List.length_append, Int.natCast_add] at *) <;> omega))) | (with_reducible refine Step.mk ?_ ?_) | (with_reducible refine Way.t1 ?_) | (with_reducible refine Way.f1 ?_) | ((with_reducible refine Way.dec (fun _ => ?_) (fun _ => ?_)) <;> try (exfalso; omega)) | (with_reducible refine Way.nt ?_) | (with_reducible refine Way.mk (fun _ => ?_) (fun _ => ?_)) | (with_reducible refine Drawn.mk (by kernel_rfl) ?_) | (refine Run.mk ?_)))
  refine loop_by (X := Nat × Nat × List Hk × Option Hk) (fun x => [.put 0 (.v false [.d (.slice tStep) l]), .put 2 (.v false [.p 2 0]), .put 3 (.v false [.p 3 0]), .put 4 (.v false [.d (.int .i64) (x.2.1 : Int)]), .put 5 (.v false [.d .bool (isOpen x.2.2.2)]), .put 6 (.v false [.d (.int .i64) (x.1 : Int)])])
    (fun x => .put 2 (.box 44 [.nl]) :: patH x.2.1 x.2.2.1 x.2.2.2) (poI l) (fun x => l.length - x.1) (0, 0, [], none) ⟨Nat.zero_le _, Nat.le_refl _, rfl, Nat.le_refl _, Nat.le_refl _, Nat.le_refl _⟩ ?_ ?_
  · refine (Wk.nilbox 3 0 91 85 tHk (T := 44) (cs := [.nl]) rfl rfl rfl).trans ?_
    (refine Wk.keep ?_ ?_ <;> repeat' (first | exact True.intro | refine And.intro rfl ?_ | refine And.intro (congrArg (fun z : Int => AV.v false [Lf.d (.int .i64) z]) (by first | omega | (simp only [Int.natCast_add, List.length_cons, List.length_append, List.length_nil]; omega))) ?_ | refine And.intro ?_ ?_))
  rintro ⟨q, i, D, cu⟩ ⟨hq, hi, hs, hD, ho, hn⟩
  dsimp only at hq hi hs hD ho hn ⊢
  by_cases hqe : q < l.length
  · have hg := getD_at (a := l) tStep.dflt hqe
    rw [col_step hqe, ← hg] at hs
    replace hg := Lib.hid hg
    replace hs := Lib.hid hs
    rcases cu with _ | ⟨a0, o, n⟩
    · dsimp only [patH, isOpen]
      (repeat' (first | (with_reducible refine Cend.go ?_) | (with_reducible refine Step.mk True.intro ?_) | (with_reducible refine Step.mk ?_ ?_; focus (((try simp only [true_and, and_true, and_self, kmin, kmax, decide_eq_true_eq, decide_eq_false_iff_not, castD_self, castL_self, List.length_cons, List.length_nil, List.length_append, Int.natCast_add] at *) <;> omega))) | (with_reducible refine Step.mk ?_ ?_) | (with_reducible refine Way.t1 ?_) | (with_reducible refine Way.f1 ?_) | ((with_reducible refine Way.dec (fun _ => ?_) (fun _ => ?_)) <;> try (exfalso; omega)) | (with_reducible refine Way.nt ?_) | (with_reducible refine Way.mk (fun _ => ?_) (fun _ => ?_)) | (with_reducible refine Drawn.mk (by kernel_rfl) ?_) | (refine Run.mk ?_)))
      · rename_i h h0
        have h0 : (l.getD ((q : Int)).toNat tStep.dflt).1 = 0 := h0
        have hs := hs.out
        rw [if_pos h0] at hs
        (refine Back.by ((q + 1, i + 1, D, none)) ?_ ?_ ?_; focus (refine Wk.keep ?_ ?_ <;> repeat' (first | exact True.intro | refine And.intro rfl ?_ | refine And.intro (congrArg (fun z : Int => AV.v false [Lf.d (.int .i64) z]) (by first | omega | (simp only [Int.natCast_add, List.length_cons, List.length_append, List.length_nil]; omega))) ?_ | refine And.intro ?_ ?_)))
        · exact ⟨hqe, Nat.succ_le_succ hi, hs, Nat.le_succ_of_le hD, Nat.zero_le _, Nat.zero_le _⟩
        · show l.length - (q + 1) < l.length - q; omega
      · rename_i h h0 h1
        have h0 : ¬ (l.getD ((q : Int)).toNat tStep.dflt).1 = 0 := h0
        have h1 : (l.getD ((q : Int)).toNat tStep.dflt).1 = 1 := h1
        have hs := hs.out
        rw [if_neg h0, if_pos h1] at hs
        refine Back.by (q + 1, i + 1, D, some ((i : Int), [(l.getD ((q : Int)).toNat tStep.dflt).2], [])) ?_ ?_ ?_
        · refine (Wk.nilrox 29 2 93 9 .str rfl rfl rfl).trans ?_
          (refine Wk.ren [(91, 29), (92, 55)] rfl ?_ ?_ <;> repeat' (first | exact True.intro | refine And.intro rfl ?_ | refine And.intro (congrArg (fun z : Int => AV.v false [Lf.d (.int .i64) z]) (by first | omega | (simp only [Int.natCast_add, List.length_cons, List.length_append, List.length_nil]; omega))) ?_ | refine And.intro ?_ ?_))
        · exact ⟨hqe, Nat.succ_le_succ hi, hs, by have hD : D.length + 0 ≤ q := hD; show D.length + 1 ≤ q + 1; omega, by show 1 ≤ q + 1; omega, Nat.zero_le _⟩
        · show l.length - (q + 1) < l.length - q; omega
      · rename_i h h0 h1
        have h0 : ¬ (l.getD ((q : Int)).toNat tStep.dflt).1 = 0 := h0
        have h1 : ¬ (l.getD ((q : Int)).toNat tStep.dflt).1 = 1 := h1
        have hs := hs.out
        rw [if_neg h0, if_neg h1] at hs
        refine Back.by (q + 1, i, D, some ((i : Int), [], [(l.getD ((q : Int)).toNat tStep.dflt).2])) ?_ ?_ ?_
        · refine (Wk.nilrox 29 1 92 9 .str rfl rfl rfl).trans ?_
          (refine Wk.ren [(91, 29), (93, 71)] rfl ?_ ?_ <;> repeat' (first | exact True.intro | refine And.intro rfl ?_ | refine And.intro (congrArg (fun z : Int => AV.v false [Lf.d (.int .i64) z]) (by first | omega | (simp only [Int.natCast_add, List.length_cons, List.length_append, List.length_nil]; omega))) ?_ | refine And.intro ?_ ?_))
        · exact ⟨hqe, Nat.le_succ_of_le hi, hs, by have hD : D.length + 0 ≤ q := hD; show D.length + 1 ≤ q + 1; omega, Nat.zero_le _, by show 1 ≤ q + 1; omega⟩
        · show l.length - (q + 1) < l.length - q; omega
    · dsimp only [patH, isOpen]
      (repeat' (first | (with_reducible refine Cend.go ?_) | (with_reducible refine Step.mk True.intro ?_) | (with_reducible refine Step.mk ?_ ?_; focus (((try simp only [true_and, and_true, and_self, kmin, kmax, decide_eq_true_eq, decide_eq_false_iff_not, castD_self, castL_self, List.length_cons, List.length_nil, List.length_append, Int.natCast_add] at *) <;> omega))) | (with_reducible refine Step.mk ?_ ?_) | (with_reducible refine Way.t1 ?_) | (with_reducible refine Way.f1 ?_) | ((with_reducible refine Way.dec (fun _ => ?_) (fun _ => ?_)) <;> try (exfalso; omega)) | (with_reducible refine Way.nt ?_) | (with_reducible refine Way.mk (fun _ => ?_) (fun _ => ?_)) | (with_reducible refine Drawn.mk (by kernel_rfl) ?_) | (refine Run.mk ?_)))
      · rename_i h h0
        have h0 : (l.getD ((q : Int)).toNat tStep.dflt).1 = 0 := h0
        have hs := hs.out
        rw [if_pos h0] at hs
        refine Back.by (q + 1, i + 1, D ++ [(a0, o, n)], none) ?_ ?_ ?_
        · refine (Wk.pack 91 (t := tHk) (x := (a0, o, n)) (l2 := []) (hl' := [.put 2 (.box 44 [.nl]), .put 3 (.box 44 [.o 91])]) rfl rfl ⟨rfl, rfl, True.intro⟩ rfl rfl).trans ?_
          (refine Wk.keep ?_ ?_ <;> repeat' (first | exact True.intro | refine And.intro rfl ?_ | refine And.intro (congrArg (fun z : Int => AV.v false [Lf.d (.int .i64) z]) (by first | omega | (simp only [Int.natCast_add, List.length_cons, List.length_append, List.length_nil]; omega))) ?_ | refine And.intro ?_ ?_))
        · exact ⟨hqe, Nat.succ_le_succ hi, by rw [hs, List.append_assoc]; rfl, by rw [List.length_append]; exact Nat.le_trans hD (Nat.le_succ _), Nat.zero_le _, Nat.zero_le _⟩
        · show l.length - (q + 1) < l.length - q; omega
      · show (o.length + 1) * 16 ≤ 140737488355328 ∧ o.length + 1 ≤ 1000000000000
        have ho : o.length ≤ q := ho
        omega
      · rename_i h h0 h1
        have h0 : ¬ (l.getD ((q : Int)).toNat tStep.dflt).1 = 0 := h0
        have h1 : (l.getD ((q : Int)).toNat tStep.dflt).1 = 1 := h1
        have hs := hs.out
        rw [if_neg h0, if_pos h1] at hs
        (refine Back.by ((q + 1, i + 1, D, some (a0, o ++ [(l.getD ((q : Int)).toNat tStep.dflt).2], n))) ?_ ?_ ?_; focus (refine Wk.ren [(92, 55)] rfl ?_ ?_ <;> repeat' (first | exact True.intro | refine And.intro rfl ?_ | refine And.intro (congrArg (fun z : Int => AV.v false [Lf.d (.int .i64) z]) (by first | omega | (simp only [Int.natCast_add, List.length_cons, List.length_append, List.length_nil]; omega))) ?_ | refine And.intro ?_ ?_)))
        · exact ⟨hqe, Nat.succ_le_succ hi, hs, by have hD : D.length + 1 ≤ q := hD; show D.length + 1 ≤ q + 1; omega, by have ho : o.length ≤ q := ho; show (o ++ [_]).length ≤ q + 1; rw [List.length_append, List.length_singleton]; omega, Nat.le_succ_of_le hn⟩
        · show l.length - (q + 1) < l.length - q; omega
      · show (n.length + 1) * 16 ≤ 140737488355328 ∧ n.length + 1 ≤ 1000000000000
        have hn : n.length ≤ q := hn
        omega
      · rename_i h h0 h1
        have h0 : ¬ (l.getD ((q : Int)).toNat tStep.dflt).1 = 0 := h0
        have h1 : ¬ (l.getD ((q : Int)).toNat tStep.dflt).1 = 1 := h1
        have hs := hs.out
        rw [if_neg h0, if_neg h1] at hs
        (refine Back.by ((q + 1, i, D, some (a0, o, n ++ [(l.getD ((q : Int)).toNat tStep.dflt).2]))) ?_ ?_ ?_; focus (refine Wk.ren [(93, 71)] rfl ?_ ?_ <;> repeat' (first | exact True.intro | refine And.intro rfl ?_ | refine And.intro (congrArg (fun z : Int => AV.v false [Lf.d (.int .i64) z]) (by first | omega | (simp only [Int.natCast_add, List.length_cons, List.length_append, List.length_nil]; omega))) ?_ | refine And.intro ?_ ?_)))
        · exact ⟨hqe, Nat.le_succ_of_le hi, hs, by have hD : D.length + 1 ≤ q := hD; show D.length + 1 ≤ q + 1; omega, Nat.le_succ_of_le ho, by have hn : n.length ≤ q := hn; show (n ++ [_]).length ≤ q + 1; rw [List.length_append, List.length_singleton]; omega⟩
        · show l.length - (q + 1) < l.length - q; omega
  · rw [List.drop_eq_nil_of_le (by omega)] at hs
    rcases cu with _ | ⟨a0, o, n⟩
    · dsimp only [patH, isOpen]
      (repeat' (first | (with_reducible refine Cend.go ?_) | (with_reducible refine Step.mk True.intro ?_) | (with_reducible refine Step.mk ?_ ?_; focus (((try simp only [true_and, and_true, and_self, kmin, kmax, decide_eq_true_eq, decide_eq_false_iff_not, castD_self, castL_self, List.length_cons, List.length_nil, List.length_append, Int.natCast_add] at *) <;> omega))) | (with_reducible refine Step.mk ?_ ?_) | (with_reducible refine Way.t1 ?_) | (with_reducible refine Way.f1 ?_) | ((with_reducible refine Way.dec (fun _ => ?_) (fun _ => ?_)) <;> try (exfalso; omega)) | (with_reducible refine Way.nt ?_) | (with_reducible refine Way.mk (fun _ => ?_) (fun _ => ?_)) | (with_reducible refine Drawn.mk (by kernel_rfl) ?_) | (refine Run.mk ?_)))
      refine Ret.mk ?_
      rw [show col 0 none l = D from hs.trans (List.append_nil D)]
      exact ⟨rfl, .frz rfl, True.intro⟩
    · dsimp only [patH, isOpen]
      (repeat' (first | (with_reducible refine Cend.go ?_) | (with_reducible refine Step.mk True.intro ?_) | (with_reducible refine Step.mk ?_ ?_; focus (((try simp only [true_and, and_true, and_self, kmin, kmax, decide_eq_true_eq, decide_eq_false_iff_not, castD_self, castL_self, List.length_cons, List.length_nil, List.length_append, Int.natCast_add] at *) <;> omega))) | (with_reducible refine Step.mk ?_ ?_) | (with_reducible refine Way.t1 ?_) | (with_reducible refine Way.f1 ?_) | ((with_reducible refine Way.dec (fun _ => ?_) (fun _ => ?_)) <;> try (exfalso; omega)) | (with_reducible refine Way.nt ?_) | (with_reducible refine Way.mk (fun _ => ?_) (fun _ => ?_)) | (with_reducible refine Drawn.mk (by kernel_rfl) ?_) | (refine Run.mk ?_)))
      refine Ret.mk ?_
      rw [show col 0 none l = D ++ [(a0, o, n)] from hs]
      exact ⟨rfl, .frz rfl, True.intro⟩

theorem steps_len (a b : List ByteArray) : (steps a b).length ≤ a.length + b.length := by
  have h : ∀ (r : List Int) (x y : List ByteArray), (stp r x y).length ≤ r.length := by
    intro r
    induction r with
    | nil => intro x y; exact Nat.le_refl _
    | cons s r ih =>
      intro x y
      unfold stp
      split
      · cases y with
        | nil => exact Nat.zero_le _
        | cons y0 y => simpa using ih x y
      · cases x with
        | nil => exact Nat.zero_le _
        | cons x0 x => simpa using ih x _
  exact Nat.le_trans (h _ _ _) (align_len a b).1
def sp_RScript : SpecF := pureSp false [.slice .str, .slice .str] (fun (a', b', _) => a'.length ≤ 120 ∧ b'.length ≤ 120) (fun (a', b', _) => .v true [.d (.slice tHk) (script a' b')])
theorem RScript_sp : SpFact 34 sp_RScript := by
  refine ⟨⟨Try.f34, rfl, rfl, rfl, pureSp_ok (env_fine (sp := [(62, sp_RAl), (61, sp_PatchOf)]) (eq := []) ⟨RAl_sp, PatchOf_sp, True.intro⟩ True.intro) rfl (fun ⟨_, _, _⟩ _ => rfl) ?_⟩, pureSp_loc _ _ _ _⟩
  rintro ⟨a, b, u⟩ - ⟨ha, hb⟩
  change List ByteArray at a b
  replace ha : a.length ≤ 120 := ha
  replace hb : b.length ≤ 120 := hb
  have hl := steps_len a b
  (refine fnM_of rfl rfl rfl rfl ?_; dsimp only [params, argAV, Ty.leaves, Ty.isSt])
  (repeat' (first | (with_reducible refine Cend.go ?_) | (with_reducible refine Step.mk True.intro ?_) | (with_reducible refine Step.mk ?_ ?_; focus (((try simp only [true_and, and_true, and_self, kmin, kmax, decide_eq_true_eq, decide_eq_false_iff_not, castD_self, castL_self, List.length_cons, List.length_nil, List.length_append, Int.natCast_add] at *) <;> omega))) | (with_reducible refine Step.mk ?_ ?_) | (with_reducible refine Way.t1 ?_) | (with_reducible refine Way.f1 ?_) | ((with_reducible refine Way.dec (fun _ => ?_) (fun _ => ?_)) <;> try (exfalso; omega)) | (with_reducible refine Way.nt ?_) | (with_reducible refine Way.mk (fun _ => ?_) (fun _ => ?_)) | (with_reducible refine Drawn.mk (by kernel_rfl) ?_) | (refine Run.mk ?_)))
  exact Ret.mk rfl
end Go.Proofs.Ytppmhjaooiameaa
