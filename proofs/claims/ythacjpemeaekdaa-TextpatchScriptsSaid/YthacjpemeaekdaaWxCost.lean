/- The walk of cost. -/
import Derived.Test.YthacjpemeaekdaaWxScript
import Derived.Test.YthacjpemeaekdaaWxEq
namespace Go.Proofs.Ythacjpemeaekdaa
open Go.RowKit
set_option maxRecDepth 10000
set_option linter.unusedSimpArgs false

theorem pCost_bd : ∀ (p : List Hk), (∀ x ∈ p, HkOk x) → 0 ≤ pCost p ∧ pCost p ≤ 240 * (p.length : Int)
  | [], _ => by simp [pCost]
  | h :: p, ho => by
    obtain ⟨i1, i2⟩ := pCost_bd p fun x hx => ho x (by simp [hx])
    obtain ⟨-, -, h3, h4⟩ := ho h (by simp)
    unfold pCost
    rw [List.length_cons]
    omega
theorem pCost_take {p : List Hk} {k : Nat} (h : k < p.length) : pCost (p.take (k + 1)) = pCost (p.take k) + p[k].2.1.length + p[k].2.2.length := by
  rw [List.take_add_one, List.getElem?_eq_getElem h, Option.toList_some, pCost_append]
  simp only [pCost]
  omega
def sp_cost : SpecF := pureSp false [tPat] (fun (p', _) => (∀ h ∈ p', HkOk h) ∧ p'.length ≤ 130) (fun (p', _) => .v false [.d (.int .i64) (pCost p')])
theorem cost_sp : SpFact 35 sp_cost := by
  refine ⟨⟨Try.f35, rfl, rfl, rfl, pureSp_ok (env_fine (sp := []) (eq := []) True.intro True.intro) rfl (fun ⟨_, _⟩ _ => rfl) ?_⟩, pureSp_loc _ _ _ _⟩
  rintro ⟨p, u⟩ - ⟨hok, hlen⟩
  change List Hk at p
  replace hlen : p.length ≤ 130 := hlen
  replace hok : ∀ h ∈ p, HkOk h := hok
  have hbd := pCost_bd
  replace hok := Lib.hid hok
  replace hbd := Lib.hid hbd
  (refine fnM_of rfl rfl rfl rfl ?_; dsimp only [params, argAV, Ty.leaves, Ty.isSt])
  (repeat' (first | (with_reducible refine Step.mk True.intro ?_) | (with_reducible refine Step.mk ?_ ?_; focus (((try simp only [true_and, and_true, and_self, kmin, kmax, decide_eq_true_eq, decide_eq_false_iff_not, castD_self, castL_self, List.length_cons, List.length_nil, List.length_append, Int.natCast_add] at *) <;> omega))) | (with_reducible refine Step.mk ?_ ?_) | (with_reducible refine Way.t1 ?_) | (with_reducible refine Way.f1 ?_) | ((with_reducible refine Way.dec (fun _ => ?_) (fun _ => ?_)) <;> try (exfalso; omega)) | (with_reducible refine Way.nt ?_) | (with_reducible refine Way.mk (fun _ => ?_) (fun _ => ?_)) | (with_reducible refine Drawn.mk (by kernel_rfl) ?_) | (refine Run.mk ?_)))
  refine loop_by (X := Nat × Int) (fun x => [.put 1 (.v false [.p 1 0]), .put 3 (.v false [.d (.int .i64) x.2]), .put 4 (.v false [.d (.int .i64) (x.1 : Int)])])
    (fun x => [.put 1 (.box 41 [.d (.slice tHk) p])]) (fun x => x.1 ≤ p.length ∧ x.2 = pCost (p.take x.1)) (fun x => p.length - x.1) (0, 0) ⟨Nat.zero_le _, rfl⟩ ?_ ?_
  · (refine Wk.keep ?_ ?_ <;> repeat' (first | exact True.intro | refine And.intro rfl ?_ | refine And.intro (congrArg (fun z : Int => AV.v false [Lf.d (.int .i64) z]) (by first | omega | (simp only [Int.natCast_add, List.length_cons, List.length_append, List.length_nil]; omega))) ?_ | refine And.intro ?_ ?_))
  rintro ⟨k, n⟩ ⟨hk, hn⟩
  dsimp only at hk hn ⊢
  by_cases hlt : k < p.length
  · have hg := getD_at (a := p) tHk.dflt hlt
    have ho := hok.out p[k] (List.getElem_mem hlt)
    have ht := pCost_take hlt
    have bd := hbd.out (p.take k) fun x hx => hok.out x (List.mem_of_mem_take hx)
    rw [← hn, List.length_take, Nat.min_eq_left hk] at bd
    rw [← hn, ← hg] at ht
    rw [← hg] at ho
    obtain ⟨o1, o2, o3, o4⟩ := ho
    replace hg := Lib.hid hg
    replace ht := Lib.hid ht
    replace hn := Lib.hid hn
    (repeat' (first | (with_reducible refine Step.mk True.intro ?_) | (with_reducible refine Step.mk ?_ ?_; focus (((try simp only [true_and, and_true, and_self, kmin, kmax, decide_eq_true_eq, decide_eq_false_iff_not, castD_self, castL_self, List.length_cons, List.length_nil, List.length_append, Int.natCast_add] at *) <;> omega))) | (with_reducible refine Step.mk ?_ ?_) | (with_reducible refine Way.t1 ?_) | (with_reducible refine Way.f1 ?_) | ((with_reducible refine Way.dec (fun _ => ?_) (fun _ => ?_)) <;> try (exfalso; omega)) | (with_reducible refine Way.nt ?_) | (with_reducible refine Way.mk (fun _ => ?_) (fun _ => ?_)) | (with_reducible refine Drawn.mk (by kernel_rfl) ?_) | (refine Run.mk ?_)))
    (apply Back.by ((k + 1, _)); focus (refine Wk.keep ?_ ?_ <;> repeat' (first | exact True.intro | refine And.intro rfl ?_ | refine And.intro (congrArg (fun z : Int => AV.v false [Lf.d (.int .i64) z]) (by first | omega | (simp only [Int.natCast_add, List.length_cons, List.length_append, List.length_nil]; omega))) ?_ | refine And.intro ?_ ?_)))
    · exact ⟨hlt, ht.out.symm⟩
    · show p.length - (k + 1) < p.length - k; omega
  · rw [List.take_of_length_le (by omega)] at hn
    (repeat' (first | (with_reducible refine Step.mk True.intro ?_) | (with_reducible refine Step.mk ?_ ?_; focus (((try simp only [true_and, and_true, and_self, kmin, kmax, decide_eq_true_eq, decide_eq_false_iff_not, castD_self, castL_self, List.length_cons, List.length_nil, List.length_append, Int.natCast_add] at *) <;> omega))) | (with_reducible refine Step.mk ?_ ?_) | (with_reducible refine Way.t1 ?_) | (with_reducible refine Way.f1 ?_) | ((with_reducible refine Way.dec (fun _ => ?_) (fun _ => ?_)) <;> try (exfalso; omega)) | (with_reducible refine Way.nt ?_) | (with_reducible refine Way.mk (fun _ => ?_) (fun _ => ?_)) | (with_reducible refine Drawn.mk (by kernel_rfl) ?_) | (refine Run.mk ?_)))
    refine Ret.mk ?_
    rw [hn]
    rfl

end Go.Proofs.Ythacjpemeaekdaa
