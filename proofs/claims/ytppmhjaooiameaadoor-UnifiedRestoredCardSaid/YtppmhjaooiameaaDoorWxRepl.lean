/- The walk of replaced, and the law of the involution. -/
import Derived.Test.YtppmhjaooiameaaDoorWxApply
namespace Go.Proofs.YtppmhjaooiameaaDoor
open Go.RowKit
set_option maxRecDepth 10000
set_option linter.unusedSimpArgs false

def sp_mkHunk : SpecF := pureSp false [.int .i64, .slice .str, .slice .str] (fun _ => True) (fun (a', o', n', _) => .v true [.d (.slice tHk) [(a', o', n')]])
theorem mkHunk_sp : SpFact 35 sp_mkHunk := by
  refine ⟨⟨Tryd.f35, rfl, rfl, rfl, pureSp_ok (env1_fine (sp := []) (eq := []) (inl := []) (cl := [11]) True.intro True.intro True.intro) rfl (fun ⟨_, _, _, _⟩ _ => rfl) ?_⟩, pureSp_loc _ _ _ _⟩
  rintro ⟨a, o, n, u⟩ - -
  (refine fnM_of rfl rfl rfl rfl ?_; dsimp only [params, argAV, Ty.leaves, Ty.isSt])
  (repeat' (first | (with_reducible refine Cend.go ?_) | (with_reducible refine Step.mk True.intro ?_) | (with_reducible refine Step.mk ?_ ?_; focus (((try simp only [true_and, and_true, and_self, kmin, kmax, decide_eq_true_eq, decide_eq_false_iff_not, castD_self, castL_self, List.length_cons, List.length_nil, List.length_append, Int.natCast_add] at *) <;> omega))) | (with_reducible refine Step.mk ?_ ?_) | (with_reducible refine Way.t1 ?_) | (with_reducible refine Way.f1 ?_) | ((with_reducible refine Way.dec (fun _ => ?_) (fun _ => ?_)) <;> try (exfalso; omega)) | (with_reducible refine Way.nt ?_) | (with_reducible refine Way.mk (fun _ => ?_) (fun _ => ?_)) | (with_reducible refine Drawn.mk (by kernel_rfl) ?_) | (refine Run.mk ?_)))
  exact Ret.mk rfl
def bA : ByteArray := ⟨#[97]⟩
def bB : ByteArray := ⟨#[98]⟩
def bC' : ByteArray := ⟨#[99]⟩
def bD : ByteArray := ⟨#[100]⟩
theorem rep1 : (apF [(1, [⟨#[98]⟩], [⟨#[99]⟩, ⟨#[100]⟩])] [⟨#[97]⟩, ⟨#[98]⟩]).1 = 0 := by decide +kernel
theorem rep2 : ivC [(1, [⟨#[98]⟩], [⟨#[99]⟩, ⟨#[100]⟩])] = 0 := by decide +kernel
theorem rep3 : apL [(1, [⟨#[98]⟩], [⟨#[99]⟩, ⟨#[100]⟩])] [⟨#[97]⟩, ⟨#[98]⟩] = [⟨#[97]⟩, ⟨#[99]⟩, ⟨#[100]⟩] := by decide +kernel
theorem rep4 : ivP [(1, [⟨#[98]⟩], [⟨#[99]⟩, ⟨#[100]⟩])] = [(1, [⟨#[99]⟩, ⟨#[100]⟩], [⟨#[98]⟩])] := by decide +kernel
end Go.Proofs.YtppmhjaooiameaaDoor
