/- Law UnifiedRestored. -/
import Derived.Test.YtppmhjaooiameaaDoorWxPrs
import Derived.Test.YtppmhjaooiameaaDoorWxFmt
import Derived.Test.YtppmhjaooiameaaDoorWxUniS
import Derived.Test.YtppmhjaooiameaaDoorWxEqPat
namespace Go.Proofs.YtppmhjaooiameaaDoor
open Go.RowKit
set_option maxRecDepth 20000
set_option linter.unusedSimpArgs false

theorem pureSp_each {P : Program} {f : FuncId} {bw : Bool} {ts : List Ty} {res : dens ts → AV} (h : ∀ x0, SpecOk P f (pureSp bw ts (fun x => x = x0) res)) : SpecOk P f (pureSp bw ts (fun _ => True) res) := by
  intro d args hp r hr hside
  unfold pureSp at hr
  split at hr
  · rename_i xs hxs
    cases hr
    exact h xs d args hp ⟨xs = xs, res xs, [], []⟩ (by unfold pureSp; rw [hxs]) rfl
  · cases hr
theorem fm_good {t : List ByteArray} {p : List Hk} {c : Int} (h : (fmC t p c).1 = 0) :
    fmS t p c = bs (evT (fmE t c p.length 0 p)) ∧ (evT (fmE t c p.length 0 p)).length ≤ 4096 ∧ pOk (fmE t c p.length 0 p) 0 0 0 0 false none ∧ pCol (fmE t c p.length 0 p) 0 none = p ∧ pC p = 0 := by
  have hS : fmS t p c = bs (fmL t p c) := if_pos h
  have h0 : (apF p t).1 = 0 ∧ 0 ≤ c ∧ (fmL t p c).length ≤ 4096 := by
    unfold fmC at h
    split at h
    · rename_i q; exact absurd h q
    · rename_i q
      split at h
      · exact absurd h (by decide)
      · rename_i q2
        split at h
        · exact absurd h (by decide)
        · exact ⟨Classical.not_not.1 q, by omega, by omega⟩
  obtain ⟨a1, a2, a3⟩ := h0
  obtain ⟨b1, b2, b3, b4⟩ := apF_good a1
  obtain ⟨w1, w2, w3⟩ := whole (c := c) (ap_rawOk a1) b1 b2 b4 a2
  rw [w1] at hS a3
  exact ⟨hS, a3, w2, w3, b1⟩
attribute [local irreducible] fmS fmC
theorem law_UnifiedRestored : SpFact 6 (pureSp false [.slice .str, tPat, .int .i64] (fun _ => True) (fun _ => .v false [.d .bool true])) := by
  refine ⟨⟨Tryd.f6, rfl, rfl, rfl, pureSp_each ?_⟩, pureSp_loc _ _ _ _⟩
  rintro ⟨t, p, c, u⟩
  change List Hk at p
  change List ByteArray at t
  change Int at c
  refine pureSp_ok (env_fine (sp := [(7, sp_Format), (15, sp_Parse (fmE t c p.length 0 p) p), (16, sp_Patch), (13, sp_shown)]) (eq := [(27, true)])
    ⟨Format_sp, Parse_sp _ _, Patch_sp, shown_sp, True.intro⟩ ⟨eq_fault, True.intro⟩) rfl (fun _ _ => rfl) ?_
  rintro xs - rfl
  by_cases hc : (fmC t p c).1 = 0
  · have hg := fm_good hc
    replace hg := Lib.hid hg
    have hf := Lib.hid (rfl : true = true)
    (refine fnM_of rfl rfl rfl rfl ?_; dsimp only [params, argAV, Ty.leaves, Ty.isSt])
    (repeat' (first | (with_reducible refine Cend.go ?_) | (with_reducible refine Step.mk True.intro ?_) | (with_reducible refine Step.mk ?_ ?_; focus (((try simp only [true_and, and_true, and_self, kmin, kmax, decide_eq_true_eq, decide_eq_false_iff_not, castD_self, castL_self, List.length_cons, List.length_nil, List.length_append, Int.natCast_add] at *) <;> omega))) | (with_reducible refine Step.mk ?_ ?_) | (with_reducible refine Way.t1 ?_) | (with_reducible refine Way.f1 ?_) | ((with_reducible refine Way.dec (fun zz => ?_) (fun zz => ?_)) <;> (try simp only [castD_self, castL_self] at zz) <;> try (exfalso; first | omega | contradiction)) | (with_reducible refine Way.nt ?_) | ((with_reducible refine Way.mk (fun _ => ?_) (fun _ => ?_)) <;> try (exfalso; rename_i hw; first | exact Bool.noConfusion ((Go.RowKit.Hid.out hf).symm.trans hw) | exact Bool.noConfusion (hw.symm.trans (Go.RowKit.Hid.out hf)))) | (with_reducible refine Drawn.mk (by kernel_rfl) ?_) | (refine Run.mk ?_)))
    all_goals try exact Ret.mk rfl
    all_goals try exact hg.out
    all_goals (rename_i z; exfalso; exact z rfl)
  · have hf := Lib.hid (rfl : true = true)
    (refine fnM_of rfl rfl rfl rfl ?_; dsimp only [params, argAV, Ty.leaves, Ty.isSt])
    (repeat' (first | (with_reducible refine Cend.go ?_) | (with_reducible refine Step.mk True.intro ?_) | (with_reducible refine Step.mk ?_ ?_; focus (((try simp only [true_and, and_true, and_self, kmin, kmax, decide_eq_true_eq, decide_eq_false_iff_not, castD_self, castL_self, List.length_cons, List.length_nil, List.length_append, Int.natCast_add] at *) <;> omega))) | (with_reducible refine Step.mk ?_ ?_) | (with_reducible refine Way.t1 ?_) | (with_reducible refine Way.f1 ?_) | ((with_reducible refine Way.dec (fun zz => ?_) (fun zz => ?_)) <;> (try simp only [castD_self, castL_self] at zz) <;> try (exfalso; first | omega | contradiction)) | (with_reducible refine Way.nt ?_) | ((with_reducible refine Way.mk (fun _ => ?_) (fun _ => ?_)) <;> try (exfalso; rename_i hw; first | exact Bool.noConfusion ((Go.RowKit.Hid.out hf).symm.trans hw) | exact Bool.noConfusion (hw.symm.trans (Go.RowKit.Hid.out hf)))) | (with_reducible refine Drawn.mk (by kernel_rfl) ?_) | (refine Run.mk ?_)))
    all_goals try exact Ret.mk rfl
    all_goals (exfalso; contradiction)
end Go.Proofs.YtppmhjaooiameaaDoor
