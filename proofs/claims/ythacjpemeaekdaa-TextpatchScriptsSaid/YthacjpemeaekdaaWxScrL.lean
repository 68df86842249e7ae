/- The law of the scripts of three texts. -/
import Derived.Test.YthacjpemeaekdaaWxComp
import Derived.Test.YthacjpemeaekdaaWxRepl
import Derived.Test.YthacjpemeaekdaaWxCost
import Derived.Test.YthacjpemeaekdaaWxDist
import Derived.Test.YthacjpemeaekdaaWxSlEq
import Derived.Test.YthacjpemeaekdaaComCost
namespace Go.Proofs.Ythacjpemeaekdaa
open Go.RowKit
set_option maxRecDepth 10000
set_option linter.unusedSimpArgs false

theorem scripts_law {a b c : List ByteArray} (h1 : bC a b = 0) (h2 : bC b c = 0) (h3 : coC (scV a b) (scV b c) = 0) :
    (apF (coP (scV a b) (scV b c)) a).1 = 0 ∧ bC a c = 0 ∧ apL (coP (scV a b) (scV b c)) a = c ∧ dstV a c ≤ pCost (coP (scV a b) (scV b c)) ∧ pCost (coP (scV a b) (scV b c)) ≤ pCost (scV a b) + pCost (scV b c) ∧
    ((∀ x ∈ scV a b, HkOk x) ∧ (scV a b).length ≤ 130) ∧ ((∀ x ∈ scV b c, HkOk x) ∧ (scV b c).length ≤ 130) ∧ (∀ x ∈ coP (scV a b) (scV b c), HkOk x) ∧ (coP (scV a b) (scV b c)).length ≤ 130 := by
  have g1 := (bC_good a b).1 h1
  have g2 := (bC_good b c).1 h2
  have va := (vC_good a).2 g1.1
  have vb := (vC_good b).2 g1.2
  have vc := (vC_good c).2 g2.2
  have hac : bC a c = 0 := (bC_good _ _).2 ⟨g1.1, g2.2⟩
  have e1 : scV a b = script a b := if_pos h1
  have e2 : scV b c = script b c := if_pos h2
  rw [e1, e2] at h3 ⊢
  obtain ⟨s1, s2⟩ := script_apply va vb
  obtain ⟨s3, s4⟩ := script_apply vb vc
  rw [← s2] at s3 s4
  rw [s2] at s3
  obtain ⟨r1, r2⟩ := co_apply (t := a) s1 (by rw [s2]; exact s3) h3
  obtain ⟨c1, c2, c3, c4, c5⟩ := co_good h3
  have hr : apL (coP (script a b) (script b c)) a = c := r2.trans (by rw [s2]; exact (script_apply vb vc).2)
  obtain ⟨-, -, ap, -, -⟩ := ap_apply r1
  rw [hr] at ap
  have hl := ap_lcs ap
  have k1 := pC_ok c1
  have k2 := pC_ok c2
  have k3 := pC_ok c4
  rw [← c5] at k3
  exact ⟨r1, hac, hr, by rw [dst_lcs hac]; exact hl, by rw [c5]; exact co_cost c2, ⟨k1.2, k1.1⟩, ⟨k2.2, k2.1⟩, k3.2, k3.1⟩
theorem law_TextpatchScripts : SpFact 12 (pureSp false [.slice .str, .slice .str, .slice .str] (fun _ => True) (fun _ => .v false [.d .bool true])) := by
  have hg := @scripts_law
  obtain ⟨sc, hsc⟩ : ∃ f : List ByteArray → List ByteArray → List Hk, f = scV := ⟨_, rfl⟩
  obtain ⟨cP, hcP⟩ : ∃ f : List Hk → List Hk → List Hk, f = coP := ⟨_, rfl⟩
  obtain ⟨cC, hcC⟩ : ∃ f : List Hk → List Hk → Int, f = coC := ⟨_, rfl⟩
  obtain ⟨cI, hcI⟩ : ∃ f : List Hk → List Hk → Int, f = coI := ⟨_, rfl⟩
  obtain ⟨dV, hdV⟩ : ∃ f : List ByteArray → List ByteArray → Int, f = dstV := ⟨_, rfl⟩
  obtain ⟨cb, hcb⟩ : ∃ f : List ByteArray → List ByteArray → Int, f = bC := ⟨_, rfl⟩
  obtain ⟨ib, hib⟩ : ∃ f : List ByteArray → List ByteArray → Int, f = bI := ⟨_, rfl⟩
  obtain ⟨pc, hpc⟩ : ∃ f : List Hk → Int, f = pCost := ⟨_, rfl⟩
  have hb := pCost_bd
  have S1 : SpFact 33 (pureSp false [.slice .str, .slice .str] (fun _ => True) (fun (a', b', _) => .tu [(true, [.d (.slice tHk) (sc a' b')]), (true, [.d (.int .i64) (cb a' b'), .d (.int .i64) (ib a' b')])])) := by
    rw [hsc, hcb, hib]; exact Script_sp
  have S2 : SpFact 34 (pureSp false [.slice .str, .slice .str] (fun _ => True) (fun (a', b', _) => .tu [(false, [.d (.int .i64) (dV a' b')]), (true, [.d (.int .i64) (cb a' b'), .d (.int .i64) (ib a' b')])])) := by
    rw [hdV, hcb, hib]; exact Distance_sp
  have S3 : SpFact 23 (pureSp false [tPat, tPat] (fun _ => True) (fun (p', q', _) => .tu [(true, [.d (.slice tHk) (cP p' q')]), (true, [.d (.int .i64) (cC p' q'), .d (.int .i64) (cI p' q')])])) := by
    rw [hcP, hcC, hcI]; exact Compose_sp
  have S4 : SpFact 35 (pureSp false [tPat] (fun (p', _) => (∀ h ∈ p', HkOk h) ∧ p'.length ≤ 130) (fun (p', _) => .v false [.d (.int .i64) (pc p')])) := by
    rw [hpc]; exact cost_sp
  rw [← hsc, ← hcP, ← hcC, ← hdV, ← hcb, ← hpc] at hg
  rw [← hpc] at hb
  clear hsc hcP hcC hcI hdV hcb hib hpc
  refine ⟨⟨Try.f12, rfl, rfl, rfl, pureSp_ok (env_fine (sp := [(33, _), (34, _), (23, _), (27, sp_Apply), (35, _), (26, pureSp false [] (fun _ => True) (fun _ => .v false [.d .bool true])), (19, sp_Strings)]) (eq := [])
    ⟨S1, S2, S3, Apply_sp, S4, replaced_sp, Strings_sp, True.intro⟩ True.intro) rfl (fun _ _ => rfl) ?_⟩, pureSp_loc _ _ _ _⟩
  clear S1 S2 S3 S4
  rintro ⟨a, b, c, u⟩ - -
  change List ByteArray at a b c
  replace hg := Lib.hid (@hg a b c)
  replace hb := Lib.hid hb
  (refine fnM_of rfl rfl rfl rfl ?_; dsimp only [params, argAV, Ty.leaves, Ty.isSt])
  (repeat' (first | (with_reducible refine Step.mk True.intro ?_) | (with_reducible refine Step.mk ?_ ?_; focus (((try simp only [true_and, and_true, and_self, kmin, kmax, decide_eq_true_eq, decide_eq_false_iff_not, castD_self, castL_self, List.length_cons, List.length_nil, List.length_append, Int.natCast_add] at *) <;> omega))) | (with_reducible refine Step.mk ?_ ?_) | (with_reducible refine Way.t1 ?_) | (with_reducible refine Way.f1 ?_) | ((with_reducible refine Way.dec (fun _ => ?_) (fun _ => ?_)) <;> try (exfalso; omega)) | (with_reducible refine Way.nt ?_) | (with_reducible refine Way.mk (fun _ => ?_) (fun _ => ?_)) | (with_reducible refine Drawn.mk (by kernel_rfl) ?_) | (refine Run.mk ?_)))
  all_goals try exact Ret.mk rfl
  · rename_i a1 a2 a3 a4 a5 a6
    exact (hg.out a1 a2 a3).2.2.2.2.2.2.2
  · rename_i a1 a2 a3 a4 a5 a6 a7
    exact (hg.out a1 a2 a3).2.2.2.2.2.2.2
  · rename_i a1 a2 a3 a4 a5 a6 a7
    exact (hg.out a1 a2 a3).2.2.2.2.2.1
  · rename_i a1 a2 a3 a4 a5 a6 a7
    exact (hg.out a1 a2 a3).2.2.2.2.2.2.1
  · rename_i a1 a2 a3 a4 a5 a6 a7
    obtain ⟨-, -, -, -, -, g1, g2, -⟩ := hg.out a1 a2 a3
    have b1 := hb.out _ g1.1
    have b2 := hb.out _ g2.1
    have c1 := g1.2
    have c2 := g2.2
    show (-9223372036854775808 : Int) ≤ pc (sc a b) + pc (sc b c) ∧ pc (sc a b) + pc (sc b c) ≤ 9223372036854775807
    omega
  · rename_i a1 a2 a3 a4 a5 a6 a7 a8
    exact absurd (hg.out a1 a2 a3).2.2.2.2.1 a8
  · rename_i a1 a2 a3 a4 a5 a6 a7
    exact absurd (hg.out a1 a2 a3).2.2.2.1 a7
  · rename_i a1 a2 a3 a4 a5 a6
    exact absurd (hg.out a1 a2 a3).2.2.1 a6
  · rename_i a1 a2 a3 a4 a5
    exact absurd (hg.out a1 a2 a3).2.1 a5
  · rename_i a1 a2 a3 a4
    exact absurd (hg.out a1 a2 a3).1 a4
end Go.Proofs.Ythacjpemeaekdaa
