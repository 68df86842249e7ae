/- The walks of the reference's ChunksFault, Conflicts, Resolve, Clean. -/
import Derived.Test.YtppmhjaooiameaaWxM3D
namespace Go.Proofs.Ytppmhjaooiameaa
open Go.RowKit
set_option maxRecDepth 10000
set_option linter.unusedSimpArgs false

theorem CFault_sp : SpFact 41 sp_check := by
  refine ⟨⟨Try.f41, rfl, rfl, rfl, pureSp_ok (env_fine (sp := [(32, sp_LCode), (33, sp_At)]) (eq := []) ⟨LCode_sp, At_sp, True.intro⟩ True.intro) rfl (fun ⟨_, _⟩ _ => rfl) ?_⟩, pureSp_loc _ _ _ _⟩
  rintro ⟨l, u⟩ ⟨⟨hl, -⟩, -⟩ -
  change List Ch at l
  rw [maxLen_eq] at hl
  have hl : l.length ≤ 9223372036854775807 := hl
  by_cases h1 : 240 < l.length
  · have e1 : ckC l = 2 := if_pos h1
    have e2 : ckI l = -1 := if_pos h1
    dsimp only
    rw [e1, e2]
    (refine fnM_of rfl rfl rfl rfl ?_; dsimp only [params, argAV, Ty.leaves, Ty.isSt])
    (repeat' (first | (with_reducible refine Cend.go ?_) | (with_reducible refine Step.mk True.intro ?_) | (with_reducible refine Step.mk ?_ ?_; focus (((try simp only [true_and, and_true, and_self, kmin, kmax, decide_eq_true_eq, decide_eq_false_iff_not, castD_self, castL_self, List.length_cons, List.length_nil, List.length_append, Int.natCast_add] at *) <;> omega))) | (with_reducible refine Step.mk ?_ ?_) | (with_reducible refine Way.t1 ?_) | (with_reducible refine Way.f1 ?_) | ((with_reducible refine Way.dec (fun _ => ?_) (fun _ => ?_)) <;> try (exfalso; omega)) | (with_reducible refine Way.nt ?_) | (with_reducible refine Way.mk (fun _ => ?_) (fun _ => ?_)) | (with_reducible refine Drawn.mk (by kernel_rfl) ?_) | (refine Run.mk ?_)))
    all_goals first | exact Ret.mk rfl | skip
  (refine fnM_of rfl rfl rfl rfl ?_; dsimp only [params, argAV, Ty.leaves, Ty.isSt])
  (repeat' (first | (with_reducible refine Cend.go ?_) | (with_reducible refine Step.mk True.intro ?_) | (with_reducible refine Step.mk ?_ ?_; focus (((try simp only [true_and, and_true, and_self, kmin, kmax, decide_eq_true_eq, decide_eq_false_iff_not, castD_self, castL_self, List.length_cons, List.length_nil, List.length_append, Int.natCast_add] at *) <;> omega))) | (with_reducible refine Step.mk ?_ ?_) | (with_reducible refine Way.t1 ?_) | (with_reducible refine Way.f1 ?_) | ((with_reducible refine Way.dec (fun _ => ?_) (fun _ => ?_)) <;> try (exfalso; omega)) | (with_reducible refine Way.nt ?_) | (with_reducible refine Way.mk (fun _ => ?_) (fun _ => ?_)) | (with_reducible refine Drawn.mk (by kernel_rfl) ?_) | (refine Run.mk ?_)))
  refine loop_by (X := Nat) (fun x => [.put 0 (.v false [.d (.slice tCh) l]), .put 2 (.v false [.p 2 0]), .put 3 (.v false [.d (.int .i64) (x : Int)])])
    (fun _ => [.put 2 (.box 25 [.d (.int .i64) 0, .d (.int .i64) 0])]) (fun x => x ≤ l.length ∧ ckC l = csC (l.drop x) ∧ ckI l = csI x (l.drop x)) (fun x => l.length - x) 0 ⟨Nat.zero_le _, if_neg h1, if_neg h1⟩ ?_ ?_
  · (refine Wk.keep ?_ ?_ <;> repeat' (first | exact True.intro | refine And.intro rfl ?_ | refine And.intro (congrArg (fun z : Int => AV.v false [Lf.d (.int .i64) z]) (by first | omega | (simp only [Int.natCast_add, List.length_cons, List.length_append, List.length_nil]; omega))) ?_ | refine And.intro ?_ ?_))
  rintro k ⟨hk, hcC, hcI⟩
  dsimp only at hk hcC hcI ⊢
  by_cases hlt : k < l.length
  · have hg : l.getD ((k : Int)).toNat tCh.dflt = l[k] := getD_at tCh.dflt hlt
    rw [csC_step hlt, ← hg] at hcC
    rw [csI_step hlt, ← hg] at hcI
    replace hg := Lib.hid hg
    have fin : ∀ c, chC (l.getD ((k : Int)).toNat tCh.dflt) = c → c ≠ 0 → ckC l = c ∧ ckI l = k := fun c h1 h2 => by
      rw [hcC, hcI, h1, if_neg h2, if_neg h2]; exact ⟨rfl, rfl⟩
    have nxt : chC (l.getD ((k : Int)).toNat tCh.dflt) = 0 → ckC l = csC (l.drop (k + 1)) ∧ ckI l = csI ((k + 1 : Nat) : Int) (l.drop (k + 1)) := fun h1 => by
      rw [hcC, hcI, if_pos h1, if_pos h1]; exact ⟨rfl, rfl⟩
    have lens : (vC (l.getD ((k : Int)).toNat tCh.dflt).2.1 = 0 → (l.getD ((k : Int)).toNat tCh.dflt).2.1.length ≤ 120) ∧ (vC (l.getD ((k : Int)).toNat tCh.dflt).2.2.1 = 0 → (l.getD ((k : Int)).toNat tCh.dflt).2.2.1.length ≤ 120) ∧ (vC (l.getD ((k : Int)).toNat tCh.dflt).2.2.2.1 = 0 → (l.getD ((k : Int)).toNat tCh.dflt).2.2.2.1.length ≤ 120) ∧ (vC (l.getD ((k : Int)).toNat tCh.dflt).2.2.2.2 = 0 → (l.getD ((k : Int)).toNat tCh.dflt).2.2.2.2.length ≤ 120) := ⟨vC_len _, vC_len _, vC_len _, vC_len _⟩
    clear hcC hcI
    replace fin := Lib.hid fin
    replace nxt := Lib.hid nxt
    by_cases x1 : vC (l.getD ((k : Int)).toNat tCh.dflt).2.1 = 0
    · have l1 := lens.1 x1
      by_cases x2 : vC (l.getD ((k : Int)).toNat tCh.dflt).2.2.1 = 0
      · have l2 := lens.2.1 x2
        by_cases x3 : vC (l.getD ((k : Int)).toNat tCh.dflt).2.2.2.1 = 0
        · have l3 := lens.2.2.1 x3
          by_cases x4 : vC (l.getD ((k : Int)).toNat tCh.dflt).2.2.2.2 = 0
          · have l4 := lens.2.2.2 x4
            clear lens
            cases hb : (l.getD ((k : Int)).toNat tCh.dflt).1
            · replace hb' := Lib.hid hb
              (repeat' (first | (with_reducible refine Cend.go ?_) | (with_reducible refine Step.mk True.intro ?_) | (with_reducible refine Step.mk ?_ ?_; focus (((try simp only [true_and, and_true, and_self, kmin, kmax, decide_eq_true_eq, decide_eq_false_iff_not, castD_self, castL_self, List.length_cons, List.length_nil, List.length_append, Int.natCast_add] at *) <;> omega))) | (with_reducible refine Step.mk ?_ ?_) | (with_reducible refine Way.t1 ?_) | (with_reducible refine Way.f1 ?_) | ((with_reducible refine Way.dec (fun zz => ?_) (fun zz => ?_)) <;> (try simp only [castD_self, castL_self] at zz) <;> try (exfalso; first | omega | contradiction)) | (with_reducible refine Way.nt ?_) | ((with_reducible refine Way.mk (fun _ => ?_) (fun _ => ?_)) <;> try (exfalso; rename_i hw; first | exact Bool.noConfusion ((Go.RowKit.Hid.out hb').symm.trans hw) | exact Bool.noConfusion (hw.symm.trans (Go.RowKit.Hid.out hb')))) | (with_reducible refine Drawn.mk (by kernel_rfl) ?_) | (refine Run.mk ?_)))
              · obtain ⟨f1, f2⟩ := fin.out 5 (by unfold chC; rw [if_neg (fun z => z x1), if_neg (fun z => z x2), if_neg (fun z => z x3), if_neg (fun z => z x4), if_pos (.inr ⟨hb, .inr (by omega)⟩)]) (by decide)
                refine Ret.mk ?_; rw [f1, f2]; rfl
              · have q : (l.getD ((k : Int)).toNat tCh.dflt).1 = decide (((l.getD ((k : Int)).toNat tCh.dflt).2.1.length : Int) = 0) := by assumption
                refine Back.by (k + 1) ?_ ⟨hlt, nxt.out (chC_good.2 ⟨x1, x2, x3, x4, fun z => ?_⟩)⟩ ?_
                · (refine Wk.keep ?_ ?_ <;> repeat' (first | exact True.intro | refine And.intro rfl ?_ | refine And.intro (congrArg (fun z : Int => AV.v false [Lf.d (.int .i64) z]) (by first | omega | (simp only [Int.natCast_add, List.length_cons, List.length_append, List.length_nil]; omega))) ?_ | refine And.intro ?_ ?_))
                · have q1 := of_decide_eq_false (q.symm.trans hb)
                  rcases z with ⟨z, -⟩ | ⟨-, z⟩
                  · exact absurd (hb.symm.trans z) (by decide)
                  · omega
                · show l.length - (k + 1) < l.length - k; omega
              · have q : ¬ (l.getD ((k : Int)).toNat tCh.dflt).1 = decide (((l.getD ((k : Int)).toNat tCh.dflt).2.1.length : Int) = 0) := by assumption
                have q1 : (l.getD ((k : Int)).toNat tCh.dflt).2.1.length = 0 := by
                  refine Classical.byContradiction fun z => q ?_
                  rw [hb, decide_eq_false (by omega)]
                obtain ⟨f1, f2⟩ := fin.out 5 (by unfold chC; rw [if_neg (fun z => z x1), if_neg (fun z => z x2), if_neg (fun z => z x3), if_neg (fun z => z x4), if_pos (.inr ⟨hb, .inl q1⟩)]) (by decide)
                refine Ret.mk ?_; rw [f1, f2]; rfl
            · replace hb' := Lib.hid hb
              (repeat' (first | (with_reducible refine Cend.go ?_) | (with_reducible refine Step.mk True.intro ?_) | (with_reducible refine Step.mk ?_ ?_; focus (((try simp only [true_and, and_true, and_self, kmin, kmax, decide_eq_true_eq, decide_eq_false_iff_not, castD_self, castL_self, List.length_cons, List.length_nil, List.length_append, Int.natCast_add] at *) <;> omega))) | (with_reducible refine Step.mk ?_ ?_) | (with_reducible refine Way.t1 ?_) | (with_reducible refine Way.f1 ?_) | ((with_reducible refine Way.dec (fun zz => ?_) (fun zz => ?_)) <;> (try simp only [castD_self, castL_self] at zz) <;> try (exfalso; first | omega | contradiction)) | (with_reducible refine Way.nt ?_) | ((with_reducible refine Way.mk (fun _ => ?_) (fun _ => ?_)) <;> try (exfalso; rename_i hw; first | exact Bool.noConfusion ((Go.RowKit.Hid.out hb').symm.trans hw) | exact Bool.noConfusion (hw.symm.trans (Go.RowKit.Hid.out hb')))) | (with_reducible refine Drawn.mk (by kernel_rfl) ?_) | (refine Run.mk ?_)))
              · have q : (l.getD ((k : Int)).toNat tCh.dflt).1 = decide (((l.getD ((k : Int)).toNat tCh.dflt).2.1.length : Int) = 0) := by assumption
                refine Back.by (k + 1) ?_ ⟨hlt, nxt.out (chC_good.2 ⟨x1, x2, x3, x4, fun z => ?_⟩)⟩ ?_
                · (refine Wk.keep ?_ ?_ <;> repeat' (first | exact True.intro | refine And.intro rfl ?_ | refine And.intro (congrArg (fun z : Int => AV.v false [Lf.d (.int .i64) z]) (by first | omega | (simp only [Int.natCast_add, List.length_cons, List.length_append, List.length_nil]; omega))) ?_ | refine And.intro ?_ ?_))
                · have q1 := of_decide_eq_true (q.symm.trans hb)
                  rcases z with ⟨-, z⟩ | ⟨z, -⟩
                  · omega
                  · exact absurd (hb.symm.trans z) (by decide)
                · show l.length - (k + 1) < l.length - k; omega
              · have q : ¬ (l.getD ((k : Int)).toNat tCh.dflt).1 = decide (((l.getD ((k : Int)).toNat tCh.dflt).2.1.length : Int) = 0) := by assumption
                have q1 : 0 < (l.getD ((k : Int)).toNat tCh.dflt).2.1.length := by
                  refine Classical.byContradiction fun z => q ?_
                  rw [hb, decide_eq_true (by omega)]
                obtain ⟨f1, f2⟩ := fin.out 5 (by unfold chC; rw [if_neg (fun z => z x1), if_neg (fun z => z x2), if_neg (fun z => z x3), if_neg (fun z => z x4), if_pos (.inl ⟨hb, q1⟩)]) (by decide)
                refine Ret.mk ?_; rw [f1, f2]; rfl
          · clear lens
            obtain ⟨f1, f2⟩ := fin.out (vC (l.getD ((k : Int)).toNat tCh.dflt).2.2.2.2) (by unfold chC; rw [if_neg (fun z => z x1), if_neg (fun z => z x2), if_neg (fun z => z x3), if_pos x4]) x4
            (repeat' (first | (with_reducible refine Cend.go ?_) | (with_reducible refine Step.mk True.intro ?_) | (with_reducible refine Step.mk ?_ ?_; focus (((try simp only [true_and, and_true, and_self, kmin, kmax, decide_eq_true_eq, decide_eq_false_iff_not, castD_self, castL_self, List.length_cons, List.length_nil, List.length_append, Int.natCast_add] at *) <;> omega))) | (with_reducible refine Step.mk ?_ ?_) | (with_reducible refine Way.t1 ?_) | (with_reducible refine Way.f1 ?_) | ((with_reducible refine Way.dec (fun zz => ?_) (fun zz => ?_)) <;> (try simp only [castD_self, castL_self] at zz) <;> try (exfalso; first | omega | contradiction)) | (with_reducible refine Way.nt ?_) | ((with_reducible refine Way.mk (fun _ => ?_) (fun _ => ?_)) <;> try (exfalso; rename_i hw; first | exact Bool.noConfusion ((Go.RowKit.Hid.out hg).symm.trans hw) | exact Bool.noConfusion (hw.symm.trans (Go.RowKit.Hid.out hg)))) | (with_reducible refine Drawn.mk (by kernel_rfl) ?_) | (refine Run.mk ?_)))
            all_goals (refine Ret.mk ?_; rw [f1, f2]; rfl)
        · clear lens
          obtain ⟨f1, f2⟩ := fin.out (vC (l.getD ((k : Int)).toNat tCh.dflt).2.2.2.1) (by unfold chC; rw [if_neg (fun z => z x1), if_neg (fun z => z x2), if_pos x3]) x3
          (repeat' (first | (with_reducible refine Cend.go ?_) | (with_reducible refine Step.mk True.intro ?_) | (with_reducible refine Step.mk ?_ ?_; focus (((try simp only [true_and, and_true, and_self, kmin, kmax, decide_eq_true_eq, decide_eq_false_iff_not, castD_self, castL_self, List.length_cons, List.length_nil, List.length_append, Int.natCast_add] at *) <;> omega))) | (with_reducible refine Step.mk ?_ ?_) | (with_reducible refine Way.t1 ?_) | (with_reducible refine Way.f1 ?_) | ((with_reducible refine Way.dec (fun zz => ?_) (fun zz => ?_)) <;> (try simp only [castD_self, castL_self] at zz) <;> try (exfalso; first | omega | contradiction)) | (with_reducible refine Way.nt ?_) | ((with_reducible refine Way.mk (fun _ => ?_) (fun _ => ?_)) <;> try (exfalso; rename_i hw; first | exact Bool.noConfusion ((Go.RowKit.Hid.out hg).symm.trans hw) | exact Bool.noConfusion (hw.symm.trans (Go.RowKit.Hid.out hg)))) | (with_reducible refine Drawn.mk (by kernel_rfl) ?_) | (refine Run.mk ?_)))
          all_goals (refine Ret.mk ?_; rw [f1, f2]; rfl)
      · clear lens
        obtain ⟨f1, f2⟩ := fin.out (vC (l.getD ((k : Int)).toNat tCh.dflt).2.2.1) (by unfold chC; rw [if_neg (fun z => z x1), if_pos x2]) x2
        (repeat' (first | (with_reducible refine Cend.go ?_) | (with_reducible refine Step.mk True.intro ?_) | (with_reducible refine Step.mk ?_ ?_; focus (((try simp only [true_and, and_true, and_self, kmin, kmax, decide_eq_true_eq, decide_eq_false_iff_not, castD_self, castL_self, List.length_cons, List.length_nil, List.length_append, Int.natCast_add] at *) <;> omega))) | (with_reducible refine Step.mk ?_ ?_) | (with_reducible refine Way.t1 ?_) | (with_reducible refine Way.f1 ?_) | ((with_reducible refine Way.dec (fun zz => ?_) (fun zz => ?_)) <;> (try simp only [castD_self, castL_self] at zz) <;> try (exfalso; first | omega | contradiction)) | (with_reducible refine Way.nt ?_) | ((with_reducible refine Way.mk (fun _ => ?_) (fun _ => ?_)) <;> try (exfalso; rename_i hw; first | exact Bool.noConfusion ((Go.RowKit.Hid.out hg).symm.trans hw) | exact Bool.noConfusion (hw.symm.trans (Go.RowKit.Hid.out hg)))) | (with_reducible refine Drawn.mk (by kernel_rfl) ?_) | (refine Run.mk ?_)))
        all_goals (refine Ret.mk ?_; rw [f1, f2]; rfl)
    · clear lens
      obtain ⟨f1, f2⟩ := fin.out (vC (l.getD ((k : Int)).toNat tCh.dflt).2.1) (by unfold chC; rw [if_pos x1]) x1
      (repeat' (first | (with_reducible refine Cend.go ?_) | (with_reducible refine Step.mk True.intro ?_) | (with_reducible refine Step.mk ?_ ?_; focus (((try simp only [true_and, and_true, and_self, kmin, kmax, decide_eq_true_eq, decide_eq_false_iff_not, castD_self, castL_self, List.length_cons, List.length_nil, List.length_append, Int.natCast_add] at *) <;> omega))) | (with_reducible refine Step.mk ?_ ?_) | (with_reducible refine Way.t1 ?_) | (with_reducible refine Way.f1 ?_) | ((with_reducible refine Way.dec (fun zz => ?_) (fun zz => ?_)) <;> (try simp only [castD_self, castL_self] at zz) <;> try (exfalso; first | omega | contradiction)) | (with_reducible refine Way.nt ?_) | ((with_reducible refine Way.mk (fun _ => ?_) (fun _ => ?_)) <;> try (exfalso; rename_i hw; first | exact Bool.noConfusion ((Go.RowKit.Hid.out hg).symm.trans hw) | exact Bool.noConfusion (hw.symm.trans (Go.RowKit.Hid.out hg)))) | (with_reducible refine Drawn.mk (by kernel_rfl) ?_) | (refine Run.mk ?_)))
      all_goals (refine Ret.mk ?_; rw [f1, f2]; rfl)
  · have e1 : ckC l = 0 := by rw [hcC, List.drop_eq_nil_of_le (by omega)]; rfl
    have e2 : ckI l = 0 := ckI_good l e1
    rw [e1, e2]
    clear hcC hcI
    (repeat' (first | (with_reducible refine Cend.go ?_) | (with_reducible refine Step.mk True.intro ?_) | (with_reducible refine Step.mk ?_ ?_; focus (((try simp only [true_and, and_true, and_self, kmin, kmax, decide_eq_true_eq, decide_eq_false_iff_not, castD_self, castL_self, List.length_cons, List.length_nil, List.length_append, Int.natCast_add] at *) <;> omega))) | (with_reducible refine Step.mk ?_ ?_) | (with_reducible refine Way.t1 ?_) | (with_reducible refine Way.f1 ?_) | ((with_reducible refine Way.dec (fun _ => ?_) (fun _ => ?_)) <;> try (exfalso; omega)) | (with_reducible refine Way.nt ?_) | (with_reducible refine Way.mk (fun _ => ?_) (fun _ => ?_)) | (with_reducible refine Drawn.mk (by kernel_rfl) ?_) | (refine Run.mk ?_)))
    all_goals first | exact Ret.mk rfl | skip
def sp_Conf : SpecF := pureSp true [.slice tCh] (fun (l', _) => l'.length ≤ 1000000) (fun (l', _) => .v false [.d (.int .i64) (nCf l' : Int)])
theorem Conf_sp : SpFact 42 sp_Conf := by
  refine ⟨⟨Try.f42, rfl, rfl, rfl, pureSp_ok (env_fine (sp := []) (eq := []) True.intro True.intro) rfl (fun ⟨_, _⟩ _ => rfl) ?_⟩, pureSp_loc _ _ _ _⟩
  rintro ⟨l, u⟩ - hl
  change List Ch at l
  have hl : l.length ≤ 1000000 := hl
  have hnl := nCf_len l
  (refine fnM_of rfl rfl rfl rfl ?_; dsimp only [params, argAV, Ty.leaves, Ty.isSt])
  (repeat' (first | (with_reducible refine Cend.go ?_) | (with_reducible refine Step.mk True.intro ?_) | (with_reducible refine Step.mk ?_ ?_; focus (((try simp only [true_and, and_true, and_self, kmin, kmax, decide_eq_true_eq, decide_eq_false_iff_not, castD_self, castL_self, List.length_cons, List.length_nil, List.length_append, Int.natCast_add] at *) <;> omega))) | (with_reducible refine Step.mk ?_ ?_) | (with_reducible refine Way.t1 ?_) | (with_reducible refine Way.f1 ?_) | ((with_reducible refine Way.dec (fun _ => ?_) (fun _ => ?_)) <;> try (exfalso; omega)) | (with_reducible refine Way.nt ?_) | (with_reducible refine Way.mk (fun _ => ?_) (fun _ => ?_)) | (with_reducible refine Drawn.mk (by kernel_rfl) ?_) | (refine Run.mk ?_)))
  refine loop_by (X := Nat) (fun x => [.put 0 (.v false [.d (.slice tCh) l]), .put 3 (.v false [.d (.int .i64) (nCf (l.take x) : Int)]), .put 4 (.v false [.d (.int .i64) (x : Int)])]) (fun _ => []) (fun x => x ≤ l.length) (fun x => l.length - x) 0 (Nat.zero_le _) ?_ ?_
  · (refine Wk.keep ?_ ?_ <;> repeat' (first | exact True.intro | refine And.intro rfl ?_ | refine And.intro (congrArg (fun z : Int => AV.v false [Lf.d (.int .i64) z]) (by first | omega | (simp only [Int.natCast_add, List.length_cons, List.length_append, List.length_nil]; omega))) ?_ | refine And.intro ?_ ?_))
  intro k hk
  (try dsimp only)
  have hnk := nCf_le l k
  by_cases hlt : k < l.length
  · have hg : l.getD ((k : Int)).toNat tCh.dflt = l[k] := getD_at tCh.dflt hlt
    have hnt := nCf_take hlt
    rw [← hg] at hnt
    cases hc : (l.getD ((k : Int)).toNat tCh.dflt).1
    · rw [hc] at hnt
      have hnt : nCf (l.take (k + 1)) = nCf (l.take k) := hnt
      replace hc := Lib.hid hc
      replace hg := Lib.hid hg
      (repeat' (first | (with_reducible refine Cend.go ?_) | (with_reducible refine Step.mk True.intro ?_) | (with_reducible refine Step.mk ?_ ?_; focus (((try simp only [true_and, and_true, and_self, kmin, kmax, decide_eq_true_eq, decide_eq_false_iff_not, castD_self, castL_self, List.length_cons, List.length_nil, List.length_append, Int.natCast_add] at *) <;> omega))) | (with_reducible refine Step.mk ?_ ?_) | (with_reducible refine Way.t1 ?_) | (with_reducible refine Way.f1 ?_) | ((with_reducible refine Way.dec (fun _ => ?_) (fun _ => ?_)) <;> try (exfalso; omega)) | (with_reducible refine Way.nt ?_) | ((with_reducible refine Way.mk (fun _ => ?_) (fun _ => ?_)) <;> try (exfalso; rename_i hw; first | exact Bool.noConfusion ((Go.RowKit.Hid.out hc).symm.trans hw) | exact Bool.noConfusion (hw.symm.trans (Go.RowKit.Hid.out hc)))) | (with_reducible refine Drawn.mk (by kernel_rfl) ?_) | (refine Run.mk ?_)))
      refine Back.by (k + 1) ?_ ?_ ?_
      · rw [hnt]
        (refine Wk.keep ?_ ?_ <;> repeat' (first | exact True.intro | refine And.intro rfl ?_ | refine And.intro (congrArg (fun z : Int => AV.v false [Lf.d (.int .i64) z]) (by first | omega | (simp only [Int.natCast_add, List.length_cons, List.length_append, List.length_nil]; omega))) ?_ | refine And.intro ?_ ?_))
      · exact hlt
      · show l.length - (k + 1) < l.length - k; omega
    · rw [hc] at hnt
      have hnt : nCf (l.take (k + 1)) = nCf (l.take k) + 1 := hnt
      replace hc := Lib.hid hc
      replace hg := Lib.hid hg
      (repeat' (first | (with_reducible refine Cend.go ?_) | (with_reducible refine Step.mk True.intro ?_) | (with_reducible refine Step.mk ?_ ?_; focus (((try simp only [true_and, and_true, and_self, kmin, kmax, decide_eq_true_eq, decide_eq_false_iff_not, castD_self, castL_self, List.length_cons, List.length_nil, List.length_append, Int.natCast_add] at *) <;> omega))) | (with_reducible refine Step.mk ?_ ?_) | (with_reducible refine Way.t1 ?_) | (with_reducible refine Way.f1 ?_) | ((with_reducible refine Way.dec (fun _ => ?_) (fun _ => ?_)) <;> try (exfalso; omega)) | (with_reducible refine Way.nt ?_) | ((with_reducible refine Way.mk (fun _ => ?_) (fun _ => ?_)) <;> try (exfalso; rename_i hw; first | exact Bool.noConfusion ((Go.RowKit.Hid.out hc).symm.trans hw) | exact Bool.noConfusion (hw.symm.trans (Go.RowKit.Hid.out hc)))) | (with_reducible refine Drawn.mk (by kernel_rfl) ?_) | (refine Run.mk ?_)))
      refine Back.by (k + 1) ?_ ?_ ?_
      · rw [hnt]
        (refine Wk.keep ?_ ?_ <;> repeat' (first | exact True.intro | refine And.intro rfl ?_ | refine And.intro (congrArg (fun z : Int => AV.v false [Lf.d (.int .i64) z]) (by first | omega | (simp only [Int.natCast_add, List.length_cons, List.length_append, List.length_nil]; omega))) ?_ | refine And.intro ?_ ?_))
      · exact hlt
      · show l.length - (k + 1) < l.length - k; omega
  · have e : l.take k = l := List.take_of_length_le (by omega)
    rw [e]
    clear e hnk
    (repeat' (first | (with_reducible refine Cend.go ?_) | (with_reducible refine Step.mk True.intro ?_) | (with_reducible refine Step.mk ?_ ?_; focus (((try simp only [true_and, and_true, and_self, kmin, kmax, decide_eq_true_eq, decide_eq_false_iff_not, castD_self, castL_self, List.length_cons, List.length_nil, List.length_append, Int.natCast_add] at *) <;> omega))) | (with_reducible refine Step.mk ?_ ?_) | (with_reducible refine Way.t1 ?_) | (with_reducible refine Way.f1 ?_) | ((with_reducible refine Way.dec (fun _ => ?_) (fun _ => ?_)) <;> try (exfalso; omega)) | (with_reducible refine Way.nt ?_) | (with_reducible refine Way.mk (fun _ => ?_) (fun _ => ?_)) | (with_reducible refine Drawn.mk (by kernel_rfl) ?_) | (refine Run.mk ?_)))
    exact Ret.mk rfl
end Go.Proofs.Ytppmhjaooiameaa
