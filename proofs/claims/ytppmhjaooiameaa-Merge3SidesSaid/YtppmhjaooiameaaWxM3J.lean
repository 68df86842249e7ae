/- choose; law Merge3Sides. -/
import Derived.Test.YtppmhjaooiameaaWxM3G
import Derived.Test.YtppmhjaooiameaaM3Law
namespace Go.Proofs.Ytppmhjaooiameaa
open Go.RowKit
set_option maxRecDepth 10000
set_option linter.unusedSimpArgs false

def sp_choose : SpecF := pureSp false [.slice tCh, .int .i64] (fun (l', _) => l'.length ≤ 1000000) (fun (l', n', _) => .v false [.d (.slice (.int .i64)) (List.replicate (nCf l') n')])
theorem choose_sp : SpFact 17 sp_choose := by
  refine ⟨⟨Try.f17, rfl, rfl, rfl, pureSp_okF (env_fine (sp := []) (eq := []) True.intro True.intro) rfl (fun ⟨_, _, _⟩ _ => rfl) ?_⟩, pureSp_loc _ _ _ _⟩
  rintro ⟨l, n, u⟩ - hl
  change List Ch at l
  change Int at n
  have hl : l.length ≤ 1000000 := hl
  have hnl := nCf_len l
  (refine fnM_of rfl rfl rfl rfl ?_; dsimp only [params, argAV, Ty.leaves, Ty.isSt])
  (repeat' (first | (with_reducible refine Cend.go ?_) | (with_reducible refine Step.mk True.intro ?_) | (with_reducible refine Step.mk ?_ ?_; focus (((try simp only [true_and, and_true, and_self, kmin, kmax, decide_eq_true_eq, decide_eq_false_iff_not, castD_self, castL_self, List.length_cons, List.length_nil, List.length_append, Int.natCast_add] at *) <;> omega))) | (with_reducible refine Step.mk ?_ ?_) | (with_reducible refine Way.t1 ?_) | (with_reducible refine Way.f1 ?_) | ((with_reducible refine Way.dec (fun _ => ?_) (fun _ => ?_)) <;> try (exfalso; omega)) | (with_reducible refine Way.nt ?_) | (with_reducible refine Way.mk (fun _ => ?_) (fun _ => ?_)) | (with_reducible refine Drawn.mk (by kernel_rfl) ?_) | (refine Run.mk ?_)))
  refine loop_by (X := Nat) (fun x => [.put 0 (.v false [.d (.slice tCh) l]), .put 1 (.v false [.d (.int .i64) n]), .put 5 (.v false [.o 91]), .put 6 (.v false [.d (.int .i64) (x : Int)])])
    (fun x => [.put 91 (.row 3 (.int .i64) (List.replicate (nCf (l.take x)) n))]) (fun x => x ≤ l.length) (fun x => l.length - x) 0 (Nat.zero_le _) ?_ ?_
  · refine (Wk.nilrow 5 91 3 (.int .i64) rfl).trans ?_
    (refine Wk.keep ?_ ?_ <;> repeat' (first | exact True.intro | refine And.intro rfl ?_ | refine And.intro (congrArg (fun z : Int => AV.v false [Lf.d (.int .i64) z]) (by first | omega | (simp only [Int.natCast_add, List.length_cons, List.length_append, List.length_nil]; omega))) ?_ | refine And.intro ?_ ?_))
  intro k hk
  (try dsimp only)
  have hnk := nCf_le l k
  have hnr : (List.replicate (nCf (l.take k)) n).length = nCf (l.take k) := List.length_replicate
  by_cases hlt : k < l.length
  · have hg : l.getD ((k : Int)).toNat tCh.dflt = l[k] := getD_at tCh.dflt hlt
    have hnt := nCf_take hlt
    rw [← hg] at hnt
    cases hc : (l.getD ((k : Int)).toNat tCh.dflt).1
    · rw [hc] at hnt
      have hnt : nCf (l.take (k + 1)) = nCf (l.take k) := hnt
      replace hc := Lib.hid hc
      replace hg := Lib.hid hg
      (repeat' (first | (with_reducible refine Cend.go ?_) | (with_reducible refine Step.mk True.intro ?_) | (with_reducible refine Step.mk ?_ ?_; focus (((try simp only [true_and, and_true, and_self, kmin, kmax, decide_eq_true_eq, decide_eq_false_iff_not, castD_self, castL_self, List.length_cons, List.length_nil, List.length_append, Int.natCast_add] at *) <;> omega))) | (with_reducible refine Step.mk ?_ ?_) | (with_reducible refine Way.t1 ?_) | (with_reducible refine Way.f1 ?_) | ((with_reducible refine Way.dec (fun _ => ?_) (fun _ => ?_)) <;> try (exfalso; omega)) | (with_reducible refine Way.nt ?_) | ((with_reducible refine Way.mk (fun _ => ?_) (fun _ => ?_)) <;> try (exfalso; rename_i hw; first | exact Bool.noConfusion ((Go.RowKit.Hid.out hc).symm.trans hw) | exact Bool.noConfusion (hw.symm.trans (Go.RowKit.Hid.out hc)))) | (with_reducible refine Drawn.mk (by kernel_rfl) ?_) | (refine Run.mk ?_)))
      refine Back.by (k + 1) ?_ ?_ ?_
      · rw [hnt]
        (refine Wk.keep ?_ ?_ <;> repeat' (first | exact True.intro | refine And.intro rfl ?_ | refine And.intro (congrArg (fun z : Int => AV.v false [Lf.d (.int .i64) z]) (by first | omega | (simp only [Int.natCast_add, List.length_cons, List.length_append, List.length_nil]; omega))) ?_ | refine And.intro ?_ ?_))
      · exact hlt
      · show l.length - (k + 1) < l.length - k; omega
    · rw [hc] at hnt
      have hnt : nCf (l.take (k + 1)) = nCf (l.take k) + 1 := hnt
      replace hc := Lib.hid hc
      replace hg := Lib.hid hg
      (repeat' (first | (with_reducible refine Cend.go ?_) | (with_reducible refine Step.mk True.intro ?_) | (with_reducible refine Step.mk ?_ ?_; focus (((try simp only [true_and, and_true, and_self, kmin, kmax, decide_eq_true_eq, decide_eq_false_iff_not, castD_self, castL_self, List.length_cons, List.length_nil, List.length_append, Int.natCast_add] at *) <;> omega))) | (with_reducible refine Step.mk ?_ ?_) | (with_reducible refine Way.t1 ?_) | (with_reducible refine Way.f1 ?_) | ((with_reducible refine Way.dec (fun _ => ?_) (fun _ => ?_)) <;> try (exfalso; omega)) | (with_reducible refine Way.nt ?_) | ((with_reducible refine Way.mk (fun _ => ?_) (fun _ => ?_)) <;> try (exfalso; rename_i hw; first | exact Bool.noConfusion ((Go.RowKit.Hid.out hc).symm.trans hw) | exact Bool.noConfusion (hw.symm.trans (Go.RowKit.Hid.out hc)))) | (with_reducible refine Drawn.mk (by kernel_rfl) ?_) | (refine Run.mk ?_)))
      refine Back.by (k + 1) ?_ ?_ ?_
      · rw [hnt, List.replicate_succ']
        (refine Wk.ren [(91, 21)] rfl ?_ ?_ <;> repeat' (first | exact True.intro | refine And.intro rfl ?_ | refine And.intro (congrArg (fun z : Int => AV.v false [Lf.d (.int .i64) z]) (by first | omega | (simp only [Int.natCast_add, List.length_cons, List.length_append, List.length_nil]; omega))) ?_ | refine And.intro ?_ ?_))
      · exact hlt
      · show l.length - (k + 1) < l.length - k; omega
  · have e : l.take k = l := List.take_of_length_le (by omega)
    rw [e]
    clear e hnk hnr
    (repeat' (first | (with_reducible refine Cend.go ?_) | (with_reducible refine Step.mk True.intro ?_) | (with_reducible refine Step.mk ?_ ?_; focus (((try simp only [true_and, and_true, and_self, kmin, kmax, decide_eq_true_eq, decide_eq_false_iff_not, castD_self, castL_self, List.length_cons, List.length_nil, List.length_append, Int.natCast_add] at *) <;> omega))) | (with_reducible refine Step.mk ?_ ?_) | (with_reducible refine Way.t1 ?_) | (with_reducible refine Way.f1 ?_) | ((with_reducible refine Way.dec (fun _ => ?_) (fun _ => ?_)) <;> try (exfalso; omega)) | (with_reducible refine Way.nt ?_) | (with_reducible refine Way.mk (fun _ => ?_) (fun _ => ?_)) | (with_reducible refine Drawn.mk (by kernel_rfl) ?_) | (refine Run.mk ?_)))
    exact Ret.mk ⟨rfl, .frz rfl, True.intro⟩
set_option maxHeartbeats 1000000 in
theorem law_Merge3Sides : SpFact 6 (pureSp false [.slice .str, .slice .str, .slice .str] (fun _ => True) (fun _ => .v false [.d .bool true])) := by
  refine ⟨⟨Try.f6, rfl, rfl, rfl, pureSp_ok (env_fine (sp := [(9, sp_Merge), (17, sp_choose), (16, sp_Resolve), (15, sp_Strings), (12, sp_opp)]) (eq := []) ⟨Merge_sp, choose_sp, Resolve_sp, Strings_sp, opposed_sp, True.intro⟩ True.intro) rfl (fun _ _ => rfl) ?_⟩, pureSp_loc _ _ _ _⟩
  rintro ⟨b, l, r, u⟩ - -
  change List ByteArray at b l r
  have hlen : (mgV b l r).length ≤ 1000 := mgV_len b l r
  have hok := mgV_ok b l r
  have h0 := mg_rsF hok (n := 0) (.inl rfl)
  have h1 := mg_rsF hok (n := 1) (.inr rfl)
  have hd := rs_diff hok
  have hz : nCf (mgV b l r) = 0 → rsL (mgV b l r) (List.replicate (nCf (mgV b l r)) 0) = rsL (mgV b l r) (List.replicate (nCf (mgV b l r)) 1) := fun z => by rw [z]; rfl
  replace hok := Lib.hid hok
  replace hd := Lib.hid hd
  replace hz := Lib.hid hz
  by_cases hm : mgC b l r = 0
  · have hv := Lib.hid hm
    by_cases g0 : (rsF (mgV b l r) (List.replicate (nCf (mgV b l r)) 0)).1 = 0
    · by_cases g1 : (rsF (mgV b l r) (List.replicate (nCf (mgV b l r)) 1)).1 = 0
      · obtain ⟨k0, b0⟩ := rsF_good g0
        obtain ⟨-, b1⟩ := rsF_good g1
        have w0 : rsL (mgV b l r) (List.replicate (nCf (mgV b l r)) 0) = rsN (mgV b l r) (List.replicate (nCf (mgV b l r)) 0) := if_pos g0
        have w1 : rsL (mgV b l r) (List.replicate (nCf (mgV b l r)) 1) = rsN (mgV b l r) (List.replicate (nCf (mgV b l r)) 1) := if_pos g1
        have hbd := @dS_bd (mgV b l r) k0
        have hpa := fun k hk => @ck_parts (mgV b l r) k0 k hk
        replace hbd := Lib.hid hbd
        replace hpa := Lib.hid hpa
        clear h0 h1
        have hlen6 : (mgV b l r).length ≤ 1000000 := by omega
        (refine fnM_of rfl rfl rfl rfl ?_; dsimp only [params, argAV, Ty.leaves, Ty.isSt])
        (repeat' (first | (with_reducible refine Cend.go ?_) | (with_reducible refine Step.mk True.intro ?_) | (with_reducible refine Step.mk ?_ ?_; focus (((try simp only [true_and, and_true, and_self, kmin, kmax, decide_eq_true_eq, decide_eq_false_iff_not, castD_self, castL_self, List.length_cons, List.length_nil, List.length_append, Int.natCast_add] at *) <;> omega))) | (with_reducible refine Step.mk ?_ ?_) | (with_reducible refine Way.t1 ?_) | (with_reducible refine Way.f1 ?_) | ((with_reducible refine Way.dec (fun zz => ?_) (fun zz => ?_)) <;> (try simp only [castD_self, castL_self] at zz) <;> try (exfalso; first | omega | contradiction)) | (with_reducible refine Way.nt ?_) | ((with_reducible refine Way.mk (fun _ => ?_) (fun _ => ?_)) <;> try (exfalso; rename_i hw; first | exact Bool.noConfusion ((Go.RowKit.Hid.out hv).symm.trans hw) | exact Bool.noConfusion (hw.symm.trans (Go.RowKit.Hid.out hv)))) | (with_reducible refine Drawn.mk (by kernel_rfl) ?_) | (refine Run.mk ?_)))
        refine loop_by (X := Nat) (fun x => [.put 7 (.v false [.d (.slice tCh) (mgV b l r)]), .put 9 (.v false [.d (.slice .str) (rsL (mgV b l r) (List.replicate (nCf (mgV b l r)) 0))]), .put 11 (.v false [.d (.slice .str) (rsL (mgV b l r) (List.replicate (nCf (mgV b l r)) 1))]), .put 13 (.v false [.d (.int .i64) (dS ((mgV b l r).take x))]), .put 14 (.v false [.d (.int .i64) (x : Int)])]) (fun _ => []) (fun x => x ≤ (mgV b l r).length) (fun x => (mgV b l r).length - x) 0 (Nat.zero_le _) ?_ ?_
        · (refine Wk.keep ?_ ?_ <;> repeat' (first | exact True.intro | refine And.intro rfl ?_ | refine And.intro (congrArg (fun z : Int => AV.v false [Lf.d (.int .i64) z]) (by first | omega | (simp only [Int.natCast_add, List.length_cons, List.length_append, List.length_nil]; omega))) ?_ | refine And.intro ?_ ?_))
        intro k hk
        (try dsimp only)
        by_cases hlt : k < (mgV b l r).length
        · have hg : (mgV b l r).getD ((k : Int)).toNat tCh.dflt = (mgV b l r)[k] := getD_at tCh.dflt hlt
          have hdt := dS_take hlt
          obtain ⟨p1, p2⟩ := hpa.out k hlt
          have b2 := hbd.out k
          rw [← hg] at hdt p1 p2
          obtain ⟨D, hD⟩ : ∃ D, dS ((mgV b l r).take k) = D := ⟨_, rfl⟩
          rw [hD] at hdt b2 ⊢
          replace hg := Lib.hid hg
          replace hD := Lib.hid hD
          (repeat' (first | (with_reducible refine Cend.go ?_) | (with_reducible refine Step.mk True.intro ?_) | (with_reducible refine Step.mk ?_ ?_; focus (((try simp only [true_and, and_true, and_self, kmin, kmax, decide_eq_true_eq, decide_eq_false_iff_not, castD_self, castL_self, List.length_cons, List.length_nil, List.length_append, Int.natCast_add] at *) <;> omega))) | (with_reducible refine Step.mk ?_ ?_) | (with_reducible refine Way.t1 ?_) | (with_reducible refine Way.f1 ?_) | ((with_reducible refine Way.dec (fun _ => ?_) (fun _ => ?_)) <;> try (exfalso; omega)) | (with_reducible refine Way.nt ?_) | (with_reducible refine Way.mk (fun _ => ?_) (fun _ => ?_)) | (with_reducible refine Drawn.mk (by kernel_rfl) ?_) | (refine Run.mk ?_)))
          refine Back.by (k + 1) ?_ ?_ ?_
          · rw [hdt, ← Int.add_sub_assoc]
            (refine Wk.keep ?_ ?_ <;> repeat' (first | exact True.intro | refine And.intro rfl ?_ | refine And.intro (congrArg (fun z : Int => AV.v false [Lf.d (.int .i64) z]) (by first | omega | (simp only [Int.natCast_add, List.length_cons, List.length_append, List.length_nil]; omega))) ?_ | refine And.intro ?_ ?_))
          · exact hlt
          · show (mgV b l r).length - (k + 1) < (mgV b l r).length - k; omega
        · have b2 := hbd.out (mgV b l r).length
          rw [List.take_length] at b2
          have e : (mgV b l r).take k = (mgV b l r) := List.take_of_length_le (by omega)
          rw [e]
          clear e
          have x0 : (rsL (mgV b l r) (List.replicate (nCf (mgV b l r)) 0)).length ≤ 120 := by rw [w0]; exact b0
          have x1 : (rsL (mgV b l r) (List.replicate (nCf (mgV b l r)) 1)).length ≤ 120 := by rw [w1]; exact b1
          have hfin : ((rsL (mgV b l r) (List.replicate (nCf (mgV b l r)) 1)).length : Int) - (rsL (mgV b l r) (List.replicate (nCf (mgV b l r)) 0)).length = dS (mgV b l r) := by rw [w0, w1]; exact hd.out
          have hnr : (List.replicate (nCf (mgV b l r)) (0 : Int)).length = nCf (mgV b l r) := List.length_replicate
          have hnl := nCf_len (mgV b l r)
          replace w0 := Lib.hid w0
          replace w1 := Lib.hid w1
          (repeat' (first | (with_reducible refine Cend.go ?_) | (with_reducible refine Step.mk True.intro ?_) | (with_reducible refine Step.mk ?_ ?_; focus (((try simp only [true_and, and_true, and_self, kmin, kmax, decide_eq_true_eq, decide_eq_false_iff_not, castD_self, castL_self, List.length_cons, List.length_nil, List.length_append, Int.natCast_add] at *) <;> omega))) | (with_reducible refine Step.mk ?_ ?_) | (with_reducible refine Way.t1 ?_) | (with_reducible refine Way.f1 ?_) | ((with_reducible refine Way.dec (fun _ => ?_) (fun _ => ?_)) <;> try (exfalso; omega)) | (with_reducible refine Way.nt ?_) | (with_reducible refine Way.mk (fun _ => ?_) (fun _ => ?_)) | (with_reducible refine Drawn.mk (by kernel_rfl) ?_) | (refine Run.mk ?_)))
          all_goals first
            | exact Ret.mk rfl
            | exact (show ((List.replicate (nCf (mgV b l r)) (0 : Int)).length : Int) ≤ 9223372036854775807 from by omega)
            | (have z : ¬ (0 : Int) < ((List.replicate (nCf (mgV b l r)) (0 : Int)).length : Int) := by assumption
               rename_i q
               exact absurd (hz.out (by omega)) q)
            | skip
      · have h1 := h1.resolve_left (fun z => g1 z.1)
        clear h0
        have hlen6 : (mgV b l r).length ≤ 1000000 := by omega
        rcases h1 with h1 | h1
        · (refine fnM_of rfl rfl rfl rfl ?_; dsimp only [params, argAV, Ty.leaves, Ty.isSt])
          (repeat' (first | (with_reducible refine Cend.go ?_) | (with_reducible refine Step.mk True.intro ?_) | (with_reducible refine Step.mk ?_ ?_; focus (((try simp only [true_and, and_true, and_self, kmin, kmax, decide_eq_true_eq, decide_eq_false_iff_not, castD_self, castL_self, List.length_cons, List.length_nil, List.length_append, Int.natCast_add] at *) <;> omega))) | (with_reducible refine Step.mk ?_ ?_) | (with_reducible refine Way.t1 ?_) | (with_reducible refine Way.f1 ?_) | ((with_reducible refine Way.dec (fun zz => ?_) (fun zz => ?_)) <;> (try simp only [castD_self, castL_self] at zz) <;> try (exfalso; first | omega | contradiction)) | (with_reducible refine Way.nt ?_) | ((with_reducible refine Way.mk (fun _ => ?_) (fun _ => ?_)) <;> try (exfalso; rename_i hw; first | exact Bool.noConfusion ((Go.RowKit.Hid.out hv).symm.trans hw) | exact Bool.noConfusion (hw.symm.trans (Go.RowKit.Hid.out hv)))) | (with_reducible refine Drawn.mk (by kernel_rfl) ?_) | (refine Run.mk ?_)))
          all_goals exact Ret.mk rfl
        · (refine fnM_of rfl rfl rfl rfl ?_; dsimp only [params, argAV, Ty.leaves, Ty.isSt])
          (repeat' (first | (with_reducible refine Cend.go ?_) | (with_reducible refine Step.mk True.intro ?_) | (with_reducible refine Step.mk ?_ ?_; focus (((try simp only [true_and, and_true, and_self, kmin, kmax, decide_eq_true_eq, decide_eq_false_iff_not, castD_self, castL_self, List.length_cons, List.length_nil, List.length_append, Int.natCast_add] at *) <;> omega))) | (with_reducible refine Step.mk ?_ ?_) | (with_reducible refine Way.t1 ?_) | (with_reducible refine Way.f1 ?_) | ((with_reducible refine Way.dec (fun zz => ?_) (fun zz => ?_)) <;> (try simp only [castD_self, castL_self] at zz) <;> try (exfalso; first | omega | contradiction)) | (with_reducible refine Way.nt ?_) | ((with_reducible refine Way.mk (fun _ => ?_) (fun _ => ?_)) <;> try (exfalso; rename_i hw; first | exact Bool.noConfusion ((Go.RowKit.Hid.out hv).symm.trans hw) | exact Bool.noConfusion (hw.symm.trans (Go.RowKit.Hid.out hv)))) | (with_reducible refine Drawn.mk (by kernel_rfl) ?_) | (refine Run.mk ?_)))
          all_goals exact Ret.mk rfl
    · have h0 := h0.resolve_left (fun z => g0 z.1)
      have hlen6 : (mgV b l r).length ≤ 1000000 := by omega
      have h1 : (rsF (mgV b l r) (List.replicate (nCf (mgV b l r)) 1)).1 = 0 ∨ (rsF (mgV b l r) (List.replicate (nCf (mgV b l r)) 1)).1 = 2 ∨ (rsF (mgV b l r) (List.replicate (nCf (mgV b l r)) 1)).1 = 10 := h1.imp (fun z => z.1) id
      (refine fnM_of rfl rfl rfl rfl ?_; dsimp only [params, argAV, Ty.leaves, Ty.isSt])
      (repeat' (first | (with_reducible refine Cend.go ?_) | (with_reducible refine Step.mk True.intro ?_) | (with_reducible refine Step.mk ?_ ?_; focus (((try simp only [true_and, and_true, and_self, kmin, kmax, decide_eq_true_eq, decide_eq_false_iff_not, castD_self, castL_self, List.length_cons, List.length_nil, List.length_append, Int.natCast_add] at *) <;> omega))) | (with_reducible refine Step.mk ?_ ?_) | (with_reducible refine Way.t1 ?_) | (with_reducible refine Way.f1 ?_) | ((with_reducible refine Way.dec (fun zz => ?_) (fun zz => ?_)) <;> (try simp only [castD_self, castL_self] at zz) <;> try (exfalso; first | omega | contradiction)) | (with_reducible refine Way.nt ?_) | ((with_reducible refine Way.mk (fun _ => ?_) (fun _ => ?_)) <;> try (exfalso; rename_i hw; first | exact Bool.noConfusion ((Go.RowKit.Hid.out hv).symm.trans hw) | exact Bool.noConfusion (hw.symm.trans (Go.RowKit.Hid.out hv)))) | (with_reducible refine Drawn.mk (by kernel_rfl) ?_) | (refine Run.mk ?_)))
      all_goals exact Ret.mk rfl
  · have hv := Lib.hid hm
    clear h0 h1
    (refine fnM_of rfl rfl rfl rfl ?_; dsimp only [params, argAV, Ty.leaves, Ty.isSt])
    (repeat' (first | (with_reducible refine Cend.go ?_) | (with_reducible refine Step.mk True.intro ?_) | (with_reducible refine Step.mk ?_ ?_; focus (((try simp only [true_and, and_true, and_self, kmin, kmax, decide_eq_true_eq, decide_eq_false_iff_not, castD_self, castL_self, List.length_cons, List.length_nil, List.length_append, Int.natCast_add] at *) <;> omega))) | (with_reducible refine Step.mk ?_ ?_) | (with_reducible refine Way.t1 ?_) | (with_reducible refine Way.f1 ?_) | ((with_reducible refine Way.dec (fun zz => ?_) (fun zz => ?_)) <;> (try simp only [castD_self, castL_self] at zz) <;> try (exfalso; first | omega | contradiction)) | (with_reducible refine Way.nt ?_) | ((with_reducible refine Way.mk (fun _ => ?_) (fun _ => ?_)) <;> try (exfalso; rename_i hw; first | exact Bool.noConfusion ((Go.RowKit.Hid.out hv).symm.trans hw) | exact Bool.noConfusion (hw.symm.trans (Go.RowKit.Hid.out hv)))) | (with_reducible refine Drawn.mk (by kernel_rfl) ?_) | (refine Run.mk ?_)))
    all_goals exact Ret.mk rfl
end Go.Proofs.Ytppmhjaooiameaa
