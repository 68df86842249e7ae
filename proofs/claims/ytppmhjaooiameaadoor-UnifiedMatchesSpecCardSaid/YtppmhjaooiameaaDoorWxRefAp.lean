/- The walks of the reference's Equal, has, Apply. -/
import Derived.Test.YtppmhjaooiameaaDoorRefApPure
import Derived.Test.YtppmhjaooiameaaDoorWxRefPF
import Derived.Test.YtppmhjaooiameaaDoorWxApply
import Derived.Test.YtppmhjaooiameaaDoorWxOkB
namespace Go.Proofs.YtppmhjaooiameaaDoor
open Go.RowKit
set_option maxRecDepth 10000
set_option linter.unusedSimpArgs false

def sp_REqual : SpecF := pureSp true [.slice .str, .slice .str] (fun _ => True) (fun (a', b', _) => .v false [.d .bool (decide (a' = b'))])
theorem REqual_sp : SpFact 50 sp_REqual := by
  refine ⟨⟨Tryd.f50, rfl, rfl, rfl, pureSp_ok (env_fine (sp := []) (eq := []) True.intro True.intro) rfl (fun ⟨_, _, _⟩ _ => rfl) ?_⟩, pureSp_loc _ _ _ _⟩
  rintro ⟨a, b, u⟩ ⟨⟨ha, -⟩, ⟨hb, -⟩, -⟩ -
  rw [maxLen_eq] at ha hb
  dsimp only at ha hb ⊢
  (refine fnM_of rfl rfl rfl rfl ?_; dsimp only [params, argAV, Ty.leaves, Ty.isSt])
  (repeat' (first | (with_reducible refine Cend.go ?_) | (with_reducible refine Step.mk True.intro ?_) | (with_reducible refine Step.mk ?_ ?_; focus (((try simp only [true_and, and_true, and_self, kmin, kmax, decide_eq_true_eq, decide_eq_false_iff_not, castD_self, castL_self, List.length_cons, List.length_nil, List.length_append, Int.natCast_add] at *) <;> omega))) | (with_reducible refine Step.mk ?_ ?_) | (with_reducible refine Way.t1 ?_) | (with_reducible refine Way.f1 ?_) | ((with_reducible refine Way.dec (fun _ => ?_) (fun _ => ?_)) <;> try (exfalso; omega)) | (with_reducible refine Way.nt ?_) | (with_reducible refine Way.mk (fun _ => ?_) (fun _ => ?_)) | (with_reducible refine Drawn.mk (by kernel_rfl) ?_) | (refine Run.mk ?_)))
  · rename_i h
    have h : a.length = b.length := by omega
    refine loop_by (X := Nat) (fun i => [.put 0 (.v false [.d (.slice .str) a]), .put 1 (.v false [.d (.slice .str) b]), .put 5 (.v false [.d (.int .i64) (i : Int)])]) (fun _ => []) (fun i => i ≤ a.length ∧ a.take i = b.take i) (fun i => a.length - i) 0 ⟨Nat.zero_le _, rfl⟩ ?_ ?_
    · (refine Wk.keep ?_ ?_ <;> repeat' (first | exact True.intro | refine And.intro rfl ?_ | refine And.intro (congrArg (fun z : Int => AV.v false [Lf.d (.int .i64) z]) (by first | omega | (simp only [Int.natCast_add, List.length_cons, List.length_append, List.length_nil]; omega))) ?_ | refine And.intro ?_ ?_))
    rintro i ⟨hi, ht⟩
    by_cases hlt : i < a.length
    · have ga := getD_at (a := a) Ty.str.dflt hlt
      have gb := getD_at (a := b) Ty.str.dflt (show i < b.length by omega)
      replace ht := Lib.hid ht
      replace ga := Lib.hid ga
      replace gb := Lib.hid gb
      (repeat' (first | (with_reducible refine Cend.go ?_) | (with_reducible refine Step.mk True.intro ?_) | (with_reducible refine Step.mk ?_ ?_; focus (((try simp only [true_and, and_true, and_self, kmin, kmax, decide_eq_true_eq, decide_eq_false_iff_not, castD_self, castL_self, List.length_cons, List.length_nil, List.length_append, Int.natCast_add] at *) <;> omega))) | (with_reducible refine Step.mk ?_ ?_) | (with_reducible refine Way.t1 ?_) | (with_reducible refine Way.f1 ?_) | ((with_reducible refine Way.dec (fun _ => ?_) (fun _ => ?_)) <;> try (exfalso; omega)) | (with_reducible refine Way.nt ?_) | (with_reducible refine Way.mk (fun _ => ?_) (fun _ => ?_)) | (with_reducible refine Drawn.mk (by kernel_rfl) ?_) | (refine Run.mk ?_)))
      · rename_i h2
        have h2 : a.getD ((i : Int)).toNat Ty.str.dflt = b.getD ((i : Int)).toNat Ty.str.dflt := h2
        rw [ga.out, gb.out] at h2
        (refine Back.by (i + 1) ?_ ?_ ?_; focus (refine Wk.keep ?_ ?_ <;> repeat' (first | exact True.intro | refine And.intro rfl ?_ | refine And.intro (congrArg (fun z : Int => AV.v false [Lf.d (.int .i64) z]) (by first | omega | (simp only [Int.natCast_add, List.length_cons, List.length_append, List.length_nil]; omega))) ?_ | refine And.intro ?_ ?_)))
        · exact ⟨hlt, take_next hlt (by omega) ht.out h2⟩
        · show a.length - (i + 1) < a.length - i; omega
      · rename_i h2
        have h2 : ¬ a.getD ((i : Int)).toNat Ty.str.dflt = b.getD ((i : Int)).toNat Ty.str.dflt := h2
        rw [ga.out, gb.out] at h2
        (refine Ret.mk (show AV.v false [Lf.d .bool false] = AV.v false [Lf.d .bool _] from congrArg (fun z => AV.v false [Lf.d .bool z]) (Eq.symm (decide_eq_false (ne_at hlt (show i < b.length by omega) h2)))))
    · (repeat' (first | (with_reducible refine Cend.go ?_) | (with_reducible refine Step.mk True.intro ?_) | (with_reducible refine Step.mk ?_ ?_; focus (((try simp only [true_and, and_true, and_self, kmin, kmax, decide_eq_true_eq, decide_eq_false_iff_not, castD_self, castL_self, List.length_cons, List.length_nil, List.length_append, Int.natCast_add] at *) <;> omega))) | (with_reducible refine Step.mk ?_ ?_) | (with_reducible refine Way.t1 ?_) | (with_reducible refine Way.f1 ?_) | ((with_reducible refine Way.dec (fun _ => ?_) (fun _ => ?_)) <;> try (exfalso; omega)) | (with_reducible refine Way.nt ?_) | (with_reducible refine Way.mk (fun _ => ?_) (fun _ => ?_)) | (with_reducible refine Drawn.mk (by kernel_rfl) ?_) | (refine Run.mk ?_)))
      have : a = b := take_eq_all h (by rw [show a.length = i by omega]; exact ht)
      (refine Ret.mk (show AV.v false [Lf.d .bool true] = AV.v false [Lf.d .bool _] from congrArg (fun z => AV.v false [Lf.d .bool z]) (Eq.symm (decide_eq_true this))))
  · rename_i h
    (refine Ret.mk (show AV.v false [Lf.d .bool false] = AV.v false [Lf.d .bool _] from congrArg (fun z => AV.v false [Lf.d .bool z]) (Eq.symm (decide_eq_false (by rintro rfl; exact h rfl)))))

def sp_has : SpecF := pureSp false [.slice .str, .int .i64, .slice .str] (fun (t', a', o', _) => -1000000 ≤ a' ∧ a' ≤ 1000000 ∧ o'.length ≤ 1000000) (fun (t', a', o', _) => .v false [.d .bool (occ t' o' a')])
theorem has_sp : SpFact 32 sp_has := by
  refine ⟨⟨Tryd.f32, rfl, rfl, rfl, pureSp_ok (env_fine (sp := [(50, sp_REqual)]) (eq := []) ⟨REqual_sp, True.intro⟩ True.intro) rfl (fun ⟨_, _, _, _⟩ _ => rfl) ?_⟩, pureSp_loc _ _ _ _⟩
  rintro ⟨t, a, o, u⟩ ⟨⟨ht, -⟩, -, -⟩ ⟨h1, h2, h3⟩
  rw [maxLen_eq] at ht
  dsimp only at ht h1 h2 h3
  change List ByteArray at t o
  change Int at a
  have h1 : -1000000 ≤ a := h1
  have h2 : a ≤ 1000000 := h2
  have h3 : o.length ≤ 1000000 := h3
  have ht : t.length ≤ 9223372036854775807 := ht
  (refine fnM_of rfl rfl rfl rfl ?_; dsimp only [params, argAV, Ty.leaves, Ty.isSt])
  (repeat' (first | (with_reducible refine Cend.go ?_) | (with_reducible refine Step.mk True.intro ?_) | (with_reducible refine Step.mk ?_ ?_; focus (((try simp only [true_and, and_true, and_self, kmin, kmax, decide_eq_true_eq, decide_eq_false_iff_not, castD_self, castL_self, List.length_cons, List.length_nil, List.length_append, Int.natCast_add] at *) <;> omega))) | (with_reducible refine Step.mk ?_ ?_) | (with_reducible refine Way.t1 ?_) | (with_reducible refine Way.f1 ?_) | ((with_reducible refine Way.dec (fun _ => ?_) (fun _ => ?_)) <;> try (exfalso; omega)) | (with_reducible refine Way.nt ?_) | (with_reducible refine Way.mk (fun _ => ?_) (fun _ => ?_)) | (with_reducible refine Drawn.mk (by kernel_rfl) ?_) | (refine Run.mk ?_)))
  · rename_i q1
    refine Ret.mk ?_
    show AV.v false [.d .bool false] = _
    rw [show occ t o a = false from by unfold occ; rw [decide_eq_false (show ¬ 0 ≤ a by omega)]; simp]
  · rename_i q1 q2
    refine Ret.mk ?_
    show AV.v false [.d .bool false] = _
    rw [show occ t o a = false from by unfold occ; rw [decide_eq_false (show ¬ (o.length : Int) ≤ t.length - a by omega)]; simp]
  · rename_i q1 q2
    refine Ret.mk ?_
    show AV.v false [.d .bool (decide ((t.take (a + o.length).toNat).drop a.toNat = o))] = _
    rw [show occ t o a = decide ((t.take (a + o.length).toNat).drop a.toNat = o) from by unfold occ; rw [decide_eq_true (show 0 ≤ a by omega), decide_eq_true (show a ≤ t.length by omega), decide_eq_true (show (o.length : Int) ≤ t.length - a by omega)]; rfl]

def sp_RApply : SpecF := pureSp true [tPat, .slice .str] (fun _ => True) (fun (p', t', _) => .tu [(false, [.d (.slice .str) (apL p' t')]), (true, [.d (.int .i64) (apF p' t').1, .d (.int .i64) (apF p' t').2])])
set_option maxHeartbeats 2000000 in
theorem RApply_sp : SpFact 21 sp_RApply := by
  refine ⟨⟨Tryd.f21, rfl, rfl, rfl, pureSp_okB (env_fine (sp := [(30, sp_PF), (31, sp_LCode), (32, sp_has), (22, sp_At), (23, sp_REnd)]) (eq := [])
    ⟨PF_sp, LCode_sp, has_sp, At_sp, REnd_sp, True.intro⟩ True.intro) rfl ?_⟩, pureSp_loc _ _ _ _⟩
  rintro ⟨p, t, u⟩ - -
  change List Hk at p
  change List ByteArray at t
  by_cases hp : pC p = 0
  · by_cases ht : vC t = 0
    · obtain ⟨hlen, hok⟩ := pC_ok hp
      have htl := vC_len t ht
      replace hok := Lib.hid hok
      replace hp := Lib.hid hp
      replace ht := Lib.hid ht
      (refine fnM_of rfl rfl rfl rfl ?_; dsimp only [params, argAV, Ty.leaves, Ty.isSt])
      (repeat' (first | (with_reducible refine Cend.go ?_) | (with_reducible refine Step.mk True.intro ?_) | (with_reducible refine Step.mk ?_ ?_; focus (((try simp only [true_and, and_true, and_self, kmin, kmax, decide_eq_true_eq, decide_eq_false_iff_not, castD_self, castL_self, List.length_cons, List.length_nil, List.length_append, Int.natCast_add] at *) <;> omega))) | (with_reducible refine Step.mk ?_ ?_) | (with_reducible refine Way.t1 ?_) | (with_reducible refine Way.f1 ?_) | ((with_reducible refine Way.dec (fun _ => ?_) (fun _ => ?_)) <;> try (exfalso; omega)) | (with_reducible refine Way.nt ?_) | (with_reducible refine Way.mk (fun _ => ?_) (fun _ => ?_)) | (with_reducible refine Drawn.mk (by kernel_rfl) ?_) | (refine Run.mk ?_)))
      all_goals try (rename_i q; exact absurd hp.out q)
      all_goals try (rename_i q; exact absurd ht.out q)
      refine loop_by (X := Nat) (fun k => [.put 1 (.v false [.d (.slice .str) t]), .put 2 (.v false [.p 2 0]), .put 4 (.v false [.nl]), .put 5 (.v false [.p 5 0]), .put 8 (.v false [.d (.int .i64) (k : Int)])])
        (fun _ => [.put 2 (.box 25 [.d (.slice tHk) p]), .put 5 (.box 27 [.d (.int .i64) 0, .d (.int .i64) 0])]) (fun k => k ≤ p.length ∧ missI t 0 p = missI t k (p.drop k)) (fun k => p.length - k) 0 ⟨Nat.zero_le _, rfl⟩ ?_ ?_
      · (refine Wk.keep ?_ ?_ <;> repeat' (first | exact True.intro | refine And.intro rfl ?_ | refine And.intro (congrArg (fun z : Int => AV.v false [Lf.d (.int .i64) z]) (by first | omega | (simp only [Int.natCast_add, List.length_cons, List.length_append, List.length_nil]; omega))) ?_ | refine And.intro ?_ ?_))
      rintro k ⟨hk, hm⟩
      dsimp only at hk hm ⊢
      by_cases hlt : k < p.length
      · have hg := getD_at (a := p) tHk.dflt hlt
        have ho := hok.out p[k] (List.getElem_mem hlt)
        rw [missI_step hlt, ← hg] at hm
        rw [← hg] at ho
        obtain ⟨o1, o2, o3, o4⟩ := ho
        replace hg := Lib.hid hg
        replace hm := Lib.hid hm
        (repeat' (first | (with_reducible refine Cend.go ?_) | (with_reducible refine Step.mk True.intro ?_) | (with_reducible refine Step.mk ?_ ?_; focus (((try simp only [true_and, and_true, and_self, kmin, kmax, decide_eq_true_eq, decide_eq_false_iff_not, castD_self, castL_self, List.length_cons, List.length_nil, List.length_append, Int.natCast_add] at *) <;> omega))) | (with_reducible refine Step.mk ?_ ?_) | (with_reducible refine Way.t1 ?_) | (with_reducible refine Way.f1 ?_) | ((with_reducible refine Way.dec (fun _ => ?_) (fun _ => ?_)) <;> try (exfalso; omega)) | (with_reducible refine Way.nt ?_) | (with_reducible refine Way.mk (fun _ => ?_) (fun _ => ?_)) | (with_reducible refine Drawn.mk (by kernel_rfl) ?_) | (refine Run.mk ?_)))
        · exact ⟨show -1000000 ≤ (p.getD ((k : Int)).toNat tHk.dflt).1 by omega, show (p.getD ((k : Int)).toNat tHk.dflt).1 ≤ 1000000 by omega, show (p.getD ((k : Int)).toNat tHk.dflt).2.1.length ≤ 1000000 by omega⟩
        · rename_i h
          have h : occ t (p.getD ((k : Int)).toNat tHk.dflt).2.1 (p.getD ((k : Int)).toNat tHk.dflt).1 = true := h
          (refine Back.by (k + 1) ?_ ?_ ?_; focus (refine Wk.keep ?_ ?_ <;> repeat' (first | exact True.intro | refine And.intro rfl ?_ | refine And.intro (congrArg (fun z : Int => AV.v false [Lf.d (.int .i64) z]) (by first | omega | (simp only [Int.natCast_add, List.length_cons, List.length_append, List.length_nil]; omega))) ?_ | refine And.intro ?_ ?_)))
          · exact ⟨hlt, hm.out.trans (if_pos h)⟩
          · show p.length - (k + 1) < p.length - k; omega
        · rename_i h
          have h : occ t (p.getD ((k : Int)).toNat tHk.dflt).2.1 (p.getD ((k : Int)).toNat tHk.dflt).1 = false := h
          have hm' : missI t 0 p = some k := hm.out.trans (if_neg (by rw [h]; decide))
          refine Ret.mk ?_
          have e1 : apF p t = (19, (k : Int)) := by unfold apF; rw [if_neg (by rw [hp.out]; decide), if_neg (by rw [ht.out]; decide), hm']
          rw [show apL p t = [] from if_neg (by rw [e1]; show ¬ (19 : Int) = 0; decide), e1]
          exact ⟨⟨rfl, (by first | exact fbL.nil rfl | exact fbL.row rfl rfl), True.intro⟩, ⟨rfl, .same rfl, .same rfl, True.intro⟩, True.intro⟩
      · have hm : missI t 0 p = none := by rw [hm, List.drop_eq_nil_of_le (by omega)]; rfl
        have hraw : rawOk t t.length 0 p := by
          have hp' := hp.out
          unfold pC at hp'
          rw [if_neg (by omega)] at hp'
          exact rawOk_of htl p (-1) 0 hp' (Int.le_refl _) (.inl (by decide)) (by omega) (missI_none p 0 hm)
        have hrl : ∀ k, (raw t t.length 0 (p.drop k)).length ≤ 120 + 240 * (p.length - k) := fun k => by
          have := raw_len (high := (t.length : Int)) htl (p.drop k) 0 fun x hx => (hok.out x (List.mem_of_mem_drop hx)).2.2.2
          rwa [List.length_drop] at this
        have hbk := fun k (hk : k < p.length) => raw_back hraw k hk
        replace hm := Lib.hid hm
        replace hraw := Lib.hid hraw
        replace hrl := Lib.hid hrl
        replace hbk := Lib.hid hbk
        (repeat' (first | (with_reducible refine Cend.go ?_) | (with_reducible refine Step.mk True.intro ?_) | (with_reducible refine Step.mk ?_ ?_; focus (((try simp only [true_and, and_true, and_self, kmin, kmax, decide_eq_true_eq, decide_eq_false_iff_not, castD_self, castL_self, List.length_cons, List.length_nil, List.length_append, Int.natCast_add] at *) <;> omega))) | (with_reducible refine Step.mk ?_ ?_) | (with_reducible refine Way.t1 ?_) | (with_reducible refine Way.f1 ?_) | ((with_reducible refine Way.dec (fun _ => ?_) (fun _ => ?_)) <;> try (exfalso; omega)) | (with_reducible refine Way.nt ?_) | (with_reducible refine Way.mk (fun _ => ?_) (fun _ => ?_)) | (with_reducible refine Drawn.mk (by kernel_rfl) ?_) | (refine Run.mk ?_)))
        refine loop_by (X := Nat) (fun k => [.put 2 (.v false [.p 2 0]), .put 4 (.v false [.nl]), .put 5 (.v false [.p 5 0]), .put 9 (.v false [.o 91]), .put 10 (.v false [.d (.int .i64) ((k : Int) - 1)])])
          (fun k => [.put 2 (.box 25 [.d (.slice tHk) p]), .put 5 (.box 27 [.d (.int .i64) 0, .d (.int .i64) 0]), .put 91 (.row 9 .str (raw t t.length 0 (p.drop k)))]) (fun k => k ≤ p.length) (fun k => k) p.length (Nat.le_refl _) ?_ ?_
        · rw [show p.drop p.length = [] from List.drop_length, raw_start]
          (refine Wk.ren [(91, 51)] rfl ?_ ?_ <;> repeat' (first | exact True.intro | refine And.intro rfl ?_ | refine And.intro (congrArg (fun z : Int => AV.v false [Lf.d (.int .i64) z]) (by first | omega | (simp only [Int.natCast_add, List.length_cons, List.length_append, List.length_nil]; omega))) ?_ | refine And.intro ?_ ?_))
        intro k hk
        (try dsimp only)
        cases k with
        | zero =>
          rw [List.drop_zero]
          have hr0 := hrl.out 0
          rw [List.drop_zero] at hr0
          (repeat' (first | (with_reducible refine Cend.go ?_) | (with_reducible refine Step.mk True.intro ?_) | (with_reducible refine Step.mk ?_ ?_; focus (((try simp only [true_and, and_true, and_self, kmin, kmax, decide_eq_true_eq, decide_eq_false_iff_not, castD_self, castL_self, List.length_cons, List.length_nil, List.length_append, Int.natCast_add] at *) <;> omega))) | (with_reducible refine Step.mk ?_ ?_) | (with_reducible refine Way.t1 ?_) | (with_reducible refine Way.f1 ?_) | ((with_reducible refine Way.dec (fun _ => ?_) (fun _ => ?_)) <;> try (exfalso; omega)) | (with_reducible refine Way.nt ?_) | (with_reducible refine Way.mk (fun _ => ?_) (fun _ => ?_)) | (with_reducible refine Drawn.mk (by kernel_rfl) ?_) | (refine Run.mk ?_)))
          · rename_i h
            have h : 120 < ((raw t t.length 0 p).length : Int) := h
            have h : 120 < (raw t t.length 0 p).length := by omega
            refine Ret.mk ?_
            have e1 : apF p t = (10, -1) := by unfold apF; rw [if_neg (by rw [hp.out]; decide), if_neg (by rw [ht.out]; decide), hm.out]; exact if_pos h
            rw [show apL p t = [] from if_neg (by rw [e1]; decide), e1]
            exact ⟨⟨rfl, (by first | exact fbL.nil rfl | exact fbL.row rfl rfl), True.intro⟩, ⟨rfl, .same rfl, .same rfl, True.intro⟩, True.intro⟩
          · rename_i h
            have h : ¬ 120 < ((raw t t.length 0 p).length : Int) := h
            have h : ¬ 120 < (raw t t.length 0 p).length := by omega
            refine Ret.mk ?_
            have e1 : apF p t = (0, 0) := by unfold apF; rw [if_neg (by rw [hp.out]; decide), if_neg (by rw [ht.out]; decide), hm.out]; exact if_neg h
            rw [show apL p t = raw t t.length 0 p from if_pos (by rw [e1]), e1]
            exact ⟨⟨rfl, (by first | exact fbL.nil rfl | exact fbL.row rfl rfl), True.intro⟩, ⟨rfl, .same rfl, .same rfl, True.intro⟩, True.intro⟩
        | succ k =>
          have hlt2 : k < p.length := by omega
          have hg := getD_at (a := p) tHk.dflt hlt2
          obtain ⟨b1, b2⟩ := hbk.out k hlt2
          have hr1 := hrl.out (k + 1)
          have ho := hok.out p[k] (List.getElem_mem hlt2)
          rw [← hg] at b1 b2 ho
          have hkk : ((((k + 1 : Nat) : Int) - 1)).toNat = ((k : Int)).toNat := by omega
          rw [← hkk] at b1 b2 ho
          obtain ⟨o1, o2, o3, o4⟩ := ho
          have b2 : (p.getD ((((k + 1 : Nat) : Int) - 1)).toNat tHk.dflt).1 + (p.getD ((((k + 1 : Nat) : Int) - 1)).toNat tHk.dflt).2.1.length ≤ (raw t t.length 0 (p.drop (k + 1))).length := b2
          replace hg := Lib.hid hg
          replace b1 := Lib.hid b1
          obtain ⟨R, hR⟩ : ∃ R, raw t t.length 0 (p.drop (k + 1)) = R := ⟨_, rfl⟩
          rw [hR] at b1 b2 hr1 ⊢
          have dl : (R.drop (hkEnd (p.getD ((((k + 1 : Nat) : Int) - 1)).toNat tHk.dflt)).toNat).length ≤ R.length := by rw [List.length_drop]; omega
          have tl : (R.take (p.getD ((((k + 1 : Nat) : Int) - 1)).toNat tHk.dflt).1.toNat).length ≤ R.length := by rw [List.length_take]; omega
          have e4 : (R.take ((p.getD ((((k + 1 : Nat) : Int) - 1)).toNat tHk.dflt).1.toNat - Int.toNat 0)) ++ (p.getD ((((k + 1 : Nat) : Int) - 1)).toNat tHk.dflt).2.2 ++ ([] ++ List.take ((((R.length : Nat) : Int)).toNat - (hkEnd (p.getD ((((k + 1 : Nat) : Int) - 1)).toNat tHk.dflt)).toNat) (List.drop (hkEnd (p.getD ((((k + 1 : Nat) : Int) - 1)).toNat tHk.dflt)).toNat R)) = raw t t.length 0 (p.drop k) := by
            rw [← b1.out, List.nil_append, List.take_of_length_le (l := List.drop (hkEnd (p.getD ((((k + 1 : Nat) : Int) - 1)).toNat tHk.dflt)).toNat R) (by rw [List.length_drop]; omega)]
            rfl
          replace e4 := Lib.hid e4
          (repeat' (first | (with_reducible refine Cend.go ?_) | (with_reducible refine Step.mk True.intro ?_) | (with_reducible refine Step.mk ?_ ?_; focus (((try simp only [true_and, and_true, and_self, kmin, kmax, decide_eq_true_eq, decide_eq_false_iff_not, castD_self, castL_self, List.length_cons, List.length_nil, List.length_append, Int.natCast_add] at *) <;> omega))) | (with_reducible refine Step.mk ?_ ?_) | (with_reducible refine Way.t1 ?_) | (with_reducible refine Way.f1 ?_) | ((with_reducible refine Way.dec (fun _ => ?_) (fun _ => ?_)) <;> try (exfalso; omega)) | (with_reducible refine Way.nt ?_) | (with_reducible refine Way.mk (fun _ => ?_) (fun _ => ?_)) | (with_reducible refine Drawn.mk (by kernel_rfl) ?_) | (refine Run.mk ?_)))
          · exact ⟨show -1000000 ≤ (p.getD ((((k + 1 : Nat) : Int) - 1)).toNat tHk.dflt).1 by omega, show (p.getD ((((k + 1 : Nat) : Int) - 1)).toNat tHk.dflt).1 ≤ 1000000 by omega, o3, o4⟩
          · show 0 ≤ (p.getD ((((k + 1 : Nat) : Int) - 1)).toNat tHk.dflt).1 + (((p.getD ((((k + 1 : Nat) : Int) - 1)).toNat tHk.dflt).2.1.length : Nat) : Int) ∧ (p.getD ((((k + 1 : Nat) : Int) - 1)).toNat tHk.dflt).1 + (((p.getD ((((k + 1 : Nat) : Int) - 1)).toNat tHk.dflt).2.1.length : Nat) : Int) ≤ ((R.length : Nat) : Int) ∧ ((R.length : Nat) : Int) ≤ ((R.length : Nat) : Int)
            omega
          · show (0 + (List.take ((((R.length : Nat) : Int)).toNat - (hkEnd (p.getD ((((k + 1 : Nat) : Int) - 1)).toNat tHk.dflt)).toNat) (List.drop (hkEnd (p.getD ((((k + 1 : Nat) : Int) - 1)).toNat tHk.dflt)).toNat R)).length) * 16 ≤ 140737488355328 ∧ 0 + (List.take ((((R.length : Nat) : Int)).toNat - (hkEnd (p.getD ((((k + 1 : Nat) : Int) - 1)).toNat tHk.dflt)).toNat) (List.drop (hkEnd (p.getD ((((k + 1 : Nat) : Int) - 1)).toNat tHk.dflt)).toNat R)).length ≤ 1000000000000
            rw [List.length_take]
            omega
          · show ((R.take ((p.getD ((((k + 1 : Nat) : Int) - 1)).toNat tHk.dflt).1.toNat - 0)).length + (p.getD ((((k + 1 : Nat) : Int) - 1)).toNat tHk.dflt).2.2.length) * 16 ≤ 140737488355328 ∧ (R.take ((p.getD ((((k + 1 : Nat) : Int) - 1)).toNat tHk.dflt).1.toNat - 0)).length + (p.getD ((((k + 1 : Nat) : Int) - 1)).toNat tHk.dflt).2.2.length ≤ 1000000000000
            rw [Nat.sub_zero]
            omega
          · dsimp only
            simp only [castL_self, castD_self, List.length_append, List.length_take, List.length_nil]
            omega
          · refine Back.by k ?_ ?_ ?_
            · rw [← e4.out]
              (refine Wk.ren [(91, 79)] rfl ?_ ?_ <;> repeat' (first | exact True.intro | refine And.intro rfl ?_ | refine And.intro (congrArg (fun z : Int => AV.v false [Lf.d (.int .i64) z]) (by first | omega | (simp only [Int.natCast_add, List.length_cons, List.length_append, List.length_nil]; omega))) ?_ | refine And.intro ?_ ?_))
            · show k ≤ p.length; omega
            · show k < k + 1; omega
    · (refine fnM_of rfl rfl rfl rfl ?_; dsimp only [params, argAV, Ty.leaves, Ty.isSt])
      (repeat' (first | (with_reducible refine Cend.go ?_) | (with_reducible refine Step.mk True.intro ?_) | (with_reducible refine Step.mk ?_ ?_; focus (((try simp only [true_and, and_true, and_self, kmin, kmax, decide_eq_true_eq, decide_eq_false_iff_not, castD_self, castL_self, List.length_cons, List.length_nil, List.length_append, Int.natCast_add] at *) <;> omega))) | (with_reducible refine Step.mk ?_ ?_) | (with_reducible refine Way.t1 ?_) | (with_reducible refine Way.f1 ?_) | ((with_reducible refine Way.dec (fun _ => ?_) (fun _ => ?_)) <;> try (exfalso; omega)) | (with_reducible refine Way.nt ?_) | (with_reducible refine Way.mk (fun _ => ?_) (fun _ => ?_)) | (with_reducible refine Drawn.mk (by kernel_rfl) ?_) | (refine Run.mk ?_)))
      all_goals try (rename_i q; exact absurd hp q)
      all_goals try (exfalso; rename_i q; exact ht q)
      refine Ret.mk ?_
      have e1 : apF p t = (vC t, -2) := by unfold apF; rw [if_neg (by rw [hp]; decide), if_pos ht]
      rw [show apL p t = [] from if_neg (by rw [e1]; exact ht), e1]
      exact ⟨⟨rfl, (by first | exact fbL.nil rfl | exact fbL.row rfl rfl), True.intro⟩, ⟨rfl, .same rfl, .same rfl, True.intro⟩, True.intro⟩
  · (refine fnM_of rfl rfl rfl rfl ?_; dsimp only [params, argAV, Ty.leaves, Ty.isSt])
    (repeat' (first | (with_reducible refine Cend.go ?_) | (with_reducible refine Step.mk True.intro ?_) | (with_reducible refine Step.mk ?_ ?_; focus (((try simp only [true_and, and_true, and_self, kmin, kmax, decide_eq_true_eq, decide_eq_false_iff_not, castD_self, castL_self, List.length_cons, List.length_nil, List.length_append, Int.natCast_add] at *) <;> omega))) | (with_reducible refine Step.mk ?_ ?_) | (with_reducible refine Way.t1 ?_) | (with_reducible refine Way.f1 ?_) | ((with_reducible refine Way.dec (fun _ => ?_) (fun _ => ?_)) <;> try (exfalso; omega)) | (with_reducible refine Way.nt ?_) | (with_reducible refine Way.mk (fun _ => ?_) (fun _ => ?_)) | (with_reducible refine Drawn.mk (by kernel_rfl) ?_) | (refine Run.mk ?_)))
    all_goals try (exfalso; rename_i q _; exact hp q)
    all_goals try (exfalso; rename_i q; exact hp q)
    refine Ret.mk ?_
    have e1 : apF p t = (pC p, pI p) := if_pos hp
    rw [show apL p t = [] from if_neg (by rw [e1]; exact hp), e1]
    exact ⟨⟨rfl, (by first | exact fbL.nil rfl | exact fbL.row rfl rfl), True.intro⟩, ⟨rfl, .same rfl, .same rfl, True.intro⟩, True.intro⟩
end Go.Proofs.YtppmhjaooiameaaDoor
