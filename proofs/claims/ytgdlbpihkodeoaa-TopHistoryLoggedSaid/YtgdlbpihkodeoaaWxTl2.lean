/- The walks of translog: ProveConsistency, VerifyConsistency. -/
import Derived.Test.YtgdlbpihkodeoaaWxTl
namespace Go.Proofs.Ytgdlbpihkodeoaa
open Go.RowKit
set_option maxRecDepth 10000
set_option linter.unusedSimpArgs false

def sp_cons' : SpecF := sp_cons 64
theorem cons_sp' : SpFact 28 sp_cons' := cons_sp 64
def sp_PrC : SpecF := pureSp false [.slice (.int .i64), .int .i64] (fun (l', m', _) => l'.length ≤ 64 ∧ DigL l' ∧ 1 ≤ m' ∧ m' ≤ l'.length) (fun (l', m', _) => .tu [(false, [.d (.slice (.int .i64)) (consV l' m'.toNat true)]), (true, [.d (.int .i64) 0, .d (.int .i64) 0])])
theorem PrC_sp : SpFact 10 sp_PrC := by
  refine ⟨⟨Try.f10, rfl, rfl, rfl, pureSp_okF (env_fine (sp := [(23, sp_tcheck), (28, sp_cons')]) (eq := [(24, true)]) ⟨tcheck_sp, cons_sp', True.intro⟩ ⟨eq_fault, True.intro⟩) rfl (fun ⟨_, _, _⟩ _ => rfl) ?_⟩, pureSp_loc _ _ _ _⟩
  rintro ⟨l, m, u⟩ - ⟨h1, h2, h3, h4⟩
  change List Int at l
  change Int at m
  have h1 : l.length ≤ 64 := h1
  have h3 : 1 ≤ m := h3
  have h4 : m ≤ l.length := h4
  have h2 : DigL l := h2
  replace h2 := Lib.hid h2
  (refine fnM_of rfl rfl rfl rfl ?_; dsimp only [params, argAV, Ty.leaves, Ty.isSt])
  (repeat' (first | (with_reducible refine Step.mk True.intro ?_) | (with_reducible refine Step.mk ?_ ?_; focus (((try simp only [true_and, and_true, and_self, kmin, kmax, decide_eq_true_eq, decide_eq_false_iff_not, castD_self, castL_self, List.length_cons, List.length_nil, List.length_append, Int.natCast_add] at *) <;> omega))) | (with_reducible refine Step.mk ?_ ?_) | (with_reducible refine Way.t1 ?_) | (with_reducible refine Way.f1 ?_) | ((with_reducible refine Way.dec (fun _ => ?_) (fun _ => ?_)) <;> try (exfalso; omega)) | (with_reducible refine Way.nt ?_) | (with_reducible refine Way.mk (fun _ => ?_) (fun _ => ?_)) | (with_reducible refine Drawn.mk (by kernel_rfl) ?_) | (refine Run.mk ?_)))
  all_goals first | exact Ret.mk ⟨⟨rfl, .frz rfl, True.intro⟩, ⟨rfl, .same, .same, True.intro⟩, True.intro⟩ | exact ⟨h1, h2.out⟩ | exact ⟨h1, by decide, h2.out, h3, h4⟩ | (rename_i q; exact absurd q (by decide)) | skip

abbrev tRd : Ty := .pair (.slice (.int .i64)) .bool
def sp_next : SpecF := boxSp 70 tRd [] (fun _ _ => True) (fun x _ => .v false [.d (.int .i64) (nxV x)]) (fun x _ => nxR x)
theorem next_sp : SpFact 54 sp_next := by
  refine ⟨⟨Try.f54, rfl, rfl, rfl, boxSp_ok (env_fine (sp := []) (eq := []) True.intro True.intro) rfl (fun _ _ _ => rfl) ?_⟩, boxSp_loc _ _ _ _ _ _⟩
  rintro ⟨p, s⟩ u ⟨⟨hp, -⟩, -⟩ - -
  change List Int at p
  change Bool at s
  rw [maxLen_eq] at hp
  dsimp only at hp
  by_cases h0 : p.length = 0
  · have e : nxR (p, s) = (p, true) := if_pos h0
    have e2 : nxV (p, s) = 0 := by rw [List.length_eq_zero_iff.1 h0]; rfl
    (try dsimp only)
    rw [e, e2]
    (refine fnB_of rfl rfl rfl rfl ?_; dsimp only [params, argAV, Ty.leaves, Ty.isSt, List.cons_append, List.nil_append])
    (repeat' (first | (with_reducible refine Step.mk True.intro ?_) | (with_reducible refine Step.mk ?_ ?_; focus (((try simp only [true_and, and_true, and_self, kmin, kmax, decide_eq_true_eq, decide_eq_false_iff_not, castD_self, castL_self, List.length_cons, List.length_nil, List.length_append, Int.natCast_add] at *) <;> omega))) | (with_reducible refine Step.mk ?_ ?_) | (with_reducible refine Way.t1 ?_) | (with_reducible refine Way.f1 ?_) | ((with_reducible refine Way.dec (fun _ => ?_) (fun _ => ?_)) <;> try (exfalso; omega)) | (with_reducible refine Way.nt ?_) | (with_reducible refine Way.mk (fun _ => ?_) (fun _ => ?_)) | (with_reducible refine Drawn.mk (by kernel_rfl) ?_) | (refine Run.mk ?_)))
    all_goals first | exact Ret.mk ⟨rfl, rfl, rfl⟩ | skip
  · have e : nxR (p, s) = (p.drop 1, s) := if_neg h0
    have e3 : List.drop (Int.toNat 1) (List.take ((p.length : Nat) : Int).toNat p) = p.drop 1 := by simp
    replace e3 := Lib.hid e3
    (try dsimp only)
    rw [e]
    (refine fnB_of rfl rfl rfl rfl ?_; dsimp only [params, argAV, Ty.leaves, Ty.isSt, List.cons_append, List.nil_append])
    (repeat' (first | (with_reducible refine Step.mk True.intro ?_) | (with_reducible refine Step.mk ?_ ?_; focus (((try simp only [true_and, and_true, and_self, kmin, kmax, decide_eq_true_eq, decide_eq_false_iff_not, castD_self, castL_self, List.length_cons, List.length_nil, List.length_append, Int.natCast_add] at *) <;> omega))) | (with_reducible refine Step.mk ?_ ?_) | (with_reducible refine Way.t1 ?_) | (with_reducible refine Way.f1 ?_) | ((with_reducible refine Way.dec (fun _ => ?_) (fun _ => ?_)) <;> try (exfalso; omega)) | (with_reducible refine Way.nt ?_) | (with_reducible refine Way.mk (fun _ => ?_) (fun _ => ?_)) | (with_reducible refine Drawn.mk (by kernel_rfl) ?_) | (refine Run.mk ?_)))
    all_goals first | exact Ret.mk ⟨rfl, rfl, congrArg (fun z : List Int => some (Ob.box 70 [.d (.slice (.int .i64)) z, .d .bool s])) e3.out⟩ | skip
def sp_done : SpecF := boxSp 70 tRd [] (fun _ _ => True) (fun x _ => .v false [.d .bool (!x.2 && decide (x.1.length = 0))]) (fun x _ => x)
theorem done_sp : SpFact 32 sp_done := by
  refine ⟨⟨Try.f32, rfl, rfl, rfl, boxSp_ok (env_fine (sp := []) (eq := []) True.intro True.intro) rfl (fun _ _ _ => rfl) ?_⟩, boxSp_loc _ _ _ _ _ _⟩
  rintro ⟨p, s⟩ u ⟨⟨hp, -⟩, -⟩ - -
  change List Int at p
  change Bool at s
  rw [maxLen_eq] at hp
  dsimp only at hp
  cases s <;> cases p <;>
  · (refine fnB_of rfl rfl rfl rfl ?_; dsimp only [params, argAV, Ty.leaves, Ty.isSt, List.cons_append, List.nil_append])
    (repeat' (first | (with_reducible refine Step.mk True.intro ?_) | (with_reducible refine Step.mk ?_ ?_; focus (((try simp only [true_and, and_true, and_self, kmin, kmax, decide_eq_true_eq, decide_eq_false_iff_not, castD_self, castL_self, List.length_cons, List.length_nil, List.length_append, Int.natCast_add] at *) <;> omega))) | (with_reducible refine Step.mk ?_ ?_) | (with_reducible refine Way.t1 ?_) | (with_reducible refine Way.f1 ?_) | ((with_reducible refine Way.dec (fun _ => ?_) (fun _ => ?_)) <;> try (exfalso; omega)) | (with_reducible refine Way.nt ?_) | (with_reducible refine Way.mk (fun _ => ?_) (fun _ => ?_)) | (with_reducible refine Drawn.mk (by kernel_rfl) ?_) | (refine Run.mk ?_)))
    all_goals first | exact Ret.mk ⟨rfl, rfl, rfl⟩ | skip

def ctV (n m o : Int) (k : Bool) (r : Rd) : (Int × Int) × Rd := contN n.toNat n.toNat m.toNat o k r
def sp_cont (N : Nat) : SpecF := boxSp 70 tRd [.int .i64, .int .i64, .int .i64, .bool] (fun (p', _) (n', m', o', _, _) => 1 ≤ m' ∧ m' ≤ n' ∧ n' ≤ N ∧ N ≤ 64 ∧ (0 ≤ o' ∧ o' < 2305843009213693951) ∧ DigL p')
  (fun x (n', m', o', k', _) => .tu [(false, [.d (.int .i64) (ctV n' m' o' k' x).1.1]), (false, [.d (.int .i64) (ctV n' m' o' k' x).1.2])]) (fun x (n', m', o', k', _) => (ctV n' m' o' k' x).2)
theorem ctV_bd (n m o : Int) (k : Bool) (r : Rd) (ho : 0 ≤ o ∧ o < 2305843009213693951) (hd : DigL r.1) : (0 ≤ (ctV n m o k r).1.1 ∧ (ctV n m o k r).1.1 < 2305843009213693951) ∧ (0 ≤ (ctV n m o k r).1.2 ∧ (ctV n m o k r).1.2 < 2305843009213693951) ∧ DigL (ctV n m o k r).2.1 := contN_bd _ _ _ _ _ _ ho hd
theorem ctV_same {n o : Int} {k : Bool} {r : Rd} (h : 1 ≤ n) : ctV n n o k r = bif k then ((o, o), r) else ((nxV r, nxV r), nxR r) := by
  unfold ctV
  obtain ⟨f, hf⟩ : ∃ f, n.toNat = f + 1 := ⟨n.toNat - 1, by omega⟩
  conv => lhs; rw [hf]
  unfold contN
  rw [if_pos rfl]
theorem ctV_low {n m o : Int} {k : Bool} {r : Rd} (h1 : 1 ≤ m) (h2 : m < n) {S : Nat} (hS : spl n.toNat = S) (h3 : m ≤ S) :
    ctV n m o k r = (((ctV S m o k r).1.1, pr (ctV S m o k r).1.2 (nxV (ctV S m o k r).2)), nxR (ctV S m o k r).2) := by
  obtain ⟨s1, s2⟩ := spl_lt (n := n.toNat) (by omega)
  rw [hS] at s1 s2
  have e : contN (n.toNat - 1) S m.toNat o k r = ctV S m o k r := by
    unfold ctV
    rw [Int.toNat_natCast]
    exact contN_more _ _ _ _ _ _ _ (by omega) (by omega) (by omega) (Nat.le_refl _)
  rw [← e]
  unfold ctV
  obtain ⟨f, hf⟩ : ∃ f, n.toNat = f + 1 := ⟨n.toNat - 1, by omega⟩
  have hf' : n.toNat - 1 = f := by omega
  rw [hf', hf]
  rw [hf] at hS
  conv => lhs; unfold contN
  rw [if_neg (by omega), hS, if_pos (by omega)]
theorem ctV_high {n m o : Int} {k : Bool} {r : Rd} (h1 : 1 ≤ m) (h2 : m < n) {S : Nat} (hS : spl n.toNat = S) (h3 : ¬ m ≤ S) :
    ctV n m o k r = ((pr (nxV (ctV (n - S) (m - S) o false r).2) (ctV (n - S) (m - S) o false r).1.1, pr (nxV (ctV (n - S) (m - S) o false r).2) (ctV (n - S) (m - S) o false r).1.2), nxR (ctV (n - S) (m - S) o false r).2) := by
  obtain ⟨s1, s2⟩ := spl_lt (n := n.toNat) (by omega)
  rw [hS] at s1 s2
  have e : contN (n.toNat - 1) (n.toNat - S) (m.toNat - S) o false r = ctV (n - S) (m - S) o false r := by
    unfold ctV
    rw [show (n - (S : Int)).toNat = n.toNat - S by omega, show (m - (S : Int)).toNat = m.toNat - S by omega]
    exact contN_more _ _ _ _ _ _ _ (by omega) (by omega) (by omega) (Nat.le_refl _)
  rw [← e]
  unfold ctV
  obtain ⟨f, hf⟩ : ∃ f, n.toNat = f + 1 := ⟨n.toNat - 1, by omega⟩
  have hf' : n.toNat - 1 = f := by omega
  rw [hf', hf]
  rw [hf] at hS
  conv => lhs; unfold contN
  rw [if_neg (by omega), hS, if_neg (by omega)]
theorem cont_sp : ∀ N, SpFact 31 (sp_cont N) := by
  intro N
  induction N with
  | zero =>
    refine ⟨⟨Try.f31, rfl, rfl, rfl, boxSp_ok (env_fine (sp := []) (eq := []) True.intro True.intro) rfl (fun _ _ _ => rfl) ?_⟩, boxSp_loc _ _ _ _ _ _⟩
    rintro ⟨p, s⟩ ⟨n, m, o, kn, u⟩ - - ⟨h1, h2, h3, -⟩
    change Int at n m
    have h1 : 1 ≤ m := h1
    have h2 : m ≤ n := h2
    have h3 : n ≤ 0 := h3
    exact absurd h3 (by omega)
  | succ N ih =>
    refine ⟨⟨Try.f31, rfl, rfl, rfl, boxSp_ok (env_fine (sp := [(31, sp_cont N), (54, sp_next), (48, sp_split), (49, sp_tpair)]) (eq := []) ⟨ih, next_sp, split_sp, tpair_sp, True.intro⟩ True.intro) rfl (fun _ _ _ => rfl) ?_⟩, boxSp_loc _ _ _ _ _ _⟩
    rintro ⟨p, s⟩ ⟨n, m, o, kn, u⟩ - - ⟨h1, h2, h3, h4, h5, h6⟩
    change List Int at p
    change Bool at s kn
    change Int at n m o
    have h1 : 1 ≤ m := h1
    have h2 : m ≤ n := h2
    have h3 : n ≤ ((N + 1 : Nat) : Int) := h3
    have h4 : N + 1 ≤ 64 := h4
    have h5 : 0 ≤ o ∧ o < 2305843009213693951 := h5
    have h6 : DigL p := h6
    by_cases h0 : m = n
    · subst h0
      have e := ctV_same (n := m) (o := o) (k := kn) (r := (p, s)) h1
      dsimp only
      rw [e]
      clear e
      replace h6 := Lib.hid h6
      cases kn
      · (refine fnB_of rfl rfl rfl rfl ?_; dsimp only [params, argAV, Ty.leaves, Ty.isSt, List.cons_append, List.nil_append])
        (repeat' (first | (with_reducible refine Step.mk True.intro ?_) | (with_reducible refine Step.mk ?_ ?_; focus (((try simp only [true_and, and_true, and_self, kmin, kmax, decide_eq_true_eq, decide_eq_false_iff_not, castD_self, castL_self, List.length_cons, List.length_nil, List.length_append, Int.natCast_add] at *) <;> omega))) | (with_reducible refine Step.mk ?_ ?_) | (with_reducible refine Way.t1 ?_) | (with_reducible refine Way.f1 ?_) | ((with_reducible refine Way.dec (fun _ => ?_) (fun _ => ?_)) <;> try (exfalso; omega)) | (with_reducible refine Way.nt ?_) | (with_reducible refine Way.mk (fun _ => ?_) (fun _ => ?_)) | (with_reducible refine Drawn.mk (by kernel_rfl) ?_) | (refine Run.mk ?_)))
        all_goals first | exact Ret.mk ⟨rfl, rfl, rfl⟩ | skip
      · (refine fnB_of rfl rfl rfl rfl ?_; dsimp only [params, argAV, Ty.leaves, Ty.isSt, List.cons_append, List.nil_append])
        (repeat' (first | (with_reducible refine Step.mk True.intro ?_) | (with_reducible refine Step.mk ?_ ?_; focus (((try simp only [true_and, and_true, and_self, kmin, kmax, decide_eq_true_eq, decide_eq_false_iff_not, castD_self, castL_self, List.length_cons, List.length_nil, List.length_append, Int.natCast_add] at *) <;> omega))) | (with_reducible refine Step.mk ?_ ?_) | (with_reducible refine Way.t1 ?_) | (with_reducible refine Way.f1 ?_) | ((with_reducible refine Way.dec (fun _ => ?_) (fun _ => ?_)) <;> try (exfalso; omega)) | (with_reducible refine Way.nt ?_) | (with_reducible refine Way.mk (fun _ => ?_) (fun _ => ?_)) | (with_reducible refine Drawn.mk (by kernel_rfl) ?_) | (refine Run.mk ?_)))
        all_goals first | exact Ret.mk ⟨rfl, rfl, rfl⟩ | skip
    · obtain ⟨s1, s2⟩ := spl_lt (n := n.toNat) (by omega)
      obtain ⟨S, hS⟩ : ∃ S, spl n.toNat = S := ⟨_, rfl⟩
      rw [hS] at s1 s2
      by_cases hm : m ≤ S
      · have e := ctV_low (o := o) (k := kn) (r := (p, s)) h1 (by omega) hS hm
        have bd := ctV_bd S m o kn (p, s) h5 h6
        have b2 := nxV_bd (r := (ctV S m o kn (p, s)).2) bd.2.2
        dsimp only
        rw [e]
        clear e
        replace h6 := Lib.hid h6
        replace bd := Lib.hid bd
        replace b2 := Lib.hid b2
        (refine fnB_of rfl rfl rfl rfl ?_; dsimp only [params, argAV, Ty.leaves, Ty.isSt, List.cons_append, List.nil_append])
        (repeat' (first | (with_reducible refine Step.mk True.intro ?_) | (with_reducible refine Step.mk ?_ ?_; focus (((try simp only [true_and, and_true, and_self, kmin, kmax, decide_eq_true_eq, decide_eq_false_iff_not, castD_self, castL_self, List.length_cons, List.length_nil, List.length_append, Int.natCast_add] at *) <;> omega))) | (with_reducible refine Step.mk ?_ ?_) | (with_reducible refine Way.t1 ?_) | (with_reducible refine Way.f1 ?_) | ((with_reducible refine Way.dec (fun _ => ?_) (fun _ => ?_)) <;> try (exfalso; omega)) | (with_reducible refine Way.nt ?_) | (with_reducible refine Way.mk (fun _ => ?_) (fun _ => ?_)) | (with_reducible refine Drawn.mk (by kernel_rfl) ?_) | (refine Run.mk ?_)))
        · exact ⟨show 2 ≤ n by omega, show n ≤ 1000000 by omega⟩
        · rw [hS]
          exact ⟨h1, hm, show ((S : Nat) : Int) ≤ ((N : Nat) : Int) by omega, by omega, h5, h6.out⟩
        · rw [hS]
          exact ⟨bd.out.2.1, b2.out⟩
        · refine Ret.mk ?_
          rw [hS]
          exact ⟨rfl, rfl, rfl⟩
      · have e := ctV_high (o := o) (k := kn) (r := (p, s)) h1 (by omega) hS hm
        have bd := ctV_bd (n - S) (m - S) o false (p, s) h5 h6
        have b2 := nxV_bd (r := (ctV (n - S) (m - S) o false (p, s)).2) bd.2.2
        dsimp only
        rw [e]
        clear e
        replace h6 := Lib.hid h6
        replace bd := Lib.hid bd
        replace b2 := Lib.hid b2
        (refine fnB_of rfl rfl rfl rfl ?_; dsimp only [params, argAV, Ty.leaves, Ty.isSt, List.cons_append, List.nil_append])
        (repeat' (first | (with_reducible refine Step.mk True.intro ?_) | (with_reducible refine Step.mk ?_ ?_; focus (((try simp only [true_and, and_true, and_self, kmin, kmax, decide_eq_true_eq, decide_eq_false_iff_not, castD_self, castL_self, List.length_cons, List.length_nil, List.length_append, Int.natCast_add] at *) <;> omega))) | (with_reducible refine Step.mk ?_ ?_) | (with_reducible refine Way.t1 ?_) | (with_reducible refine Way.f1 ?_) | ((with_reducible refine Way.dec (fun _ => ?_) (fun _ => ?_)) <;> try (exfalso; omega)) | (with_reducible refine Way.nt ?_) | (with_reducible refine Way.mk (fun _ => ?_) (fun _ => ?_)) | (with_reducible refine Drawn.mk (by kernel_rfl) ?_) | (refine Run.mk ?_)))
        · exact ⟨show 2 ≤ n by omega, show n ≤ 1000000 by omega⟩
        · rw [hS]
          exact ⟨show 1 ≤ m - S by omega, show m - S ≤ n - S by omega, show n - ((S : Nat) : Int) ≤ ((N : Nat) : Int) by omega, by omega, h5, h6.out⟩
        · rw [hS]
          exact ⟨b2.out, bd.out.1⟩
        · rw [hS]
          exact ⟨b2.out, bd.out.2.1⟩
        · refine Ret.mk ?_
          rw [hS]
          exact ⟨rfl, rfl, rfl⟩
def sp_cont' : SpecF := sp_cont 64
theorem cont_sp' : SpFact 31 sp_cont' := cont_sp 64

def vfB (o m w n : Int) (p : List Int) : Bool := decide ((ctV n m o true (p, false)).1.1 = o) && decide ((ctV n m o true (p, false)).1.2 = w) && (!(ctV n m o true (p, false)).2.2 && decide ((ctV n m o true (p, false)).2.1.length = 0))
def sp_VfC : SpecF := pureSp false [.int .i64, .int .i64, .int .i64, .int .i64, .slice (.int .i64)] (fun (o', m', w', n', p', _) => (0 ≤ o' ∧ o' < 2305843009213693951) ∧ 1 ≤ m' ∧ m' ≤ n' ∧ (0 ≤ w' ∧ w' < 2305843009213693951) ∧ n' ≤ 64 ∧ p'.length ≤ 64 ∧ DigL p')
  (fun (o', m', w', n', p', _) => .tu [(false, [.d .bool (vfB o' m' w' n' p')]), (true, [.d (.int .i64) 0, .d (.int .i64) 0])])
theorem VfC_sp : SpFact 12 sp_VfC := by
  refine ⟨⟨Try.f12, rfl, rfl, rfl, pureSp_ok (env_fine (sp := [(29, sp_IsD), (30, sp_tcheck), (31, sp_cont'), (32, sp_done)]) (eq := [(24, true)]) ⟨IsD_sp, tcheckP_sp, cont_sp', done_sp, True.intro⟩ ⟨eq_fault, True.intro⟩) rfl (fun _ _ => rfl) ?_⟩, pureSp_loc _ _ _ _⟩
  rintro ⟨o, m, w, n, p, u⟩ - ⟨h1, h2, h3, h4, h5, h6, h7⟩
  change Int at o m w n
  change List Int at p
  have h1 : 0 ≤ o ∧ o < 2305843009213693951 := h1
  have h2 : 1 ≤ m := h2
  have h3 : m ≤ n := h3
  have h4 : 0 ≤ w ∧ w < 2305843009213693951 := h4
  have h5 : n ≤ 64 := h5
  have h6 : p.length ≤ 64 := h6
  have h7 : DigL p := h7
  replace h7 := Lib.hid h7
  have i1 := (isD_iff o).2 h1
  have i2 := (isD_iff w).2 h4
  have bd := ctV_bd n m o true (p, false) h1 h7.out
  replace i1 := Lib.hid i1
  replace i2 := Lib.hid i2
  replace bd := Lib.hid bd
  (refine fnM_of rfl rfl rfl rfl ?_; dsimp only [params, argAV, Ty.leaves, Ty.isSt])
  (repeat' (first | (with_reducible refine Step.mk True.intro ?_) | (with_reducible refine Step.mk ?_ ?_; focus (((try simp only [true_and, and_true, and_self, kmin, kmax, decide_eq_true_eq, decide_eq_false_iff_not, castD_self, castL_self, List.length_cons, List.length_nil, List.length_append, Int.natCast_add] at *) <;> omega))) | (with_reducible refine Step.mk ?_ ?_) | (with_reducible refine Way.t1 ?_) | (with_reducible refine Way.f1 ?_) | ((with_reducible refine Way.dec (fun _ => ?_) (fun _ => ?_)) <;> try (exfalso; omega)) | (with_reducible refine Way.nt ?_) | (with_reducible refine Way.mk (fun _ => ?_) (fun _ => ?_)) | (with_reducible refine Drawn.mk (by kernel_rfl) ?_) | (refine Run.mk ?_)))
  refine loop_by (X := Nat) (fun k => [.put 0 (.v false [.d (.int .i64) o]), .put 1 (.v false [.d (.int .i64) m]), .put 2 (.v false [.d (.int .i64) w]), .put 3 (.v false [.d (.int .i64) n]), .put 4 (.v false [.d (.slice (.int .i64)) p]), .put 11 (.v false [.p 11 0]), .put 37 (.v true [.d .bool (isD o), .d .bool (decide (m ≤ n)), .d .bool (isD w), .d .bool (decide (n ≤ 64))]), .put 38 (.v false [.d (.int .i64) (k : Int)])]) (fun _ => [.put 11 (.box 24 [.d (.int .i64) 0, .d (.int .i64) 0])])
    (fun k => k ≤ 4) (fun k => 4 - k) 0 (by decide) ?_ ?_
  · (refine Wk.keep ?_ ?_ <;> repeat' (first | exact True.intro | refine And.intro rfl ?_ | refine And.intro (congrArg (fun z : Int => AV.v false [Lf.d (.int .i64) z]) (by first | omega | (simp only [Int.natCast_add, List.length_cons, List.length_append, List.length_nil]; omega))) ?_ | refine And.intro ?_ ?_))
  intro k hk
  (try dsimp only)
  obtain rfl | rfl | rfl | rfl | rfl : k = 0 ∨ k = 1 ∨ k = 2 ∨ k = 3 ∨ k = 4 := by omega
  · (repeat' (first | (with_reducible refine Step.mk True.intro ?_) | (with_reducible refine Step.mk ?_ ?_; focus (((try simp only [true_and, and_true, and_self, kmin, kmax, decide_eq_true_eq, decide_eq_false_iff_not, castD_self, castL_self, List.length_cons, List.length_nil, List.length_append, Int.natCast_add] at *) <;> omega))) | (with_reducible refine Step.mk ?_ ?_) | (with_reducible refine Way.t1 ?_) | (with_reducible refine Way.f1 ?_) | ((with_reducible refine Way.dec (fun _ => ?_) (fun _ => ?_)) <;> try (exfalso; omega)) | (with_reducible refine Way.nt ?_) | ((with_reducible refine Way.mk (fun _ => ?_) (fun _ => ?_)) <;> try (exfalso; rename_i hw; first | exact Bool.noConfusion ((Go.RowKit.Hid.out i1).symm.trans hw) | exact Bool.noConfusion (hw.symm.trans (Go.RowKit.Hid.out i1)))) | (with_reducible refine Drawn.mk (by kernel_rfl) ?_) | (refine Run.mk ?_)))
    (refine Back.by (1) ?_ ?_ ?_; focus (refine Wk.keep ?_ ?_ <;> repeat' (first | exact True.intro | refine And.intro rfl ?_ | refine And.intro (congrArg (fun z : Int => AV.v false [Lf.d (.int .i64) z]) (by first | omega | (simp only [Int.natCast_add, List.length_cons, List.length_append, List.length_nil]; omega))) ?_ | refine And.intro ?_ ?_)))
    · decide
    · decide
  · (repeat' (first | (with_reducible refine Step.mk True.intro ?_) | (with_reducible refine Step.mk ?_ ?_; focus (((try simp only [true_and, and_true, and_self, kmin, kmax, decide_eq_true_eq, decide_eq_false_iff_not, castD_self, castL_self, List.length_cons, List.length_nil, List.length_append, Int.natCast_add] at *) <;> omega))) | (with_reducible refine Step.mk ?_ ?_) | (with_reducible refine Way.t1 ?_) | (with_reducible refine Way.f1 ?_) | ((with_reducible refine Way.dec (fun _ => ?_) (fun _ => ?_)) <;> try (exfalso; omega)) | (with_reducible refine Way.nt ?_) | (with_reducible refine Way.mk (fun _ => ?_) (fun _ => ?_)) | (with_reducible refine Drawn.mk (by kernel_rfl) ?_) | (refine Run.mk ?_)))
    (refine Back.by (2) ?_ ?_ ?_; focus (refine Wk.keep ?_ ?_ <;> repeat' (first | exact True.intro | refine And.intro rfl ?_ | refine And.intro (congrArg (fun z : Int => AV.v false [Lf.d (.int .i64) z]) (by first | omega | (simp only [Int.natCast_add, List.length_cons, List.length_append, List.length_nil]; omega))) ?_ | refine And.intro ?_ ?_)))
    · decide
    · decide
  · (repeat' (first | (with_reducible refine Step.mk True.intro ?_) | (with_reducible refine Step.mk ?_ ?_; focus (((try simp only [true_and, and_true, and_self, kmin, kmax, decide_eq_true_eq, decide_eq_false_iff_not, castD_self, castL_self, List.length_cons, List.length_nil, List.length_append, Int.natCast_add] at *) <;> omega))) | (with_reducible refine Step.mk ?_ ?_) | (with_reducible refine Way.t1 ?_) | (with_reducible refine Way.f1 ?_) | ((with_reducible refine Way.dec (fun _ => ?_) (fun _ => ?_)) <;> try (exfalso; omega)) | (with_reducible refine Way.nt ?_) | ((with_reducible refine Way.mk (fun _ => ?_) (fun _ => ?_)) <;> try (exfalso; rename_i hw; first | exact Bool.noConfusion ((Go.RowKit.Hid.out i2).symm.trans hw) | exact Bool.noConfusion (hw.symm.trans (Go.RowKit.Hid.out i2)))) | (with_reducible refine Drawn.mk (by kernel_rfl) ?_) | (refine Run.mk ?_)))
    (refine Back.by (3) ?_ ?_ ?_; focus (refine Wk.keep ?_ ?_ <;> repeat' (first | exact True.intro | refine And.intro rfl ?_ | refine And.intro (congrArg (fun z : Int => AV.v false [Lf.d (.int .i64) z]) (by first | omega | (simp only [Int.natCast_add, List.length_cons, List.length_append, List.length_nil]; omega))) ?_ | refine And.intro ?_ ?_)))
    · decide
    · decide
  · (repeat' (first | (with_reducible refine Step.mk True.intro ?_) | (with_reducible refine Step.mk ?_ ?_; focus (((try simp only [true_and, and_true, and_self, kmin, kmax, decide_eq_true_eq, decide_eq_false_iff_not, castD_self, castL_self, List.length_cons, List.length_nil, List.length_append, Int.natCast_add] at *) <;> omega))) | (with_reducible refine Step.mk ?_ ?_) | (with_reducible refine Way.t1 ?_) | (with_reducible refine Way.f1 ?_) | ((with_reducible refine Way.dec (fun _ => ?_) (fun _ => ?_)) <;> try (exfalso; omega)) | (with_reducible refine Way.nt ?_) | (with_reducible refine Way.mk (fun _ => ?_) (fun _ => ?_)) | (with_reducible refine Drawn.mk (by kernel_rfl) ?_) | (refine Run.mk ?_)))
    (refine Back.by (4) ?_ ?_ ?_; focus (refine Wk.keep ?_ ?_ <;> repeat' (first | exact True.intro | refine And.intro rfl ?_ | refine And.intro (congrArg (fun z : Int => AV.v false [Lf.d (.int .i64) z]) (by first | omega | (simp only [Int.natCast_add, List.length_cons, List.length_append, List.length_nil]; omega))) ?_ | refine And.intro ?_ ?_)))
    · decide
    · decide
  · (repeat' (first | (with_reducible refine Step.mk True.intro ?_) | (with_reducible refine Step.mk ?_ ?_; focus (((try simp only [true_and, and_true, and_self, kmin, kmax, decide_eq_true_eq, decide_eq_false_iff_not, castD_self, castL_self, List.length_cons, List.length_nil, List.length_append, Int.natCast_add] at *) <;> omega))) | (with_reducible refine Step.mk ?_ ?_) | (with_reducible refine Way.t1 ?_) | (with_reducible refine Way.f1 ?_) | ((with_reducible refine Way.dec (fun _ => ?_) (fun _ => ?_)) <;> try (exfalso; omega)) | (with_reducible refine Way.nt ?_) | (with_reducible refine Way.mk (fun _ => ?_) (fun _ => ?_)) | (with_reducible refine Drawn.mk (by kernel_rfl) ?_) | (refine Run.mk ?_)))
    · exact ⟨h6, h7.out⟩
    · exact ⟨h2, h3, h5, by decide, h1, h7.out⟩
    · rename_i q1 q2
      have q1 : (ctV n m o true (p, false)).1.1 = o := q1
      have q2 : (ctV n m o true (p, false)).1.2 = w := q2
      have e : vfB o m w n p = (!(ctV n m o true (p, false)).2.2 && decide ((ctV n m o true (p, false)).2.1.length = 0)) := by
        unfold vfB; rw [decide_eq_true q1, decide_eq_true q2]; rfl
      refine Ret.mk ?_
      rw [e]
      rfl
    · rename_i q1 q2
      have q2 : ¬ (ctV n m o true (p, false)).1.2 = w := q2
      have e : vfB o m w n p = false := by
        unfold vfB; rw [decide_eq_false q2, Bool.and_false]; rfl
      refine Ret.mk ?_
      rw [e]
      rfl
    · rename_i q1
      have q1 : ¬ (ctV n m o true (p, false)).1.1 = o := q1
      have e : vfB o m w n p = false := by
        unfold vfB; rw [decide_eq_false q1]; rfl
      refine Ret.mk ?_
      rw [e]
      rfl
    · rename_i q; exact absurd q (by decide)
end Go.Proofs.Ytgdlbpihkodeoaa
