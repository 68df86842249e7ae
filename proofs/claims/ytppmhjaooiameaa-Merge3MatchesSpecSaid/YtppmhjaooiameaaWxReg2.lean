/- The walk of merge3.regions. -/
import Derived.Test.YtppmhjaooiameaaWxReg
import Derived.Test.YtppmhjaooiameaaWxComm2
namespace Go.Proofs.Ytppmhjaooiameaa
open Go.RowKit
set_option maxRecDepth 10000
set_option linter.unusedSimpArgs false

def sp_OldRo : SpecF := ownSp false [tPat] 57 tRg (fun (p', _) => (∀ h ∈ p', HkOk h) ∧ p'.length ≤ 130) (fun (p', _) => oldR p')
theorem OldRo_sp : SpFact 49 sp_OldRo := by
  refine ⟨⟨Try.f49, rfl, rfl, rfl, ownSp_ok (env_fine (sp := [(59, sp_End), (67, sp_Growth)]) (eq := []) ⟨End_sp, Growth_sp, True.intro⟩ True.intro) rfl (fun h => by cases h) ?_⟩, ownSp_loc _ _ _ _ _ _⟩
  rintro ⟨p, u⟩ - ⟨hok, hlen⟩
  change List Hk at p
  replace hlen : p.length ≤ 130 := hlen
  replace hok : ∀ h ∈ p, HkOk h := hok
  replace hok := Lib.hid hok
  (refine fnM_of rfl rfl rfl rfl ?_; dsimp only [params, argAV, Ty.leaves, Ty.isSt])
  (repeat' (first | (with_reducible refine Cend.go ?_) | (with_reducible refine Step.mk True.intro ?_) | (with_reducible refine Step.mk ?_ ?_; focus (((try simp only [true_and, and_true, and_self, kmin, kmax, decide_eq_true_eq, decide_eq_false_iff_not, castD_self, castL_self, List.length_cons, List.length_nil, List.length_append, Int.natCast_add] at *) <;> omega))) | (with_reducible refine Step.mk ?_ ?_) | (with_reducible refine Way.t1 ?_) | (with_reducible refine Way.f1 ?_) | ((with_reducible refine Way.dec (fun _ => ?_) (fun _ => ?_)) <;> try (exfalso; omega)) | (with_reducible refine Way.nt ?_) | (with_reducible refine Way.mk (fun _ => ?_) (fun _ => ?_)) | (with_reducible refine Drawn.mk (by kernel_rfl) ?_) | (refine Run.mk ?_)))
  refine loop_by (X := Nat × List Rg) (fun x => [.put 3 (.v false [.o 91]), .put 7 (.v false [.d (.slice tHk) p]), .put 8 (.v false [.d (.int .i64) (p.length : Int)]), .put 9 (.v false [.d (.int .i64) (x.1 : Int)])])
    (fun x => [.put 91 (.row 57 tRg x.2)]) (fun x => x.1 ≤ p.length ∧ x.2 = oldR (p.take x.1)) (fun x => p.length - x.1) (0, []) ⟨Nat.zero_le _, rfl⟩ ?_ ?_
  · refine (Wk.nilrow 3 91 57 tRg rfl).trans ?_
    (refine Wk.keep ?_ ?_ <;> repeat' (first | exact True.intro | refine And.intro rfl ?_ | refine And.intro (congrArg (fun z : Int => AV.v false [Lf.d (.int .i64) z]) (by first | omega | (simp only [Int.natCast_add, List.length_cons, List.length_append, List.length_nil]; omega))) ?_ | refine And.intro ?_ ?_))
  rintro ⟨k, L⟩ ⟨hk, hL⟩
  dsimp only at hk hL ⊢
  have hLl : L.length = k := by rw [hL]; unfold oldR; rw [List.length_map, List.length_take]; omega
  by_cases hlt : k < p.length
  · have hg := getD_at (a := p) tHk.dflt hlt
    have ho := hok.out p[k] (List.getElem_mem hlt)
    have hs := oldR_take hlt
    rw [← hg] at ho hs
    rw [← hL] at hs
    replace hg := Lib.hid hg
    replace hs := Lib.hid hs
    replace ho := Lib.hid ho
    replace hL := Lib.hid hL
    (repeat' (first | (with_reducible refine Cend.go ?_) | (with_reducible refine Step.mk True.intro ?_) | (with_reducible refine Step.mk ?_ ?_; focus (((try simp only [true_and, and_true, and_self, kmin, kmax, decide_eq_true_eq, decide_eq_false_iff_not, castD_self, castL_self, List.length_cons, List.length_nil, List.length_append, Int.natCast_add] at *) <;> omega))) | (with_reducible refine Step.mk ?_ ?_) | (with_reducible refine Way.t1 ?_) | (with_reducible refine Way.f1 ?_) | ((with_reducible refine Way.dec (fun _ => ?_) (fun _ => ?_)) <;> try (exfalso; omega)) | (with_reducible refine Way.nt ?_) | (with_reducible refine Way.mk (fun _ => ?_) (fun _ => ?_)) | (with_reducible refine Drawn.mk (by kernel_rfl) ?_) | (refine Run.mk ?_)))
    · exact ho.out
    · exact ho.out
    (apply Back.by ((k + 1, _)); focus (refine Wk.ren [(91, 22)] rfl ?_ ?_ <;> repeat' (first | exact True.intro | refine And.intro rfl ?_ | refine And.intro (congrArg (fun z : Int => AV.v false [Lf.d (.int .i64) z]) (by first | omega | (simp only [Int.natCast_add, List.length_cons, List.length_append, List.length_nil]; omega))) ?_ | refine And.intro ?_ ?_)))
    · exact ⟨hlt, hs.out.symm⟩
    · show p.length - (k + 1) < p.length - k; omega
  · rw [List.take_of_length_le (by omega)] at hL
    subst hL
    (repeat' (first | (with_reducible refine Cend.go ?_) | (with_reducible refine Step.mk True.intro ?_) | (with_reducible refine Step.mk ?_ ?_; focus (((try simp only [true_and, and_true, and_self, kmin, kmax, decide_eq_true_eq, decide_eq_false_iff_not, castD_self, castL_self, List.length_cons, List.length_nil, List.length_append, Int.natCast_add] at *) <;> omega))) | (with_reducible refine Step.mk ?_ ?_) | (with_reducible refine Way.t1 ?_) | (with_reducible refine Way.f1 ?_) | ((with_reducible refine Way.dec (fun _ => ?_) (fun _ => ?_)) <;> try (exfalso; omega)) | (with_reducible refine Way.nt ?_) | (with_reducible refine Way.mk (fun _ => ?_) (fun _ => ?_)) | (with_reducible refine Drawn.mk (by kernel_rfl) ?_) | (refine Run.mk ?_)))
    exact Ret.mk (.inl ⟨_, rfl, rfl⟩)

/-- what merges to come of an open region -/
def mgO : Option Rg → List Rg → List Rg
  | none, l => mrgR l
  | some c, l => mrgC c l
noncomputable def regV (p q : List Hk) : List Rg := mrgR (srtR (oldR p ++ oldR q))
noncomputable def sp_regions : SpecF := pureSp false [tPat, tPat] (fun (p', q', _) => ((∀ h ∈ p', HkOk h) ∧ p'.length ≤ 130) ∧ ((∀ h ∈ q', HkOk h) ∧ q'.length ≤ 130)) (fun (p', q', _) => .v false [.d (.slice tRg) (regV p' q')])
theorem old_RB {p : List Hk} (h : ∀ x ∈ p, HkOk x) : ∀ r ∈ oldR p, (0 ≤ r.1 ∧ r.1 ≤ 120) ∧ (0 ≤ r.2.1 ∧ r.2.1 ≤ 240) := by
  intro r hr
  obtain ⟨x, hx, rfl⟩ := List.mem_map.1 hr
  obtain ⟨h1, h2, h3, h4⟩ := h x hx
  refine ⟨⟨h1, h2⟩, ?_⟩
  show 0 ≤ hkEnd x ∧ hkEnd x ≤ 240
  unfold hkEnd; omega
theorem regions_sp : SpFact 25 sp_regions := by
  refine ⟨⟨Try.f25, rfl, rfl, rfl, pureSp_okF (env_fine (sp := [(49, sp_OldRo), (56, sp_SortR), (58, sp_touch)]) (eq := []) ⟨OldRo_sp, SortR_sp, touch_sp, True.intro⟩ True.intro) rfl (fun _ _ => rfl) ?_⟩, pureSp_loc _ _ _ _⟩
  rintro ⟨p, q, u⟩ - ⟨⟨h1, h2⟩, ⟨h3, h4⟩⟩
  change List Hk at p q
  have h2 : p.length ≤ 130 := h2
  have h4 : q.length ≤ 130 := h4
  have hpl : (oldR p).length = p.length := by unfold oldR; rw [List.length_map]
  have hql : (oldR q).length = q.length := by unfold oldR; rw [List.length_map]
  have hbd : ∀ r ∈ oldR p ++ oldR q, (0 ≤ r.1 ∧ r.1 ≤ 120) ∧ (0 ≤ r.2.1 ∧ r.2.1 ≤ 240) := by
    intro r hr
    rcases List.mem_append.1 hr with hr | hr
    · exact old_RB h1 r hr
    · exact old_RB h3 r hr
  have hRB : ∀ r ∈ oldR p ++ oldR q, RB r := fun r hr => by
    obtain ⟨⟨a1, a2⟩, a3, a4⟩ := hbd r hr
    exact ⟨⟨by omega, by omega⟩, by omega, by omega⟩
  have hpm := srtR_perm hRB
  have hsl : (srtR (oldR p ++ oldR q)).length ≤ 260 := by rw [hpm.length_eq, List.length_append]; omega
  have hsb : ∀ r ∈ srtR (oldR p ++ oldR q), (0 ≤ r.1 ∧ r.1 ≤ 120) ∧ (0 ≤ r.2.1 ∧ r.2.1 ≤ 240) := fun r hr => hbd r (hpm.mem_iff.1 hr)
  have hreg : regV p q = mrgR (srtR (oldR p ++ oldR q)) := rfl
  obtain ⟨L, hL⟩ : ∃ L, srtR (oldR p ++ oldR q) = L := ⟨_, rfl⟩
  rw [hL] at hsl hsb hreg
  clear hbd hpm
  replace h1 := Lib.hid (show (∀ h ∈ p, HkOk h) from h1)
  replace h3 := Lib.hid (show (∀ h ∈ q, HkOk h) from h3)
  replace hRB := Lib.hid hRB
  replace hsb := Lib.hid hsb
  replace hreg := Lib.hid hreg
  (refine fnM_of rfl rfl rfl rfl ?_; dsimp only [params, argAV, Ty.leaves, Ty.isSt])
  (repeat' (first | (with_reducible refine Cend.go ?_) | (with_reducible refine Step.mk True.intro ?_) | (with_reducible refine Step.mk ?_ ?_; focus (((try simp only [true_and, and_true, and_self, kmin, kmax, decide_eq_true_eq, decide_eq_false_iff_not, castD_self, castL_self, List.length_cons, List.length_nil, List.length_append, Int.natCast_add] at *) <;> omega))) | (with_reducible refine Step.mk ?_ ?_) | (with_reducible refine Way.t1 ?_) | (with_reducible refine Way.f1 ?_) | ((with_reducible refine Way.dec (fun _ => ?_) (fun _ => ?_)) <;> try (exfalso; omega)) | (with_reducible refine Way.nt ?_) | (with_reducible refine Way.mk (fun _ => ?_) (fun _ => ?_)) | (with_reducible refine Drawn.mk (by kernel_rfl) ?_) | (refine Run.mk ?_)))
  · exact ⟨h1.out, h2⟩
  · exact ⟨h3.out, h4⟩
  · exact ⟨hRB.out, by show (oldR p ++ oldR q).length ≤ 1000; rw [List.length_append]; omega⟩
  · show (((srtR (oldR p ++ oldR q)).length : Nat) : Int) ≤ _
    rw [hL]; omega
  refine loop_by (X := Nat × List Rg × Option Rg) (fun x => [.put 6 (.v false [.o 91]), .put 17 (.v false [.o 14]), .put 18 (.v false [.d (.int .i64) ((srtR (oldR p ++ oldR q)).length : Int)]), .put 19 (.v false [.d (.int .i64) (x.1 : Int)])])
    (fun x => [.put 14 (.row 57 tRg (srtR (oldR p ++ oldR q))), .put 91 (.row 57 tRg (x.2.1 ++ x.2.2.toList))])
    (fun x => x.1 ≤ L.length ∧ mrgR L = x.2.1 ++ mgO x.2.2 (L.drop x.1) ∧ (x.2.2 = none → x.2.1 = []) ∧ x.2.1.length + x.2.2.toList.length ≤ x.1 ∧ (∀ c, x.2.2 = some c → (0 ≤ c.1 ∧ c.1 ≤ 120) ∧ (0 ≤ c.2.1 ∧ c.2.1 ≤ 240)))
    (fun x => L.length - x.1) (0, [], none) ⟨Nat.zero_le _, rfl, fun _ => rfl, Nat.le_refl _, fun c h => by cases h⟩ ?_ ?_
  · refine (Wk.nilrow 6 91 57 tRg rfl).trans ?_
    (refine Wk.keep ?_ ?_ <;> repeat' (first | exact True.intro | refine And.intro rfl ?_ | refine And.intro (congrArg (fun z : Int => AV.v false [Lf.d (.int .i64) z]) (by first | omega | (simp only [Int.natCast_add, List.length_cons, List.length_append, List.length_nil]; omega))) ?_ | refine And.intro ?_ ?_))
  rintro ⟨k, D, cur⟩ ⟨hk, hm, hn, hlen, hc⟩
  dsimp only at hk hm hn hlen hc ⊢
  rw [hL]
  by_cases hlt : k < L.length
  · have hg : L.getD ((k : Int)).toNat tRg.dflt = L[k] := getD_at tRg.dflt hlt
    have hr := hsb.out L[k] (List.getElem_mem hlt)
    rw [List.drop_eq_getElem_cons hlt] at hm
    rw [← hg] at hm hr
    replace hg := Lib.hid hg
    rcases cur with _ | c
    · obtain rfl := hn rfl
      have hm : mrgR L = [] ++ mgO (some (L.getD ((k : Int)).toNat tRg.dflt)) (L.drop (k + 1)) := hm
      replace hm := Lib.hid hm
      replace hn := Lib.hid hn
      replace hc := Lib.hid hc
      dsimp only [Option.toList]
      rw [List.append_nil]
      (repeat' (first | (with_reducible refine Cend.go ?_) | (with_reducible refine Step.mk True.intro ?_) | (with_reducible refine Step.mk ?_ ?_; focus (((try simp only [true_and, and_true, and_self, kmin, kmax, decide_eq_true_eq, decide_eq_false_iff_not, castD_self, castL_self, List.length_cons, List.length_nil, List.length_append, Int.natCast_add] at *) <;> omega))) | (with_reducible refine Step.mk ?_ ?_) | (with_reducible refine Way.t1 ?_) | (with_reducible refine Way.f1 ?_) | ((with_reducible refine Way.dec (fun _ => ?_) (fun _ => ?_)) <;> try (exfalso; omega)) | (with_reducible refine Way.nt ?_) | (with_reducible refine Way.mk (fun _ => ?_) (fun _ => ?_)) | (with_reducible refine Drawn.mk (by kernel_rfl) ?_) | (refine Run.mk ?_)))
      all_goals try (exfalso; rename_i q _; exact absurd q (by decide))
      refine Back.by (k + 1, [], some (L.getD ((k : Int)).toNat tRg.dflt)) ?_ ?_ ?_
      · dsimp only [Option.toList]
        (refine Wk.ren [(91, 53)] rfl ?_ ?_ <;> repeat' (first | exact True.intro | refine And.intro rfl ?_ | refine And.intro (congrArg (fun z : Int => AV.v false [Lf.d (.int .i64) z]) (by first | omega | (simp only [Int.natCast_add, List.length_cons, List.length_append, List.length_nil]; omega))) ?_ | refine And.intro ?_ ?_))
      · exact ⟨hlt, hm.out, (by intro h; cases h), by show 0 + 1 ≤ k + 1; omega, fun c h => by cases h; exact hr⟩
      · show L.length - (k + 1) < L.length - k; omega
    · have hcb := hc c rfl
      have hlen : D.length + 1 ≤ k := hlen
      have hll : (D ++ [c]).length = D.length + 1 := by simp
      have hgc : (D ++ [c]).getD ((((D ++ [c]).length : Nat) : Int) - 1).toNat tRg.dflt = c := by
        have : ((((D ++ [c]).length : Nat) : Int) - 1).toNat = D.length := by rw [hll]; omega
        rw [this]; exact getD_mid D [] c _
      replace hn := Lib.hid hn
      replace hc := Lib.hid hc
      have hm : mrgR L = D ++ (if touch c (L.getD ((k : Int)).toNat tRg.dflt) = true then mrgC (c.1, max c.2.1 (L.getD ((k : Int)).toNat tRg.dflt).2.1, c.2.2) (L.drop (k + 1)) else c :: mrgC (L.getD ((k : Int)).toNat tRg.dflt) (L.drop (k + 1))) := hm
      replace hm := Lib.hid hm
      dsimp only [Option.toList]
      have hgc1 : ((D ++ [c]).getD ((((D ++ [c]).length : Nat) : Int) - 1).toNat tRg.dflt).2.1 = c.2.1 := by rw [hgc]
      replace hgc := Lib.hid hgc
      (repeat' (first | (with_reducible refine Cend.go ?_) | (with_reducible refine Step.mk True.intro ?_) | (with_reducible refine Step.mk ?_ ?_; focus (((try simp only [true_and, and_true, and_self, kmin, kmax, decide_eq_true_eq, decide_eq_false_iff_not, castD_self, castL_self, List.length_cons, List.length_nil, List.length_append, Int.natCast_add] at *) <;> omega))) | (with_reducible refine Step.mk ?_ ?_) | (with_reducible refine Way.t1 ?_) | (with_reducible refine Way.f1 ?_) | ((with_reducible refine Way.dec (fun _ => ?_) (fun _ => ?_)) <;> try (exfalso; omega)) | (with_reducible refine Way.nt ?_) | (with_reducible refine Way.mk (fun _ => ?_) (fun _ => ?_)) | (with_reducible refine Drawn.mk (by kernel_rfl) ?_) | (refine Run.mk ?_)))
      · have z : ∀ d : Int, d = c.2.1 → (-9223372036854775808 ≤ max d (L.getD ((k : Int)).toNat tRg.dflt).2.1 ∧ max d (L.getD ((k : Int)).toNat tRg.dflt).2.1 ≤ 9223372036854775807) := fun d hd => by omega
        exact z _ hgc1
      · rename_i q
        have q : touch ((D ++ [c]).getD ((((D ++ [c]).length : Nat) : Int) - 1).toNat tRg.dflt) (L.getD ((k : Int)).toNat tRg.dflt) = true := q
        rw [hgc.out] at q
        have e5 : (D ++ [c]).set ((((D ++ [c]).length : Nat) : Int) - 1).toNat (((D ++ [c]).getD ((((D ++ [c]).length : Nat) : Int) - 1).toNat tRg.dflt).1, max ((D ++ [c]).getD ((((D ++ [c]).length : Nat) : Int) - 1).toNat tRg.dflt).2.1 (L.getD ((k : Int)).toNat tRg.dflt).2.1, ((D ++ [c]).getD ((((D ++ [c]).length : Nat) : Int) - 1).toNat tRg.dflt).2.2) = D ++ [(c.1, max c.2.1 (L.getD ((k : Int)).toNat tRg.dflt).2.1, c.2.2)] := by
          rw [hgc.out]
          have : ((((D ++ [c]).length : Nat) : Int) - 1).toNat = D.length := by rw [hll]; omega
          rw [this]
          exact set_mid D [] c _
        refine Back.by (k + 1, D, some (c.1, max c.2.1 (L.getD ((k : Int)).toNat tRg.dflt).2.1, c.2.2)) ?_ ?_ ?_
        · dsimp only [Option.toList]
          rw [← e5]
          (refine Wk.keep ?_ ?_ <;> repeat' (first | exact True.intro | refine And.intro rfl ?_ | refine And.intro (congrArg (fun z : Int => AV.v false [Lf.d (.int .i64) z]) (by first | omega | (simp only [Int.natCast_add, List.length_cons, List.length_append, List.length_nil]; omega))) ?_ | refine And.intro ?_ ?_))
        · refine ⟨hlt, ?_, (by intro h; cases h), by show D.length + 1 ≤ k + 1; omega, fun c' h => ?_⟩
          · have := hm.out
            rw [if_pos q] at this
            exact this
          · cases h
            refine ⟨hcb.1, ?_⟩
            show 0 ≤ max c.2.1 (L.getD ((k : Int)).toNat tRg.dflt).2.1 ∧ max c.2.1 (L.getD ((k : Int)).toNat tRg.dflt).2.1 ≤ 240
            omega
        · show L.length - (k + 1) < L.length - k; omega
      · rename_i q
        have q : touch ((D ++ [c]).getD ((((D ++ [c]).length : Nat) : Int) - 1).toNat tRg.dflt) (L.getD ((k : Int)).toNat tRg.dflt) = false := q
        rw [hgc.out] at q
        refine Back.by (k + 1, D ++ [c], some (L.getD ((k : Int)).toNat tRg.dflt)) ?_ ?_ ?_
        · dsimp only [Option.toList]
          (refine Wk.ren [(91, 53)] rfl ?_ ?_ <;> repeat' (first | exact True.intro | refine And.intro rfl ?_ | refine And.intro (congrArg (fun z : Int => AV.v false [Lf.d (.int .i64) z]) (by first | omega | (simp only [Int.natCast_add, List.length_cons, List.length_append, List.length_nil]; omega))) ?_ | refine And.intro ?_ ?_))
        · refine ⟨hlt, ?_, (by intro h; cases h), by show (D ++ [c]).length + 1 ≤ k + 1; omega, fun c' h => by cases h; exact hr⟩
          have := hm.out
          rw [if_neg (by rw [q]; decide)] at this
          rw [this, List.append_assoc]
          rfl
        · show L.length - (k + 1) < L.length - k; omega
  · have e : L.drop k = [] := List.drop_eq_nil_of_le (by omega)
    have hm : mrgR L = D ++ cur.toList := by
      rw [hm, e]
      cases cur with
      | none => rw [hn rfl]; rfl
      | some c => rfl
    clear e
    replace hm := Lib.hid hm
    replace hn := Lib.hid hn
    replace hc := Lib.hid hc
    (repeat' (first | (with_reducible refine Cend.go ?_) | (with_reducible refine Step.mk True.intro ?_) | (with_reducible refine Step.mk ?_ ?_; focus (((try simp only [true_and, and_true, and_self, kmin, kmax, decide_eq_true_eq, decide_eq_false_iff_not, castD_self, castL_self, List.length_cons, List.length_nil, List.length_append, Int.natCast_add] at *) <;> omega))) | (with_reducible refine Step.mk ?_ ?_) | (with_reducible refine Way.t1 ?_) | (with_reducible refine Way.f1 ?_) | ((with_reducible refine Way.dec (fun _ => ?_) (fun _ => ?_)) <;> try (exfalso; omega)) | (with_reducible refine Way.nt ?_) | (with_reducible refine Way.mk (fun _ => ?_) (fun _ => ?_)) | (with_reducible refine Drawn.mk (by kernel_rfl) ?_) | (refine Run.mk ?_)))
    refine Ret.mk ?_
    rw [hreg.out, hm.out]
    exact ⟨rfl, .frz rfl, True.intro⟩
@[reducible] def tCh : Ty := .st (.pair .bool (.pair (.slice .str) (.pair (.slice .str) (.pair (.slice .str) (.slice .str)))))
end Go.Proofs.Ytppmhjaooiameaa
