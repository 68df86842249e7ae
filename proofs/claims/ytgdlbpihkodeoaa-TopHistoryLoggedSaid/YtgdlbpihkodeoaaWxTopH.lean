/- The law TopHistoryLogged. -/
import Derived.Test.YtgdlbpihkodeoaaWxDgs
import Derived.Test.YtgdlbpihkodeoaaWxTl2
import Derived.Test.YtgdlbpihkodeoaaWxEq3
namespace Go.Proofs.Ytgdlbpihkodeoaa
open Go.RowKit
set_option maxRecDepth 10000
set_option linter.unusedSimpArgs false

theorem root12 : rootV [1, 2] = 1000072 := by decide +kernel
theorem vfB_true {d : List Int} {m : Int} (h1 : 1 ≤ m) (h2 : m ≤ d.length) : vfB (rootV (d.take m.toNat)) m (rootV d) d.length (consV d m.toNat true) = true := by
  have e : ctV d.length m (rootV (d.take m.toNat)) true (consV d m.toNat true, false) = ((rootV (d.take m.toNat), rootV d), ([], false)) := by
    unfold ctV
    rw [Int.toNat_natCast]
    have := contN_cons d.length d m.toNat (rootV (d.take m.toNat)) true [] false (Nat.le_refl _) (by omega) (by omega) (fun _ => rfl)
    rw [List.append_nil] at this
    exact this
  unfold vfB
  rw [e]
  simp
theorem law_TopHistoryLogged : SpFact 3 (pureSp false [.slice tCm, .int .i64] (fun _ => True) (fun _ => .v false [.d .bool true])) := by
  refine ⟨⟨Try.f3, rfl, rfl, rfl, pureSp_ok (env1_fine (sp := [(7, sp_TRoot), (8, sp_Dgs), (10, sp_PrC), (12, sp_VfC), (11, sp_Ints3)]) (eq := []) (inl := [(9, Try.f9)]) (cl := [])
    ⟨TRoot_sp, Dgs_sp, PrC_sp, VfC_sp, Ints3_sp, True.intro⟩ True.intro ⟨⟨rfl, rfl, rfl⟩, True.intro⟩) rfl (fun _ _ => rfl) ?_⟩, pureSp_loc _ _ _ _⟩
  rintro ⟨l, m, u⟩ - -
  change List Cm at l
  change Int at m
  have r12 : rootV [1, 2] = 1000072 := root12
  have d12 : DigL [1, 2] := by intro x hx; simp at hx; rcases hx with rfl | rfl <;> omega
  replace r12 := Lib.hid r12
  replace d12 := Lib.hid d12
  by_cases hc : hC l = 0
  · have hlen := (hC_all.1 hc).1
    have hd : dgV l = dgs mdg l [] := if_pos hc
    have hdl : (dgV l).length = l.length := by rw [hd, dgs_length]; simp
    by_cases hm : 1 ≤ m ∧ m ≤ l.length
    · obtain ⟨m1, m2⟩ := hm
      have e1 : List.drop (Int.toNat 0) (List.take m.toNat l) = l.take m.toNat := by simp
      have e2 : List.drop (Int.toNat 0) (List.take m.toNat (dgV l)) = (dgV l).take m.toNat := by simp
      have hc2 : hC (List.drop (Int.toNat 0) (List.take m.toNat l)) = 0 := by rw [e1]; exact hC_take hc _
      have hd2 : dgV (List.drop (Int.toNat 0) (List.take m.toNat l)) = (dgV l).take m.toNat := by
        rw [e1, hd, show dgV (l.take m.toNat) = dgs mdg (l.take m.toNat) [] from if_pos (hC_take hc _)]
        exact (dgs_take mdg (by omega)).symm
      have hdd : DigL (dgV l) := by rw [hd]; exact dgs_dig mdg_bd _ _ (fun x hx => by cases hx)
      have hdt := hdd.take m.toNat
      have hvf := vfB_true (d := dgV l) m1 (by omega)
      have hcl := consV_len (dgV l).length (dgV l) m.toNat true (Nat.le_refl _) (by omega) (by omega)
      have hcd := consV_dig (dgV l).length (dgV l) m.toNat true (Nat.le_refl _) (by omega) (by omega) hdd
      have rb1 := rootV_bd hdd
      have rb2 := rootV_bd hdt
      have htl : ((dgV l).take m.toNat).length = m.toNat := by rw [List.length_take]; omega
      replace hdd := Lib.hid hdd
      replace hdt := Lib.hid hdt
      replace hvf := Lib.hid hvf
      replace hcd := Lib.hid hcd
      replace hd := Lib.hid hd
      replace hd2 := Lib.hid hd2
      replace e1 := Lib.hid e1
      replace e2 := Lib.hid e2
      replace rb1 := Lib.hid rb1
      replace rb2 := Lib.hid rb2
      replace hc2 := Lib.hid hc2
      (refine fnM_of rfl rfl rfl rfl ?_; dsimp only [params, argAV, Ty.leaves, Ty.isSt])
      (repeat' (first | (with_reducible refine Step.mk True.intro ?_) | (with_reducible refine Step.mk ?_ ?_; focus (((try simp only [true_and, and_true, and_self, kmin, kmax, decide_eq_true_eq, decide_eq_false_iff_not, castD_self, castL_self, List.length_cons, List.length_nil, List.length_append, Int.natCast_add] at *) <;> omega))) | (with_reducible refine Step.mk ?_ ?_) | (with_reducible refine Way.t1 ?_) | (with_reducible refine Way.f1 ?_) | ((with_reducible refine Way.dec (fun _ => ?_) (fun _ => ?_)) <;> try (exfalso; omega)) | (with_reducible refine Way.nt ?_) | (with_reducible refine Way.mk (fun _ => ?_) (fun _ => ?_)) | (with_reducible refine Drawn.mk (by kernel_rfl) ?_) | (refine Run.mk ?_)))
      all_goals first
        | exact ⟨by decide, d12.out⟩
        | (rename_i q; exact absurd r12.out q)
        | (rename_i q; exact absurd hc q)
        | (rename_i q; exact absurd hc2.out q)
        | (rename_i q; exact absurd (hd2.out.trans e2.out.symm) q)
        | exact Ret.mk (show AV.v false [.d .bool (decide ((((dgV l).length : Nat) : Int) = ((l.length : Nat) : Int)))] = _ by rw [decide_eq_true (by omega)])
        | exact ⟨show (dgV l).length ≤ 64 by omega, hdd.out, m1, show m ≤ (((dgV l).length : Nat) : Int) by omega⟩
        | exact ⟨show (dgV l).length ≤ 64 by omega, hdd.out⟩
        | exact ⟨show (dgV (List.drop (Int.toNat 0) (List.take m.toNat l))).length ≤ 64 by rw [hd2.out]; omega, show DigL (dgV (List.drop (Int.toNat 0) (List.take m.toNat l))) by rw [hd2.out]; exact hdt.out⟩
        | exact ⟨show 0 ≤ rootV (dgV (List.drop (Int.toNat 0) (List.take m.toNat l))) ∧ rootV (dgV (List.drop (Int.toNat 0) (List.take m.toNat l))) < 2305843009213693951 by rw [hd2.out]; exact rb2.out, m1, show m ≤ (((dgV l).length : Nat) : Int) by omega, rb1.out, show (((dgV l).length : Nat) : Int) ≤ 64 by omega, show (consV (dgV l) m.toNat true).length ≤ 64 by omega, hcd.out⟩
        | exact Ret.mk (show AV.v false [.d .bool (vfB (rootV (dgV (List.drop (Int.toNat 0) (List.take m.toNat l)))) m (rootV (dgV l)) (((dgV l).length : Nat) : Int) (consV (dgV l) m.toNat true))] = _ by rw [hd2.out, hvf.out])
        | skip
    · replace hd := Lib.hid hd
      (refine fnM_of rfl rfl rfl rfl ?_; dsimp only [params, argAV, Ty.leaves, Ty.isSt])
      (repeat' (first | (with_reducible refine Step.mk True.intro ?_) | (with_reducible refine Step.mk ?_ ?_; focus (((try simp only [true_and, and_true, and_self, kmin, kmax, decide_eq_true_eq, decide_eq_false_iff_not, castD_self, castL_self, List.length_cons, List.length_nil, List.length_append, Int.natCast_add] at *) <;> omega))) | (with_reducible refine Step.mk ?_ ?_) | (with_reducible refine Way.t1 ?_) | (with_reducible refine Way.f1 ?_) | ((with_reducible refine Way.dec (fun _ => ?_) (fun _ => ?_)) <;> try (exfalso; omega)) | (with_reducible refine Way.nt ?_) | (with_reducible refine Way.mk (fun _ => ?_) (fun _ => ?_)) | (with_reducible refine Drawn.mk (by kernel_rfl) ?_) | (refine Run.mk ?_)))
      all_goals first
        | exact ⟨by decide, d12.out⟩
        | (rename_i q; exact absurd r12.out q)
        | (rename_i q; exact absurd hc q)
        | exact Ret.mk (show AV.v false [.d .bool (decide ((((dgV l).length : Nat) : Int) = ((l.length : Nat) : Int)))] = _ by rw [decide_eq_true (by omega)])
        | (exfalso; rename_i a b c d; have c : m ≤ (((dgV l).length : Nat) : Int) := c; omega)
        | (exfalso; rename_i a b c; have b : m ≤ (((dgV l).length : Nat) : Int) := b; omega)
        | skip
  · have hd : dgV l = [] := if_neg hc
    have hv : (decide (hC l ≠ 0)) = true := decide_eq_true hc
    clear hv
    replace hd := Lib.hid hd
    (refine fnM_of rfl rfl rfl rfl ?_; dsimp only [params, argAV, Ty.leaves, Ty.isSt])
    (repeat' (first | (with_reducible refine Step.mk True.intro ?_) | (with_reducible refine Step.mk ?_ ?_; focus (((try simp only [true_and, and_true, and_self, kmin, kmax, decide_eq_true_eq, decide_eq_false_iff_not, castD_self, castL_self, List.length_cons, List.length_nil, List.length_append, Int.natCast_add] at *) <;> omega))) | (with_reducible refine Step.mk ?_ ?_) | (with_reducible refine Way.t1 ?_) | (with_reducible refine Way.f1 ?_) | ((with_reducible refine Way.dec (fun _ => ?_) (fun _ => ?_)) <;> try (exfalso; omega)) | (with_reducible refine Way.nt ?_) | (with_reducible refine Way.mk (fun _ => ?_) (fun _ => ?_)) | (with_reducible refine Drawn.mk (by kernel_rfl) ?_) | (refine Run.mk ?_)))
    all_goals first
        | exact ⟨by decide, d12.out⟩
        | (rename_i q; exact absurd r12.out q)
        | exact Ret.mk (show AV.v false [.d .bool (decide ((((dgV l).length : Nat) : Int) = 0))] = _ by rw [hd.out]; rfl)
        | (show (((dgV l).length : Nat) : Int) ≤ _; rw [hd.out]; decide)
        | (exfalso; rename_i a b; exact hc a)
        | (exfalso; rename_i a b c; exact hc a)
        | (exfalso; exact hc ‹hC l = 0›)
        | skip
end Go.Proofs.Ytgdlbpihkodeoaa
