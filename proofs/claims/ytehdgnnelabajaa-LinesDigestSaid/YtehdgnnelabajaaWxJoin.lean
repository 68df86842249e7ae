/- The walk of lines.Join. -/
import Derived.Test.YtehdgnnelabajaaWxLin
import Derived.Test.YtehdgnnelabajaaWxBld
import Derived.Test.YtehdgnnelabajaaLnPure
namespace Go.Proofs.Ytehdgnnelabajaa
open Go.RowKit
set_option maxRecDepth 10000
set_option linter.unusedSimpArgs false

/-- a fresh builder is a builder of no byte -/
theorem Wk.bld {n : Nat} {sl : List SEnt} {hl : List HEnt} (b : Nat) {T e : TypeId} {l : List UInt8} (h : bldOf T e (hget hl b) = some l) : Wk n sl hl sl (.put b (.bld T e l) :: hl) := by
  intro F G a w hr
  cases hb : hget hl b with
  | none => rw [hb] at h; cases h
  | some ob =>
    rw [hb] at h
    obtain ⟨hx, hq⟩ := write_step (w' := w) hr.hp b ob (.bld T e l) hb (Only.refl _ _) (fun _ => bld_sat (hr.hp.sat b ob hb) h)
    have hh : hget (.put b (.bld T e l) :: hl) = upd (hget hl) b (some (.bld T e l)) := hget_app [.put b (.bld T e l)] hl
    have hok : Okay F (hget hl) G = Okay F (upd (hget hl) b (some (.bld T e l))) G := by
      funext k
      have : Foot (hget hl) G k ↔ Foot (upd (hget hl) b (some (.bld T e l))) G k := by
        constructor
        · rintro ⟨c, oc, q1, q2⟩
          by_cases hc : c = b
          · subst hc; exact ⟨c, _, upd_same _ _ _, q2⟩
          · exact ⟨c, oc, by rw [upd_ne _ _ hc]; exact q1, q2⟩
        · rintro ⟨c, oc, q1, q2⟩
          by_cases hc : c = b
          · subst hc; exact ⟨c, ob, hb, q2⟩
          · rw [upd_ne _ _ hc] at q1; exact ⟨c, oc, q1, q2⟩
      exact propext ⟨fun ⟨k1, k2⟩ => ⟨k1, fun k3 => k2 (this.2 k3)⟩, fun ⟨k1, k2⟩ => ⟨k1, fun k3 => k2 (this.1 k3)⟩⟩
    refine ⟨G, hr.df, hr.sz, hr.lm, fun k => ?_, by rw [hh]; exact hq⟩
    have := hr.sl k
    rw [hok, ← hh] at this
    exact this

def sp_Join : SpecF := pureSp true [.slice .str] (fun _ => True) (fun (a', _) => .tu [(false, [.d .str (jS a')]), (true, [.d (.int .i64) (jC a'), .d (.int .i64) (jI a')])])
theorem Join_sp : SpFact 13 sp_Join := by
  refine ⟨⟨Try.f13, rfl, rfl, rfl, pureSp_ok (env_fine (sp := [(15, sp_Validate), (35, sp_WS), (36, sp_WB), (37, sp_BStr)]) (eq := [(24, true)])
    ⟨Validate_sp, WS_sp, WB_sp, BStr_sp, True.intro⟩ ⟨eq_fault, True.intro⟩) rfl (fun ⟨_, _⟩ _ => rfl) ?_⟩, pureSp_loc _ _ _ _⟩
  rintro ⟨l, u⟩ - -
  change List ByteArray at l
  by_cases hv0 : vC l = 0
  · have hv : (decide (vC l = 0) && decide (vI l = 0)) = true := by rw [hv0, vI_good l ((vC_good l).1 hv0)]; rfl
    obtain ⟨hn, hs⟩ := (vC_good l).1 hv0
    have hs80 : ∀ k, (l.getD k ByteArray.empty).size ≤ 80 := by
      intro k
      by_cases h : k < l.length
      · rw [List.getD_eq_getElem?_getD, List.getElem?_eq_getElem h]; exact (hs _ (List.getElem_mem h)).1
      · rw [List.getD_eq_getElem?_getD, List.getElem?_eq_none (by omega)]; decide
    have hjl := joinL_len fun s h => (hs s h).1
    replace hs := Lib.hid hs
    replace hs80 := Lib.hid hs80
    replace hv0 := Lib.hid hv0
    replace hv := Lib.hid hv
    (refine fnM_of rfl rfl rfl rfl ?_; dsimp only [params, argAV, Ty.leaves, Ty.isSt])
    (repeat' (first | (with_reducible refine Step.mk True.intro ?_) | (with_reducible refine Step.mk ?_ ?_; focus (((try simp only [true_and, and_true, and_self, kmin, kmax, decide_eq_true_eq, decide_eq_false_iff_not, castD_self, castL_self, List.length_cons, List.length_nil, List.length_append, Int.natCast_add] at *) <;> omega))) | (with_reducible refine Step.mk ?_ ?_) | (with_reducible refine Way.t1 ?_) | (with_reducible refine Way.f1 ?_) | ((with_reducible refine Way.dec (fun _ => ?_) (fun _ => ?_)) <;> try (exfalso; omega)) | (with_reducible refine Way.nt ?_) | ((with_reducible refine Way.mk (fun _ => ?_) (fun _ => ?_)) <;> try (exfalso; rename_i hw; first | exact Bool.noConfusion ((Go.RowKit.Hid.out hv).symm.trans hw) | exact Bool.noConfusion (hw.symm.trans (Go.RowKit.Hid.out hv)))) | (with_reducible refine Drawn.mk (by kernel_rfl) ?_) | (refine Run.mk ?_)))
    refine loop_by (X := Nat × Nat) (fun x => [.put 0 (.v false [.d (.slice .str) l]), .put 3 (.v false [.p 3 0]), .put 5 (.v false [.d (.int .i64) (x.2 : Int)]), .put 19 (.v false [.d (.slice .str) l]), .put 20 (.v false [.d (.int .i64) (l.length : Int)]), .put 21 (.v false [.d (.int .i64) (x.1 : Int)])])
      (fun _ => [.put 3 (.box 24 [.d (.int .i64) 0, .d (.int .i64) 0])]) (fun x => x.1 ≤ l.length ∧ x.2 + x.1 = l.length + (joinL (l.take x.1)).length ∧ (joinL (l.take x.1)).length ≤ 81 * x.1) (fun x => l.length - x.1) (0, l.length) ⟨Nat.zero_le _, by simp [joinL], by simp [joinL]⟩ ?_ ?_
    · (refine Wk.keep ?_ ?_ <;> repeat' (first | exact True.intro | refine And.intro rfl ?_ | refine And.intro (congrArg (fun z : Int => AV.v false [Lf.d (.int .i64) z]) (by first | omega | (simp only [Int.natCast_add, List.length_cons, List.length_append, List.length_nil]; omega))) ?_ | refine And.intro ?_ ?_))
    rintro ⟨k, n⟩ ⟨hk, hj, hj2⟩
    dsimp only at hk hj hj2 ⊢
    have hsz : ByteArray.size (l.getD ((k : Int)).toNat Ty.str.dflt) ≤ 80 := hs80.out k
    by_cases hlt : k < l.length
    · have hj3 := joinL_len_take hlt
      have hj3 : (joinL (l.take (k + 1))).length = (joinL (l.take k)).length + ByteArray.size (l.getD ((k : Int)).toNat Ty.str.dflt) + 1 := hj3
      (repeat' (first | (with_reducible refine Step.mk True.intro ?_) | (with_reducible refine Step.mk ?_ ?_; focus (((try simp only [true_and, and_true, and_self, kmin, kmax, decide_eq_true_eq, decide_eq_false_iff_not, castD_self, castL_self, List.length_cons, List.length_nil, List.length_append, Int.natCast_add] at *) <;> omega))) | (with_reducible refine Step.mk ?_ ?_) | (with_reducible refine Way.t1 ?_) | (with_reducible refine Way.f1 ?_) | ((with_reducible refine Way.dec (fun _ => ?_) (fun _ => ?_)) <;> try (exfalso; omega)) | (with_reducible refine Way.nt ?_) | (with_reducible refine Way.mk (fun _ => ?_) (fun _ => ?_)) | (with_reducible refine Drawn.mk (by kernel_rfl) ?_) | (refine Run.mk ?_)))
      (refine Back.by ((k + 1, n + ByteArray.size (l.getD ((k : Int)).toNat Ty.str.dflt))) ?_ ?_ ?_; focus (refine Wk.keep ?_ ?_ <;> repeat' (first | exact True.intro | refine And.intro rfl ?_ | refine And.intro (congrArg (fun z : Int => AV.v false [Lf.d (.int .i64) z]) (by first | omega | (simp only [Int.natCast_add, List.length_cons, List.length_append, List.length_nil]; omega))) ?_ | refine And.intro ?_ ?_)))
      · refine ⟨hlt, ?_, ?_⟩
        · show n + ByteArray.size (l.getD ((k : Int)).toNat Ty.str.dflt) + (k + 1) = l.length + (joinL (l.take (k + 1))).length
          omega
        · show (joinL (l.take (k + 1))).length ≤ 81 * (k + 1)
          omega
      · show l.length - (k + 1) < l.length - k; omega
    · have hkl : k = l.length := by omega
      subst hkl
      rw [List.take_length] at hj hj2
      have hnn : n = (joinL l).length := by omega
      subst hnn
      (repeat' (first | (with_reducible refine Step.mk True.intro ?_) | (with_reducible refine Step.mk ?_ ?_; focus (((try simp only [true_and, and_true, and_self, kmin, kmax, decide_eq_true_eq, decide_eq_false_iff_not, castD_self, castL_self, List.length_cons, List.length_nil, List.length_append, Int.natCast_add] at *) <;> omega))) | (with_reducible refine Step.mk ?_ ?_) | (with_reducible refine Way.t1 ?_) | (with_reducible refine Way.f1 ?_) | ((with_reducible refine Way.dec (fun _ => ?_) (fun _ => ?_)) <;> try (exfalso; omega)) | (with_reducible refine Way.nt ?_) | (with_reducible refine Way.mk (fun _ => ?_) (fun _ => ?_)) | (with_reducible refine Drawn.mk (by kernel_rfl) ?_) | (refine Run.mk ?_)))
      · rename_i h
        refine Ret.mk ?_
        have h : 4096 < (joinL l).length := by omega
        have e1 : jC l = 10 := by unfold jC; rw [if_pos hv0.out, if_pos h]
        have e2 : jI l = -1 := by unfold jI; rw [if_pos hv0.out, if_pos h]
        have e3 : jS l = ByteArray.empty := if_neg (by rw [e1]; decide)
        rw [e3, e1, e2]
        rfl
      · rename_i h
        have h : ¬ 4096 < (joinL l).length := by omega
        refine loop_by (X := Nat × List UInt8) (fun x => [.put 3 (.v false [.p 3 0]), .put 8 (.v false [.p 8 0]), .put 33 (.v false [.d (.slice .str) l]), .put 34 (.v false [.d (.int .i64) (l.length : Int)]), .put 35 (.v false [.d (.int .i64) (x.1 : Int)])])
          (fun x => [.put 8 (.bld 57 5 x.2), .put 3 (.box 24 [.d (.int .i64) 0, .d (.int .i64) 0])]) (fun x => x.1 ≤ l.length ∧ x.2 = joinL (l.take x.1)) (fun x => l.length - x.1) (0, []) ⟨Nat.zero_le _, by simp [joinL]⟩ ?_ ?_
        · refine Wk.trans (Wk.bld 8 (T := 57) (e := 5) (l := []) rfl) ?_
          (refine Wk.keep ?_ ?_ <;> repeat' (first | exact True.intro | refine And.intro rfl ?_ | refine And.intro (congrArg (fun z : Int => AV.v false [Lf.d (.int .i64) z]) (by first | omega | (simp only [Int.natCast_add, List.length_cons, List.length_append, List.length_nil]; omega))) ?_ | refine And.intro ?_ ?_))
        rintro ⟨k, acc⟩ ⟨hk, ha⟩
        dsimp only at hk ha ⊢
        have hsz : ByteArray.size (l.getD ((k : Int)).toNat Ty.str.dflt) ≤ 80 := hs80.out k
        have hal : acc.length ≤ 4096 := by have := joinL_take_le l k; rw [ha]; omega
        by_cases hlt : k < l.length
        · have hj3 := joinL_take hlt
          have hj3 : joinL (l.take (k + 1)) = (joinL (l.take k) ++ (l.getD ((k : Int)).toNat Ty.str.dflt).data.toList) ++ [10] := hj3
          rw [← ha] at hj3
          replace hj3 := Lib.hid hj3
          replace ha := Lib.hid ha
          have hsl : (l.getD ((k : Int)).toNat Ty.str.dflt).data.toList.length ≤ 80 := hsz
          (repeat' (first | (with_reducible refine Step.mk True.intro ?_) | (with_reducible refine Step.mk ?_ ?_; focus (((try simp only [true_and, and_true, and_self, kmin, kmax, decide_eq_true_eq, decide_eq_false_iff_not, castD_self, castL_self, List.length_cons, List.length_nil, List.length_append, Int.natCast_add] at *) <;> omega))) | (with_reducible refine Step.mk ?_ ?_) | (with_reducible refine Way.t1 ?_) | (with_reducible refine Way.f1 ?_) | ((with_reducible refine Way.dec (fun _ => ?_) (fun _ => ?_)) <;> try (exfalso; omega)) | (with_reducible refine Way.nt ?_) | (with_reducible refine Way.mk (fun _ => ?_) (fun _ => ?_)) | (with_reducible refine Drawn.mk (by kernel_rfl) ?_) | (refine Run.mk ?_)))
          (refine Back.by ((k + 1, (acc ++ (l.getD ((k : Int)).toNat Ty.str.dflt).data.toList) ++ [10])) ?_ ?_ ?_; focus (refine Wk.keep ?_ ?_ <;> repeat' (first | exact True.intro | refine And.intro rfl ?_ | refine And.intro (congrArg (fun z : Int => AV.v false [Lf.d (.int .i64) z]) (by first | omega | (simp only [Int.natCast_add, List.length_cons, List.length_append, List.length_nil]; omega))) ?_ | refine And.intro ?_ ?_)))
          · exact ⟨hlt, hj3.out.symm⟩
          · show l.length - (k + 1) < l.length - k; omega
        · have hkl : k = l.length := by omega
          subst hkl
          rw [List.take_length] at ha
          have e1 : jC l = 0 := by unfold jC; rw [if_pos hv0.out, if_neg h]
          have e2 : jI l = 0 := by unfold jI; rw [if_pos hv0.out, if_neg h]
          have e3 : jS l = ⟨(joinL l).toArray⟩ := if_pos e1
          replace ha := Lib.hid ha
          (repeat' (first | (with_reducible refine Step.mk True.intro ?_) | (with_reducible refine Step.mk ?_ ?_; focus (((try simp only [true_and, and_true, and_self, kmin, kmax, decide_eq_true_eq, decide_eq_false_iff_not, castD_self, castL_self, List.length_cons, List.length_nil, List.length_append, Int.natCast_add] at *) <;> omega))) | (with_reducible refine Step.mk ?_ ?_) | (with_reducible refine Way.t1 ?_) | (with_reducible refine Way.f1 ?_) | ((with_reducible refine Way.dec (fun _ => ?_) (fun _ => ?_)) <;> try (exfalso; omega)) | (with_reducible refine Way.nt ?_) | (with_reducible refine Way.mk (fun _ => ?_) (fun _ => ?_)) | (with_reducible refine Drawn.mk (by kernel_rfl) ?_) | (refine Run.mk ?_)))
          refine Ret.mk ?_
          rw [e3, e1, e2, ← ha.out]
          rfl
  · have hv : (decide (vC l = 0) && decide (vI l = 0)) = false := by rw [decide_eq_false hv0]; rfl
    replace hv0 := Lib.hid hv0
    replace hv := Lib.hid hv
    (refine fnM_of rfl rfl rfl rfl ?_; dsimp only [params, argAV, Ty.leaves, Ty.isSt])
    (repeat' (first | (with_reducible refine Step.mk True.intro ?_) | (with_reducible refine Step.mk ?_ ?_; focus (((try simp only [true_and, and_true, and_self, kmin, kmax, decide_eq_true_eq, decide_eq_false_iff_not, castD_self, castL_self, List.length_cons, List.length_nil, List.length_append, Int.natCast_add] at *) <;> omega))) | (with_reducible refine Step.mk ?_ ?_) | (with_reducible refine Way.t1 ?_) | (with_reducible refine Way.f1 ?_) | ((with_reducible refine Way.dec (fun _ => ?_) (fun _ => ?_)) <;> try (exfalso; omega)) | (with_reducible refine Way.nt ?_) | ((with_reducible refine Way.mk (fun _ => ?_) (fun _ => ?_)) <;> try (exfalso; rename_i hw; first | exact Bool.noConfusion ((Go.RowKit.Hid.out hv).symm.trans hw) | exact Bool.noConfusion (hw.symm.trans (Go.RowKit.Hid.out hv)))) | (with_reducible refine Drawn.mk (by kernel_rfl) ?_) | (refine Run.mk ?_)))
    refine Ret.mk ?_
    have e1 : jC l = vC l := if_neg hv0.out
    have e2 : jI l = vI l := if_neg hv0.out
    have e3 : jS l = ByteArray.empty := if_neg (by rw [e1]; exact hv0.out)
    rw [e3, e1, e2]
    rfl
end Go.Proofs.Ytehdgnnelabajaa
