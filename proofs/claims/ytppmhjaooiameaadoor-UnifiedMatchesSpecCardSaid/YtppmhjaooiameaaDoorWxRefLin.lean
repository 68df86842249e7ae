/- The walks of the reference's faults of texts: At, LinesFault, LinesCode. -/
import Derived.Test.YtppmhjaooiameaaDoorWxBase
namespace Go.Proofs.YtppmhjaooiameaaDoor
open Go.RowKit
set_option maxRecDepth 10000
set_option linter.unusedSimpArgs false

def sp_At : SpecF := pureSp true [.int .i64, .int .i64] (fun _ => True) (fun (c', i', _) => .v true [.d (.int .i64) c', .d (.int .i64) i'])
theorem At_sp : SpFact 22 sp_At := by
  refine ⟨⟨Tryd.f22, rfl, rfl, rfl, pureSp_ok (env_fine (sp := []) (eq := []) True.intro True.intro) rfl (fun ⟨_, _, _⟩ _ => rfl) ?_⟩, pureSp_loc _ _ _ _⟩
  rintro ⟨c, i, u⟩ - -
  (refine fnM_of rfl rfl rfl rfl ?_; dsimp only [params, argAV, Ty.leaves, Ty.isSt])
  (repeat' (first | (with_reducible refine Cend.go ?_) | (with_reducible refine Step.mk True.intro ?_) | (with_reducible refine Step.mk ?_ ?_; focus (((try simp only [true_and, and_true, and_self, kmin, kmax, decide_eq_true_eq, decide_eq_false_iff_not, castD_self, castL_self, List.length_cons, List.length_nil, List.length_append, Int.natCast_add] at *) <;> omega))) | (with_reducible refine Step.mk ?_ ?_) | (with_reducible refine Way.t1 ?_) | (with_reducible refine Way.f1 ?_) | ((with_reducible refine Way.dec (fun _ => ?_) (fun _ => ?_)) <;> try (exfalso; omega)) | (with_reducible refine Way.nt ?_) | (with_reducible refine Way.mk (fun _ => ?_) (fun _ => ?_)) | (with_reducible refine Drawn.mk (by kernel_rfl) ?_) | (refine Run.mk ?_)))
  exact Ret.mk rfl
theorem vIdx_bad {l : List ByteArray} {k : Nat} (hk : k ≤ vIdx l) (h : k < l.length) (hb : lineC l[k] ≠ 0) : vIdx l = k := by
  rcases Nat.lt_or_ge k (vIdx l) with q | q
  · exact absurd (line_ok l k q h) hb
  · omega
theorem vIdx_good {l : List ByteArray} {k : Nat} (hk : k ≤ vIdx l) (h : k < l.length) (hb : lineC l[k] = 0) : k + 1 ≤ vIdx l := by
  rcases Nat.lt_or_ge k (vIdx l) with q | q
  · exact q
  · obtain rfl : k = vIdx l := by omega
    exact absurd hb (line_bad l h)
theorem v_bad {l : List ByteArray} {k : Nat} (hl : l.length ≤ 120) (hk : k ≤ vIdx l) (h : k < l.length) (hb : lineC l[k] ≠ 0) : vC l = lineC l[k] ∧ vI l = k := by
  have e := vIdx_bad hk h hb
  subst e
  constructor
  · unfold vC; rw [if_neg (by omega), dif_pos h]
  · unfold vI; rw [if_neg (by omega), if_pos h]
theorem v_all {l : List ByteArray} (hl : l.length ≤ 120) (hk : l.length ≤ vIdx l) : vC l = 0 ∧ vI l = 0 := by
  constructor
  · unfold vC; rw [if_neg (by omega), dif_neg (by omega)]
  · unfold vI; rw [if_neg (by omega), if_neg (by omega)]
theorem byte_mem {s : ByteArray} {k : Nat} (h : k < s.size) (e : byteAt s k = 10) : (10 : UInt8) ∈ s.data.toList := by
  have hl : k < s.data.toList.length := by rw [Array.length_toList]; exact h
  have hh : s.data.toList.getD k 0 = s.data.toList[k] := by rw [List.getD_eq_getElem?_getD, List.getElem?_eq_getElem hl]; rfl
  unfold byteAt at e
  rw [hh] at e
  have : s.data.toList[k] = 10 := UInt8.toNat_inj.1 (show s.data.toList[k].toNat = 10 by omega)
  rw [← this]
  exact List.getElem_mem hl
theorem byte_not {s : ByteArray} (h : ∀ k, k < s.size → byteAt s k ≠ 10) : (10 : UInt8) ∉ s.data.toList := by
  intro hm
  obtain ⟨k, hk, e⟩ := List.getElem_of_mem hm
  have hk' : k < s.size := by rw [Array.length_toList] at hk; exact hk
  refine h k hk' ?_
  unfold byteAt
  rw [List.getD_eq_getElem?_getD, List.getElem?_eq_getElem hk, e]
  rfl
def sp_LFault : SpecF := pureSp true [.slice .str] (fun _ => True) (fun (a', _) => .v true [.d (.int .i64) (vC a'), .d (.int .i64) (vI a')])
theorem LFault_sp : SpFact 49 sp_LFault := by
  refine ⟨⟨Tryd.f49, rfl, rfl, rfl, pureSp_ok (env_fine (sp := [(22, sp_At)]) (eq := []) ⟨At_sp, True.intro⟩ True.intro) rfl (fun ⟨_, _⟩ _ => rfl) ?_⟩, pureSp_loc _ _ _ _⟩
  rintro ⟨l, u⟩ ⟨⟨hl, hs⟩, -⟩ -
  rw [maxLen_eq] at hl
  dsimp only at hl hs ⊢
  change List ByteArray at l
  have hs : ∀ s ∈ l, s.size ≤ 9223372036854775807 := hs
  replace hs := Lib.hid hs
  (refine fnM_of rfl rfl rfl rfl ?_; dsimp only [params, argAV, Ty.leaves, Ty.isSt])
  (repeat' (first | (with_reducible refine Cend.go ?_) | (with_reducible refine Step.mk True.intro ?_) | (with_reducible refine Step.mk ?_ ?_; focus (((try simp only [true_and, and_true, and_self, kmin, kmax, decide_eq_true_eq, decide_eq_false_iff_not, castD_self, castL_self, List.length_cons, List.length_nil, List.length_append, Int.natCast_add] at *) <;> omega))) | (with_reducible refine Step.mk ?_ ?_) | (with_reducible refine Way.t1 ?_) | (with_reducible refine Way.f1 ?_) | ((with_reducible refine Way.dec (fun _ => ?_) (fun _ => ?_)) <;> try (exfalso; omega)) | (with_reducible refine Way.nt ?_) | (with_reducible refine Way.mk (fun _ => ?_) (fun _ => ?_)) | (with_reducible refine Drawn.mk (by kernel_rfl) ?_) | (refine Run.mk ?_)))
  · rename_i h1
    have h1 : 120 < l.length := by omega
    refine Ret.mk ?_
    show AV.v true [.d (.int .i64) 2, .d (.int .i64) (-1)] = _
    rw [show vC l = 2 from if_pos h1, show vI l = -1 from if_pos h1]
  rename_i h1
  have h1 : l.length ≤ 120 := by omega
  have hle := vIdx_le l
  refine loop_by (X := Nat) (fun k => [.put 0 (.v false [.d (.slice .str) l]), .put 2 (.v false [.p 2 0]), .put 3 (.v false [.d (.int .i64) (k : Int)])]) (fun _ => [.put 2 (.box 27 [.d (.int .i64) 0, .d (.int .i64) 0])])
    (fun k => k ≤ vIdx l) (fun k => l.length - k) 0 (Nat.zero_le _) ?_ ?_
  · (refine Wk.keep ?_ ?_ <;> repeat' (first | exact True.intro | refine And.intro rfl ?_ | refine And.intro (congrArg (fun z : Int => AV.v false [Lf.d (.int .i64) z]) (by first | omega | (simp only [Int.natCast_add, List.length_cons, List.length_append, List.length_nil]; omega))) ?_ | refine And.intro ?_ ?_))
  intro k hk
  (try dsimp only)
  by_cases hlt : k < l.length
  · have hg := getD_at (a := l) Ty.str.dflt hlt
    have hsz := hs.out l[k] (List.getElem_mem hlt)
    have hbad := v_bad h1 hk hlt
    have hgood := vIdx_good hk hlt
    rw [← hg] at hsz hbad hgood
    replace hbad := Lib.hid hbad
    replace hgood := Lib.hid hgood
    replace hg := Lib.hid hg
    (repeat' (first | (with_reducible refine Cend.go ?_) | (with_reducible refine Step.mk True.intro ?_) | (with_reducible refine Step.mk ?_ ?_; focus (((try simp only [true_and, and_true, and_self, kmin, kmax, decide_eq_true_eq, decide_eq_false_iff_not, castD_self, castL_self, List.length_cons, List.length_nil, List.length_append, Int.natCast_add] at *) <;> omega))) | (with_reducible refine Step.mk ?_ ?_) | (with_reducible refine Way.t1 ?_) | (with_reducible refine Way.f1 ?_) | ((with_reducible refine Way.dec (fun _ => ?_) (fun _ => ?_)) <;> try (exfalso; omega)) | (with_reducible refine Way.nt ?_) | (with_reducible refine Way.mk (fun _ => ?_) (fun _ => ?_)) | (with_reducible refine Drawn.mk (by kernel_rfl) ?_) | (refine Run.mk ?_)))
    · rename_i h3
      have h3 : 80 < ((l.getD ((k : Int)).toNat Ty.str.dflt).size : Int) := h3
      have h4 := lineC_long (l.getD ((k : Int)).toNat Ty.str.dflt) (by omega)
      obtain ⟨q1, q2⟩ := hbad.out (by rw [h4]; decide)
      refine Ret.mk ?_
      show AV.v true [.d (.int .i64) 2, .d (.int .i64) (k : Int)] = AV.v true [.d (.int .i64) (vC l), .d (.int .i64) (vI l)]
      rw [q1, q2, h4]
    rename_i h3
    have h3 : ¬ 80 < ((l.getD ((k : Int)).toNat Ty.str.dflt).size : Int) := h3
    refine loop_by (X := Nat) (fun m => [.put 0 (.v false [.d (.slice .str) l]), .put 2 (.v false [.p 2 0]), .put 3 (.v false [.d (.int .i64) (k : Int)]), .put 4 (.v false [.d (.int .i64) (m : Int)])]) (fun _ => [.put 2 (.box 27 [.d (.int .i64) 0, .d (.int .i64) 0])])
      (fun m => m ≤ (l.getD ((k : Int)).toNat Ty.str.dflt).size ∧ ∀ q, q < m → byteAt (l.getD ((k : Int)).toNat Ty.str.dflt) q ≠ 10) (fun m => (l.getD ((k : Int)).toNat Ty.str.dflt).size - m) 0 ⟨Nat.zero_le _, fun q hq => absurd hq (Nat.not_lt_zero q)⟩ ?_ ?_
    · (refine Wk.keep ?_ ?_ <;> repeat' (first | exact True.intro | refine And.intro rfl ?_ | refine And.intro (congrArg (fun z : Int => AV.v false [Lf.d (.int .i64) z]) (by first | omega | (simp only [Int.natCast_add, List.length_cons, List.length_append, List.length_nil]; omega))) ?_ | refine And.intro ?_ ?_))
    rintro m ⟨hm, hn⟩
    (try dsimp only at hm hn); (try dsimp only)
    by_cases hmt : m < (l.getD ((k : Int)).toNat Ty.str.dflt).size
    · have hin := byteAt_in (l.getD ((k : Int)).toNat Ty.str.dflt) m
      have hmem := @byte_mem (l.getD ((k : Int)).toNat Ty.str.dflt) m hmt
      replace hn := Lib.hid hn
      replace hmem := Lib.hid hmem
      (repeat' (first | (with_reducible refine Cend.go ?_) | (with_reducible refine Step.mk True.intro ?_) | (with_reducible refine Step.mk ?_ ?_; focus (((try simp only [true_and, and_true, and_self, kmin, kmax, decide_eq_true_eq, decide_eq_false_iff_not, castD_self, castL_self, List.length_cons, List.length_nil, List.length_append, Int.natCast_add] at *) <;> omega))) | (with_reducible refine Step.mk ?_ ?_) | (with_reducible refine Way.t1 ?_) | (with_reducible refine Way.f1 ?_) | ((with_reducible refine Way.dec (fun _ => ?_) (fun _ => ?_)) <;> try (exfalso; omega)) | (with_reducible refine Way.nt ?_) | (with_reducible refine Way.mk (fun _ => ?_) (fun _ => ?_)) | (with_reducible refine Drawn.mk (by kernel_rfl) ?_) | (refine Run.mk ?_)))
      · rename_i h4
        have h4 : byteAt (l.getD ((k : Int)).toNat Ty.str.dflt) m = 10 := h4
        have h5 := lineC_nl (l.getD ((k : Int)).toNat Ty.str.dflt) (by omega) (hmem.out h4)
        obtain ⟨q1, q2⟩ := hbad.out (by rw [h5]; decide)
        refine Ret.mk ?_
        show AV.v true [.d (.int .i64) 5, .d (.int .i64) (k : Int)] = AV.v true [.d (.int .i64) (vC l), .d (.int .i64) (vI l)]
        rw [q1, q2, h5]
      · rename_i h4
        have h4 : ¬ byteAt (l.getD ((k : Int)).toNat Ty.str.dflt) m = 10 := h4
        (refine Back.by (m + 1) ?_ ?_ ?_; focus (refine Wk.keep ?_ ?_ <;> repeat' (first | exact True.intro | refine And.intro rfl ?_ | refine And.intro (congrArg (fun z : Int => AV.v false [Lf.d (.int .i64) z]) (by first | omega | (simp only [Int.natCast_add, List.length_cons, List.length_append, List.length_nil]; omega))) ?_ | refine And.intro ?_ ?_)))
        · refine ⟨hmt, fun q hq => ?_⟩
          rcases Nat.lt_or_ge q m with r | r
          · exact hn.out q r
          · obtain rfl : q = m := by omega
            exact h4
        · show (l.getD ((k : Int)).toNat Ty.str.dflt).size - (m + 1) < (l.getD ((k : Int)).toNat Ty.str.dflt).size - m; omega
    · have hm2 : m = (l.getD ((k : Int)).toNat Ty.str.dflt).size := by omega
      subst hm2
      have hok := (lineC_ok (l.getD ((k : Int)).toNat Ty.str.dflt)).2 ⟨by omega, byte_not hn⟩
      replace hn := Lib.hid hn
      (repeat' (first | (with_reducible refine Cend.go ?_) | (with_reducible refine Step.mk True.intro ?_) | (with_reducible refine Step.mk ?_ ?_; focus (((try simp only [true_and, and_true, and_self, kmin, kmax, decide_eq_true_eq, decide_eq_false_iff_not, castD_self, castL_self, List.length_cons, List.length_nil, List.length_append, Int.natCast_add] at *) <;> omega))) | (with_reducible refine Step.mk ?_ ?_) | (with_reducible refine Way.t1 ?_) | (with_reducible refine Way.f1 ?_) | ((with_reducible refine Way.dec (fun _ => ?_) (fun _ => ?_)) <;> try (exfalso; omega)) | (with_reducible refine Way.nt ?_) | (with_reducible refine Way.mk (fun _ => ?_) (fun _ => ?_)) | (with_reducible refine Drawn.mk (by kernel_rfl) ?_) | (refine Run.mk ?_)))
      (refine Back.by (k + 1) ?_ ?_ ?_; focus (refine Wk.keep ?_ ?_ <;> repeat' (first | exact True.intro | refine And.intro rfl ?_ | refine And.intro (congrArg (fun z : Int => AV.v false [Lf.d (.int .i64) z]) (by first | omega | (simp only [Int.natCast_add, List.length_cons, List.length_append, List.length_nil]; omega))) ?_ | refine And.intro ?_ ?_)))
      · exact hgood.out hok
      · show l.length - (k + 1) < l.length - k; omega
  · have hall := v_all h1 (by omega)
    (repeat' (first | (with_reducible refine Cend.go ?_) | (with_reducible refine Step.mk True.intro ?_) | (with_reducible refine Step.mk ?_ ?_; focus (((try simp only [true_and, and_true, and_self, kmin, kmax, decide_eq_true_eq, decide_eq_false_iff_not, castD_self, castL_self, List.length_cons, List.length_nil, List.length_append, Int.natCast_add] at *) <;> omega))) | (with_reducible refine Step.mk ?_ ?_) | (with_reducible refine Way.t1 ?_) | (with_reducible refine Way.f1 ?_) | ((with_reducible refine Way.dec (fun _ => ?_) (fun _ => ?_)) <;> try (exfalso; omega)) | (with_reducible refine Way.nt ?_) | (with_reducible refine Way.mk (fun _ => ?_) (fun _ => ?_)) | (with_reducible refine Drawn.mk (by kernel_rfl) ?_) | (refine Run.mk ?_)))
    refine Ret.mk ?_
    show AV.v true [.d (.int .i64) 0, .d (.int .i64) 0] = AV.v true [.d (.int .i64) (vC l), .d (.int .i64) (vI l)]
    rw [hall.1, hall.2]
def sp_LCode : SpecF := pureSp true [.slice .str] (fun _ => True) (fun (a', _) => .v false [.d (.int .i64) (vC a')])
theorem LCode_sp : SpFact 31 sp_LCode := by
  refine ⟨⟨Tryd.f31, rfl, rfl, rfl, pureSp_ok (env_fine (sp := [(49, sp_LFault)]) (eq := []) ⟨LFault_sp, True.intro⟩ True.intro) rfl (fun ⟨_, _⟩ _ => rfl) ?_⟩, pureSp_loc _ _ _ _⟩
  rintro ⟨l, u⟩ - -
  change List ByteArray at l
  (refine fnM_of rfl rfl rfl rfl ?_; dsimp only [params, argAV, Ty.leaves, Ty.isSt])
  (repeat' (first | (with_reducible refine Cend.go ?_) | (with_reducible refine Step.mk True.intro ?_) | (with_reducible refine Step.mk ?_ ?_; focus (((try simp only [true_and, and_true, and_self, kmin, kmax, decide_eq_true_eq, decide_eq_false_iff_not, castD_self, castL_self, List.length_cons, List.length_nil, List.length_append, Int.natCast_add] at *) <;> omega))) | (with_reducible refine Step.mk ?_ ?_) | (with_reducible refine Way.t1 ?_) | (with_reducible refine Way.f1 ?_) | ((with_reducible refine Way.dec (fun _ => ?_) (fun _ => ?_)) <;> try (exfalso; omega)) | (with_reducible refine Way.nt ?_) | (with_reducible refine Way.mk (fun _ => ?_) (fun _ => ?_)) | (with_reducible refine Drawn.mk (by kernel_rfl) ?_) | (refine Run.mk ?_)))
  exact Ret.mk rfl
end Go.Proofs.YtppmhjaooiameaaDoor
