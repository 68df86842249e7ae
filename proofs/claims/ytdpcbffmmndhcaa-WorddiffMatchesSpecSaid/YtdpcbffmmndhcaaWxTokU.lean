/- The walks of worddiff.Tokens, of the laws' together and split. -/
import Derived.Test.YtdpcbffmmndhcaaWxToks
import Derived.Test.YtdpcbffmmndhcaaWxEq
import Derived.Test.YtdpcbffmmndhcaaHlPure
namespace Go.Proofs.Ytdpcbffmmndhcaa
open Go.RowKit
set_option maxRecDepth 10000
set_option linter.unusedSimpArgs false

def tokV (s : ByteArray) : List ByteArray := if vC [s] = 0 then toks s.data.toList else []
def sp_Tokens : SpecF := pureSp false [.str] (fun _ => True) (fun (a', _) => .tu [(false, [.d (.slice .str) (tokV a')]), (true, [.d (.int .i64) (vC [a']), .d (.int .i64) 0])])
theorem Tokens_sp : SpFact 13 sp_Tokens := by
  refine ⟨⟨Try.f13, rfl, rfl, rfl, pureSp_okF (env_fine (sp := [(36, sp_Second), (37, sp_tokens)]) (eq := [(24, true)]) ⟨Second_sp, tokens_sp, True.intro⟩ ⟨eq_fault, True.intro⟩) rfl (fun ⟨_, _⟩ _ => rfl) ?_⟩, pureSp_loc _ _ _ _⟩
  rintro ⟨s, u⟩ - -
  by_cases h0 : vC [s] = 0
  · have hs : s.size ≤ 80 := (((vC_good [s]).1 h0).2 s (by simp)).1
    have hf : (decide (vC [s] = 0) && decide ((if vC [s] = 0 then (0 : Int) else 0) = 0)) = true := by simp [h0]
    have e0 : tokV s = toks s.data.toList := if_pos h0
    dsimp only
    rw [e0, h0]
    clear h0
    replace hf := Lib.hid hf
    (refine fnM_of rfl rfl rfl rfl ?_; dsimp only [params, argAV, Ty.leaves, Ty.isSt])
    (repeat' (first | (with_reducible refine Step.mk True.intro ?_) | (with_reducible refine Step.mk ?_ ?_; focus (((try simp only [true_and, and_true, and_self, kmin, kmax, decide_eq_true_eq, decide_eq_false_iff_not, castD_self, castL_self, List.length_cons, List.length_nil, List.length_append, Int.natCast_add] at *) <;> omega))) | (with_reducible refine Step.mk ?_ ?_) | (with_reducible refine Way.t1 ?_) | (with_reducible refine Way.f1 ?_) | ((with_reducible refine Way.dec (fun _ => ?_) (fun _ => ?_)) <;> try (exfalso; omega)) | (with_reducible refine Way.nt ?_) | ((with_reducible refine Way.mk (fun _ => ?_) (fun _ => ?_)) <;> try (exfalso; rename_i hw; first | exact Bool.noConfusion ((Go.RowKit.Hid.out hf).symm.trans hw) | exact Bool.noConfusion (hw.symm.trans (Go.RowKit.Hid.out hf)))) | (with_reducible refine Drawn.mk (by kernel_rfl) ?_) | (refine Run.mk ?_)))
    refine Ret.mk ?_
    exact ⟨⟨rfl, .frz rfl, True.intro⟩, ⟨rfl, .same, .same, True.intro⟩, True.intro⟩
  · have hf : (decide (vC [s] = 0) && decide ((if vC [s] = 0 then (0 : Int) else 0) = 0)) = false := by simp [h0]
    have e0 : tokV s = [] := if_neg h0
    have e1 : (if vC [s] = 0 then (0 : Int) else 0) = 0 := by simp
    dsimp only
    rw [e0]
    clear h0
    replace hf := Lib.hid hf
    (refine fnM_of rfl rfl rfl rfl ?_; dsimp only [params, argAV, Ty.leaves, Ty.isSt])
    (repeat' (first | (with_reducible refine Step.mk True.intro ?_) | (with_reducible refine Step.mk ?_ ?_; focus (((try simp only [true_and, and_true, and_self, kmin, kmax, decide_eq_true_eq, decide_eq_false_iff_not, castD_self, castL_self, List.length_cons, List.length_nil, List.length_append, Int.natCast_add] at *) <;> omega))) | (with_reducible refine Step.mk ?_ ?_) | (with_reducible refine Way.t1 ?_) | (with_reducible refine Way.f1 ?_) | ((with_reducible refine Way.dec (fun _ => ?_) (fun _ => ?_)) <;> try (exfalso; omega)) | (with_reducible refine Way.nt ?_) | ((with_reducible refine Way.mk (fun _ => ?_) (fun _ => ?_)) <;> try (exfalso; rename_i hw; first | exact Bool.noConfusion ((Go.RowKit.Hid.out hf).symm.trans hw) | exact Bool.noConfusion (hw.symm.trans (Go.RowKit.Hid.out hf)))) | (with_reducible refine Drawn.mk (by kernel_rfl) ?_) | (refine Run.mk ?_)))
    refine Ret.mk ?_
    exact ⟨⟨rfl, .frz rfl, True.intro⟩, ⟨rfl, .same, .inl (congrArg (fun z => Lf.d (.int .i64) z) e1), True.intro⟩, True.intro⟩

def joinB (l : List ByteArray) : ByteArray := ⟨(bytesOf l).toArray⟩
theorem joinB_bytes (l : List ByteArray) : (joinB l).data.toList = bytesOf l := rfl
theorem bytesOf_take (l : List ByteArray) (k : Nat) (h : k < l.length) : bytesOf (l.take (k + 1)) = bytesOf (l.take k) ++ l[k].data.toList := by
  rw [List.take_add_one, List.getElem?_eq_getElem h]
  unfold bytesOf
  rw [List.flatMap_append]
  simp
theorem bytesOf_le (l : List ByteArray) (k : Nat) : (bytesOf (l.take k)).length ≤ (bytesOf l).length := by
  have e : bytesOf l = bytesOf (l.take k) ++ bytesOf (l.drop k) := by
    unfold bytesOf; rw [← List.flatMap_append, List.take_append_drop]
  rw [e, List.length_append]; omega
def sp_together : SpecF := pureSp true [.slice .str] (fun (a', _) => (bytesOf a').length ≤ 1000000) (fun (a', _) => .v false [.d .str (joinB a')])
theorem together_sp : SpFact 15 sp_together := by
  refine ⟨⟨Try.f15, rfl, rfl, rfl, pureSp_ok (env_fine (sp := []) (eq := []) True.intro True.intro) rfl (fun ⟨_, _⟩ _ => rfl) ?_⟩, pureSp_loc _ _ _ _⟩
  rintro ⟨l, u⟩ ⟨⟨hl, -⟩, -⟩ hb
  rw [maxLen_eq] at hl
  dsimp only at hl hb ⊢
  (refine fnM_of rfl rfl rfl rfl ?_; dsimp only [params, argAV, Ty.leaves, Ty.isSt])
  (repeat' (first | (with_reducible refine Step.mk True.intro ?_) | (with_reducible refine Step.mk ?_ ?_; focus (((try simp only [true_and, and_true, and_self, kmin, kmax, decide_eq_true_eq, decide_eq_false_iff_not, castD_self, castL_self, List.length_cons, List.length_nil, List.length_append, Int.natCast_add] at *) <;> omega))) | (with_reducible refine Step.mk ?_ ?_) | (with_reducible refine Way.t1 ?_) | (with_reducible refine Way.f1 ?_) | ((with_reducible refine Way.dec (fun _ => ?_) (fun _ => ?_)) <;> try (exfalso; omega)) | (with_reducible refine Way.nt ?_) | (with_reducible refine Way.mk (fun _ => ?_) (fun _ => ?_)) | (with_reducible refine Drawn.mk (by kernel_rfl) ?_) | (refine Run.mk ?_)))
  refine loop_by (X := Nat × ByteArray) (fun x => [.put 0 (.v false [.d (.slice .str) l]), .put 3 (.v false [.d .str x.2]), .put 4 (.v false [.d (.int .i64) (x.1 : Int)])]) (fun _ => []) (fun x => x.1 ≤ l.length ∧ x.2.data.toList = bytesOf (l.take x.1)) (fun x => l.length - x.1) (0, .empty) ⟨Nat.zero_le _, rfl⟩ ?_ ?_
  · (refine Wk.keep ?_ ?_ <;> repeat' (first | exact True.intro | refine And.intro rfl ?_ | refine And.intro (congrArg (fun z : Int => AV.v false [Lf.d (.int .i64) z]) (by first | omega | (simp only [Int.natCast_add, List.length_cons, List.length_append, List.length_nil]; omega))) ?_ | refine And.intro ?_ ?_))
  rintro ⟨i, o⟩ ⟨hi, ho⟩
  dsimp only at hi ho ⊢
  by_cases hlt : i < l.length
  · have gl := getD_at (a := l) Ty.str.dflt hlt
    have hn := bytesOf_take l i hlt
    have hle := bytesOf_le l (i + 1)
    rw [hn, List.length_append, ← ho, bytes_len, bytes_len, ← gl] at hle
    replace ho := Lib.hid ho
    replace hn := Lib.hid hn
    replace gl := Lib.hid gl
    (repeat' (first | (with_reducible refine Step.mk True.intro ?_) | (with_reducible refine Step.mk ?_ ?_; focus (((try simp only [true_and, and_true, and_self, kmin, kmax, decide_eq_true_eq, decide_eq_false_iff_not, castD_self, castL_self, List.length_cons, List.length_nil, List.length_append, Int.natCast_add] at *) <;> omega))) | (with_reducible refine Step.mk ?_ ?_) | (with_reducible refine Way.t1 ?_) | (with_reducible refine Way.f1 ?_) | ((with_reducible refine Way.dec (fun _ => ?_) (fun _ => ?_)) <;> try (exfalso; omega)) | (with_reducible refine Way.nt ?_) | (with_reducible refine Way.mk (fun _ => ?_) (fun _ => ?_)) | (with_reducible refine Drawn.mk (by kernel_rfl) ?_) | (refine Run.mk ?_)))
    (refine Back.by ((i + 1, o ++ l.getD ((i : Int)).toNat Ty.str.dflt)) ?_ ?_ ?_; focus (refine Wk.keep ?_ ?_ <;> repeat' (first | exact True.intro | refine And.intro rfl ?_ | refine And.intro (congrArg (fun z : Int => AV.v false [Lf.d (.int .i64) z]) (by first | omega | (simp only [Int.natCast_add, List.length_cons, List.length_append, List.length_nil]; omega))) ?_ | refine And.intro ?_ ?_)))
    · refine ⟨hlt, ?_⟩
      show (o ++ l.getD ((i : Int)).toNat Ty.str.dflt).data.toList = _
      rw [gl.out, hn.out, ← ho.out]; simp
    · show l.length - (i + 1) < l.length - i; omega
  · (repeat' (first | (with_reducible refine Step.mk True.intro ?_) | (with_reducible refine Step.mk ?_ ?_; focus (((try simp only [true_and, and_true, and_self, kmin, kmax, decide_eq_true_eq, decide_eq_false_iff_not, castD_self, castL_self, List.length_cons, List.length_nil, List.length_append, Int.natCast_add] at *) <;> omega))) | (with_reducible refine Step.mk ?_ ?_) | (with_reducible refine Way.t1 ?_) | (with_reducible refine Way.f1 ?_) | ((with_reducible refine Way.dec (fun _ => ?_) (fun _ => ?_)) <;> try (exfalso; omega)) | (with_reducible refine Way.nt ?_) | (with_reducible refine Way.mk (fun _ => ?_) (fun _ => ?_)) | (with_reducible refine Drawn.mk (by kernel_rfl) ?_) | (refine Run.mk ?_)))
    refine Ret.mk ?_
    have : o = joinB l := by
      have e : i = l.length := by omega
      rw [e, List.take_length] at ho
      cases o
      exact congrArg ByteArray.mk (Array.toList_inj.1 ho)
    rw [this]; rfl

theorem split_tok : tokV ⟨#[97, 49, 32, 43, 32, 98]⟩ = [⟨#[97, 49]⟩, ⟨#[32]⟩, ⟨#[43]⟩, ⟨#[32]⟩, ⟨#[98]⟩] := by decide
theorem split_vC : vC [⟨#[97, 49, 32, 43, 32, 98]⟩] = 0 := by decide
def sp_true : SpecF := pureSp false [] (fun _ => True) (fun _ => .v false [.d .bool true])
theorem split_sp : SpFact 14 sp_true := by
  refine ⟨⟨Try.f14, rfl, rfl, rfl, pureSp_ok (env_fine (sp := [(13, sp_Tokens), (18, sp_Strings)]) (eq := []) ⟨Tokens_sp, Strings_sp, True.intro⟩ True.intro) rfl (fun _ _ => rfl) ?_⟩, pureSp_loc _ _ _ _⟩
  rintro u - -
  (refine fnM_of rfl rfl rfl rfl ?_; dsimp only [params, argAV, Ty.leaves, Ty.isSt])
  (repeat' (first | (with_reducible refine Step.mk True.intro ?_) | (with_reducible refine Step.mk ?_ ?_; focus (((try simp only [true_and, and_true, and_self, kmin, kmax, decide_eq_true_eq, decide_eq_false_iff_not, castD_self, castL_self, List.length_cons, List.length_nil, List.length_append, Int.natCast_add] at *) <;> omega))) | (with_reducible refine Step.mk ?_ ?_) | (with_reducible refine Way.t1 ?_) | (with_reducible refine Way.f1 ?_) | ((with_reducible refine Way.dec (fun _ => ?_) (fun _ => ?_)) <;> try (exfalso; omega)) | (with_reducible refine Way.nt ?_) | (with_reducible refine Way.mk (fun _ => ?_) (fun _ => ?_)) | (with_reducible refine Drawn.mk (by kernel_rfl) ?_) | (refine Run.mk ?_)))
  · refine Ret.mk ?_
    show AV.v false [Lf.d .bool (decide (tokV ⟨#[97, 49, 32, 43, 32, 98]⟩ = [⟨#[97, 49]⟩, ⟨#[32]⟩, ⟨#[43]⟩, ⟨#[32]⟩, ⟨#[98]⟩]))] = AV.v false [Lf.d .bool true]
    rw [decide_eq_true split_tok]
  · rename_i h
    exact absurd split_vC h
end Go.Proofs.Ytdpcbffmmndhcaa
