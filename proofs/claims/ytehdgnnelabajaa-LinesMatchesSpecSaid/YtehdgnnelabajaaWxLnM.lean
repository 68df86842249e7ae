/- The walks of the reference's Pieces, Split, Join; the law LinesMatchesSpec. -/
import Derived.Test.YtehdgnnelabajaaLnRef
import Derived.Test.YtehdgnnelabajaaWxPair
import Derived.Test.YtehdgnnelabajaaWxRefLin
import Derived.SizedLaws
namespace Go.Proofs.Ytehdgnnelabajaa
open Go.RowKit
set_option maxRecDepth 10000
set_option linter.unusedSimpArgs false

theorem byte_of {s : ByteArray} {k : Nat} (h : k < s.size) : byteAt s k = ((s.data.toList[k]'h).toNat : Int) := by
  have hl : k < s.data.toList.length := h
  unfold byteAt
  rw [List.getD_eq_getElem?_getD, List.getElem?_eq_getElem hl]
  rfl
def sp_RPieces : SpecF := pureSp false [.str] (fun (s', _) => s'.size ≤ 4096) (fun (s', _) => .v false [.d (.slice .str) (rpL s')])
theorem RPieces_sp : SpFact 34 sp_RPieces := by
  refine ⟨⟨Try.f34, rfl, rfl, rfl, pureSp_okF (env_fine (sp := []) (eq := []) True.intro True.intro) rfl (fun ⟨_, _⟩ _ => rfl) ?_⟩, pureSp_loc _ _ _ _⟩
  rintro ⟨s, u⟩ - hs
  have hs : ByteArray.size s ≤ 4096 := hs
  (refine fnM_of rfl rfl rfl rfl ?_; dsimp only [params, argAV, Ty.leaves, Ty.isSt])
  (repeat' (first | (with_reducible refine Step.mk True.intro ?_) | (with_reducible refine Step.mk ?_ ?_; focus (((try simp only [true_and, and_true, and_self, kmin, kmax, decide_eq_true_eq, decide_eq_false_iff_not, castD_self, castL_self, List.length_cons, List.length_nil, List.length_append, Int.natCast_add] at *) <;> omega))) | (with_reducible refine Step.mk ?_ ?_) | (with_reducible refine Way.t1 ?_) | (with_reducible refine Way.f1 ?_) | ((with_reducible refine Way.dec (fun _ => ?_) (fun _ => ?_)) <;> try (exfalso; omega)) | (with_reducible refine Way.nt ?_) | (with_reducible refine Way.mk (fun _ => ?_) (fun _ => ?_)) | (with_reducible refine Drawn.mk (by kernel_rfl) ?_) | (refine Run.mk ?_)))
  refine loop_by (X := Nat × Nat × List ByteArray) (fun x => [.put 0 (.v false [.d .str s]), .put 3 (.v false [.o 91]), .put 4 (.v false [.d (.int .i64) (x.2.1 : Int)]), .put 5 (.v false [.d (.int .i64) (x.1 : Int)])]) (fun x => [.put 91 (.row 9 .str x.2.2)])
    (fun x => x.1 ≤ s.size ∧ x.2.1 ≤ x.1 ∧ x.2.2.length ≤ x.1 ∧ s.data.toList.take x.2.1 = joinL x.2.2 ∧ (∀ q ∈ x.2.2, (10 : UInt8) ∉ q.data.toList) ∧ (10 : UInt8) ∉ (s.data.toList.take x.1).drop x.2.1) (fun x => s.size - x.1) (0, 0, []) ⟨Nat.zero_le _, Nat.le_refl _, Nat.le_refl _, rfl, fun q hq => (by cases hq), (by simp)⟩ ?_ ?_
  · refine (Wk.nilrow 3 91 9 .str rfl).trans ?_
    (refine Wk.keep ?_ ?_ <;> repeat' (first | exact True.intro | refine And.intro rfl ?_ | refine And.intro (congrArg (fun z : Int => AV.v false [Lf.d (.int .i64) z]) (by first | omega | (simp only [Int.natCast_add, List.length_cons, List.length_append, List.length_nil]; omega))) ?_ | refine And.intro ?_ ?_))
  rintro ⟨i, f, out⟩ ⟨h1, h2, h0, h3, h4, h5⟩
  dsimp only at h1 h2 h0 h3 h4 h5 ⊢
  have hsl : s.data.toList.length = ByteArray.size s := rfl
  by_cases hlt : i < ByteArray.size s
  · have hin := byteAt_in s i
    have hbo := byte_of hlt
    have htk : s.data.toList.take (i + 1) = s.data.toList.take i ++ [s.data.toList[i]'hlt] := by
      rw [List.take_add_one, List.getElem?_eq_getElem hlt, Option.toList_some]
    have hdr : (s.data.toList.take (i + 1)).drop f = (s.data.toList.take i).drop f ++ [s.data.toList[i]'hlt] := by
      rw [htk, List.drop_append_of_le_length (by rw [List.length_take]; omega)]
    have hyes : byteAt s i = 10 → s.data.toList[i]'hlt = 10 := fun e => by
      apply UInt8.toNat_inj.1
      show _ = 10
      omega
    have hno : byteAt s i ≠ 10 → s.data.toList[i]'hlt ≠ 10 := fun e q => e (by rw [hbo, q]; rfl)
    have hx : s.extract f i = toB ((s.data.toList.take i).drop f) := ba_ext (by rw [extract_list, toB_data])
    have hjo : s.data.toList[i]'hlt = 10 → s.data.toList.take (i + 1) = joinL (out ++ [s.extract f i]) := fun e => by
      rw [joinL_append, ← h3, joinL_cons, joinL_nil, hx, toB_data, htk, e]
      rw [← List.append_assoc]
      congr 1
      have : s.data.toList.take f = (s.data.toList.take i).take f := by rw [List.take_take, Nat.min_eq_left h2]
      rw [this, List.take_append_drop]
    have hnn : (10 : UInt8) ∉ (s.extract f i).data.toList := by rw [hx, toB_data]; exact h5
    clear hx htk hsl hbo
    replace h3 := Lib.hid h3
    replace h4 := Lib.hid h4
    replace h5 := Lib.hid h5
    replace hdr := Lib.hid hdr
    replace hyes := Lib.hid hyes
    replace hno := Lib.hid hno
    replace hjo := Lib.hid hjo
    replace hnn := Lib.hid hnn
    (repeat' (first | (with_reducible refine Step.mk True.intro ?_) | (with_reducible refine Step.mk ?_ ?_; focus (((try simp only [true_and, and_true, and_self, kmin, kmax, decide_eq_true_eq, decide_eq_false_iff_not, castD_self, castL_self, List.length_cons, List.length_nil, List.length_append, Int.natCast_add] at *) <;> omega))) | (with_reducible refine Step.mk ?_ ?_) | (with_reducible refine Way.t1 ?_) | (with_reducible refine Way.f1 ?_) | ((with_reducible refine Way.dec (fun _ => ?_) (fun _ => ?_)) <;> try (exfalso; omega)) | (with_reducible refine Way.nt ?_) | (with_reducible refine Way.mk (fun _ => ?_) (fun _ => ?_)) | (with_reducible refine Drawn.mk (by kernel_rfl) ?_) | (refine Run.mk ?_)))
    · rename_i q
      have e := hyes.out q
      (refine Back.by ((i + 1, i + 1, out ++ [s.extract f i])) ?_ ?_ ?_; focus (refine Wk.ren [(91, 22)] rfl ?_ ?_ <;> repeat' (first | exact True.intro | refine And.intro rfl ?_ | refine And.intro (congrArg (fun z : Int => AV.v false [Lf.d (.int .i64) z]) (by first | omega | (simp only [Int.natCast_add, List.length_cons, List.length_append, List.length_nil]; omega))) ?_ | refine And.intro ?_ ?_)))
      · refine ⟨hlt, Nat.le_refl _, by simp only [List.length_append, List.length_cons, List.length_nil]; omega, hjo.out e, fun q hq => ?_, by simp⟩
        rcases List.mem_append.1 hq with hq | hq
        · exact h4.out q hq
        · rw [List.mem_singleton.1 hq]; exact hnn.out
      · show s.size - (i + 1) < s.size - i; omega
    · rename_i q
      have e := hno.out q
      (refine Back.by ((i + 1, f, out)) ?_ ?_ ?_; focus (refine Wk.keep ?_ ?_ <;> repeat' (first | exact True.intro | refine And.intro rfl ?_ | refine And.intro (congrArg (fun z : Int => AV.v false [Lf.d (.int .i64) z]) (by first | omega | (simp only [Int.natCast_add, List.length_cons, List.length_append, List.length_nil]; omega))) ?_ | refine And.intro ?_ ?_)))
      · refine ⟨hlt, by dsimp only; omega, by dsimp only; omega, h3.out, h4.out, ?_⟩
        dsimp only
        rw [hdr.out]
        intro hm
        rcases List.mem_append.1 hm with hm | hm
        · exact h5.out hm
        · exact e (List.mem_singleton.1 hm).symm
      · show s.size - (i + 1) < s.size - i; omega
  · have hi : i = ByteArray.size s := by omega
    subst hi
    have e1 : s.data.toList = joinL out ++ s.data.toList.drop f := by rw [← h3, List.take_append_drop]
    have e2 : s.extract f (ByteArray.size s) = toB (s.data.toList.drop f) := ba_ext (by rw [extract_list, toB_data, List.take_of_length_le (Nat.le_of_eq hsl)])
    rw [List.take_of_length_le (Nat.le_of_eq hsl)] at h5
    have e3 : rpL s = out ++ [s.extract f (ByteArray.size s)] := by rw [e2]; exact rpL_end e1 h4 h5
    clear e1 e2 hsl
    replace h3 := Lib.hid h3
    replace h4 := Lib.hid h4
    replace h5 := Lib.hid h5
    replace e3 := Lib.hid e3
    (repeat' (first | (with_reducible refine Step.mk True.intro ?_) | (with_reducible refine Step.mk ?_ ?_; focus (((try simp only [true_and, and_true, and_self, kmin, kmax, decide_eq_true_eq, decide_eq_false_iff_not, castD_self, castL_self, List.length_cons, List.length_nil, List.length_append, Int.natCast_add] at *) <;> omega))) | (with_reducible refine Step.mk ?_ ?_) | (with_reducible refine Way.t1 ?_) | (with_reducible refine Way.f1 ?_) | ((with_reducible refine Way.dec (fun _ => ?_) (fun _ => ?_)) <;> try (exfalso; omega)) | (with_reducible refine Way.nt ?_) | (with_reducible refine Way.mk (fun _ => ?_) (fun _ => ?_)) | (with_reducible refine Drawn.mk (by kernel_rfl) ?_) | (refine Run.mk ?_)))
    refine Ret.mk ?_
    rw [e3.out]
    exact ⟨rfl, .frz rfl, True.intro⟩

theorem rpS : ∀ s : ByteArray, sL s = if sC s = 0 then pcs s else [] := fun _ => rfl
def sp_RSplit : SpecF := pureSp false [.str] (fun _ => True) (fun (s', _) => .tu [(false, [.d (.slice .str) (sL s')]), (true, [.d (.int .i64) (sC s'), .d (.int .i64) (sI s')])])
theorem RSplit_sp : SpFact 12 sp_RSplit := by
  refine ⟨⟨Try.f12, rfl, rfl, rfl, pureSp_okF (env_fine (sp := [(19, sp_At), (34, sp_RPieces), (16, sp_LFault)]) (eq := []) ⟨At_sp, RPieces_sp, LFault_sp, True.intro⟩ True.intro) rfl (fun ⟨_, _⟩ _ => rfl) ?_⟩, pureSp_loc _ _ _ _⟩
  rintro ⟨s, u⟩ ⟨hsz, -⟩ -
  have hsz : ByteArray.size s ≤ 9223372036854775807 := hsz
  by_cases hb : 4096 < ByteArray.size s
  · have q1 : sC s = 10 := if_pos hb
    have q2 : sI s = -1 := if_pos hb
    have q3 : sL s = [] := by unfold sL; rw [q1]; rfl
    dsimp only
    rw [q1, q2, q3]
    clear q1 q2 q3
    (refine fnM_of rfl rfl rfl rfl ?_; dsimp only [params, argAV, Ty.leaves, Ty.isSt])
    (repeat' (first | (with_reducible refine Step.mk True.intro ?_) | (with_reducible refine Step.mk ?_ ?_; focus (((try simp only [true_and, and_true, and_self, kmin, kmax, decide_eq_true_eq, decide_eq_false_iff_not, castD_self, castL_self, List.length_cons, List.length_nil, List.length_append, Int.natCast_add] at *) <;> omega))) | (with_reducible refine Step.mk ?_ ?_) | (with_reducible refine Way.t1 ?_) | (with_reducible refine Way.f1 ?_) | ((with_reducible refine Way.dec (fun _ => ?_) (fun _ => ?_)) <;> try (exfalso; omega)) | (with_reducible refine Way.nt ?_) | (with_reducible refine Way.mk (fun _ => ?_) (fun _ => ?_)) | (with_reducible refine Drawn.mk (by kernel_rfl) ?_) | (refine Run.mk ?_)))
    exact Ret.mk ⟨⟨rfl, .frz rfl, True.intro⟩, ⟨rfl, .same, .same, True.intro⟩, True.intro⟩
  · have q1 : sC s = vC (pcs s) := if_neg hb
    have q2 : sI s = vI (pcs s) := if_neg hb
    have hp := rpL_pos s
    have hl := @rpL_len s
    by_cases hn : nlLast s.data.toList
    · obtain ⟨e1, e2⟩ := rpL_yes hn
      have e1 : (rpL s).getD ((((rpL s).length : Nat) : Int) - 1).toNat Ty.str.dflt = Ty.str.dflt := by
        have : ((((rpL s).length : Nat) : Int) - 1).toNat = (rpL s).length - 1 := by omega
        rw [this]; exact e1
      have e2 : (rpL s).take ((((rpL s).length : Nat) : Int) - 1).toNat = pcs s := by
        have : ((((rpL s).length : Nat) : Int) - 1).toNat = (rpL s).length - 1 := by omega
        rw [this]; exact e2
      replace e1 := Lib.hid e1
      replace e2 := Lib.hid e2
      replace hn := Lib.hid hn
      replace q1 := Lib.hid q1
      replace q2 := Lib.hid q2
      (refine fnM_of rfl rfl rfl rfl ?_; dsimp only [params, argAV, Ty.leaves, Ty.isSt])
      (repeat' (first | (with_reducible refine Step.mk True.intro ?_) | (with_reducible refine Step.mk ?_ ?_; focus (((try simp only [true_and, and_true, and_self, kmin, kmax, decide_eq_true_eq, decide_eq_false_iff_not, castD_self, castL_self, List.length_cons, List.length_nil, List.length_append, Int.natCast_add] at *) <;> omega))) | (with_reducible refine Step.mk ?_ ?_) | (with_reducible refine Way.t1 ?_) | (with_reducible refine Way.f1 ?_) | ((with_reducible refine Way.dec (fun _ => ?_) (fun _ => ?_)) <;> try (exfalso; omega)) | (with_reducible refine Way.nt ?_) | (with_reducible refine Way.mk (fun _ => ?_) (fun _ => ?_)) | (with_reducible refine Drawn.mk (by kernel_rfl) ?_) | (refine Run.mk ?_)))
      · rename_i a b
        have b : vC (List.drop (Int.toNat 0) (List.take ((((rpL s).length : Nat) : Int) - 1).toNat (rpL s))) = 0 := b
        have e3 : List.drop (Int.toNat 0) (List.take ((((rpL s).length : Nat) : Int) - 1).toNat (rpL s)) = pcs s := e2.out
        rw [e3] at b
        have z1 : sC s = 0 := q1.out.trans b
        have z2 : sI s = 0 := q2.trans (vI_good _ ((vC_good _).1 b))
        exact Ret.mk ⟨⟨rfl, .inl (congrArg (fun z => Lf.d (.slice .str) z) (e3.trans (sL_of z1).symm)), True.intro⟩, ⟨rfl, .inl (congrArg (fun z : Int => Lf.d (.int .i64) z) z1.symm), .inl (congrArg (fun z : Int => Lf.d (.int .i64) z) z2.symm), True.intro⟩, True.intro⟩
      · rename_i a b
        have b : ¬ vC (List.drop (Int.toNat 0) (List.take ((((rpL s).length : Nat) : Int) - 1).toNat (rpL s))) = 0 := b
        have e3 : List.drop (Int.toNat 0) (List.take ((((rpL s).length : Nat) : Int) - 1).toNat (rpL s)) = pcs s := e2.out
        have z0 : sL s = [] := if_neg (by rw [q1.out, ← e3]; exact b)
        refine Ret.mk ?_
        rw [z0]
        exact ⟨⟨rfl, .frz rfl, True.intro⟩, ⟨rfl, .inl (congrArg (fun z : Int => Lf.d (.int .i64) z) ((congrArg vC e3).trans q1.out.symm)), .inl (congrArg (fun z : Int => Lf.d (.int .i64) z) ((congrArg vI e3).trans q2.symm)), True.intro⟩, True.intro⟩
      · rename_i a b
        exact absurd e1.out a
      · rename_i a b
        exact absurd e1.out a
    · obtain ⟨e1, e2⟩ := rpL_no hn
      have e1 : (rpL s).getD ((((rpL s).length : Nat) : Int) - 1).toNat Ty.str.dflt ≠ Ty.str.dflt := by
        have : ((((rpL s).length : Nat) : Int) - 1).toNat = (rpL s).length - 1 := by omega
        rw [this]; exact e1
      replace e1 := Lib.hid e1
      replace e2 := Lib.hid e2
      replace hn := Lib.hid hn
      replace q1 := Lib.hid q1
      (refine fnM_of rfl rfl rfl rfl ?_; dsimp only [params, argAV, Ty.leaves, Ty.isSt])
      (repeat' (first | (with_reducible refine Step.mk True.intro ?_) | (with_reducible refine Step.mk ?_ ?_; focus (((try simp only [true_and, and_true, and_self, kmin, kmax, decide_eq_true_eq, decide_eq_false_iff_not, castD_self, castL_self, List.length_cons, List.length_nil, List.length_append, Int.natCast_add] at *) <;> omega))) | (with_reducible refine Step.mk ?_ ?_) | (with_reducible refine Way.t1 ?_) | (with_reducible refine Way.f1 ?_) | ((with_reducible refine Way.dec (fun _ => ?_) (fun _ => ?_)) <;> try (exfalso; omega)) | (with_reducible refine Way.nt ?_) | (with_reducible refine Way.mk (fun _ => ?_) (fun _ => ?_)) | (with_reducible refine Drawn.mk (by kernel_rfl) ?_) | (refine Run.mk ?_)))
      · rename_i a b
        exact absurd a e1.out
      · rename_i a b
        exact absurd a e1.out
      · rename_i a b
        have b : vC (rpL s) = 0 := b
        have e3 := e2.out
        rw [e3] at b
        have z1 : sC s = 0 := q1.out.trans b
        have z2 : sI s = 0 := q2.trans (vI_good _ ((vC_good _).1 b))
        exact Ret.mk ⟨⟨rfl, .inl (congrArg (fun z => Lf.d (.slice .str) z) (e3.trans (sL_of z1).symm)), True.intro⟩, ⟨rfl, .inl (congrArg (fun z : Int => Lf.d (.int .i64) z) z1.symm), .inl (congrArg (fun z : Int => Lf.d (.int .i64) z) z2.symm), True.intro⟩, True.intro⟩
      · rename_i a b
        have b : ¬ vC (rpL s) = 0 := b
        have e3 := e2.out
        have z0 : sL s = [] := if_neg (by rw [q1.out, ← e3]; exact b)
        refine Ret.mk ?_
        rw [z0]
        exact ⟨⟨rfl, .frz rfl, True.intro⟩, ⟨rfl, .inl (congrArg (fun z : Int => Lf.d (.int .i64) z) ((congrArg vC e3).trans q1.out.symm)), .inl (congrArg (fun z : Int => Lf.d (.int .i64) z) ((congrArg vI e3).trans q2.symm)), True.intro⟩, True.intro⟩

def sp_RJoin : SpecF := pureSp true [.slice .str] (fun _ => True) (fun (a', _) => .tu [(false, [.d .str (jS a')]), (true, [.d (.int .i64) (jC a'), .d (.int .i64) (jI a')])])
theorem RJoin_sp : SpFact 14 sp_RJoin := by
  refine ⟨⟨Try.f14, rfl, rfl, rfl, pureSp_ok (env_fine (sp := [(19, sp_At), (16, sp_LFault)]) (eq := []) ⟨At_sp, LFault_sp, True.intro⟩ True.intro) rfl (fun ⟨_, _⟩ _ => rfl) ?_⟩, pureSp_loc _ _ _ _⟩
  rintro ⟨l, u⟩ - -
  change List ByteArray at l
  by_cases hv : vC l = 0
  · obtain ⟨hn, hs⟩ := (vC_good l).1 hv
    have hj1 : jC l = if 4096 < (joinL l).length then 10 else 0 := if_pos hv
    have hj2 : jI l = if 4096 < (joinL l).length then -1 else 0 := if_pos hv
    have hbd := joinL_len fun s h => (hs s h).1
    have hle := joinL_take_le l
    have hvI := vI_good l ((vC_good l).1 hv)
    have hnx : ∀ k, k < l.length → toB (joinL (l.take (k + 1))) = toB (joinL (l.take k)) ++ l.getD ((k : Int)).toNat Ty.str.dflt ++ (⟨#[10]⟩ : ByteArray) := by
      intro k hk
      apply ba_ext
      rw [toB_data, joinL_take hk]
      simp [toB]
      rfl
    have hsz : ∀ k, ByteArray.size (toB (joinL (l.take k))) = (joinL (l.take k)).length := fun k => rfl
    have h80 : ∀ k, k < l.length → ByteArray.size (l.getD ((k : Int)).toNat Ty.str.dflt) ≤ 80 := fun k hk => by
      rw [Int.toNat_natCast, List.getD_eq_getElem?_getD, List.getElem?_eq_getElem hk]; exact (hs _ (List.getElem_mem hk)).1
    replace hs := Lib.hid hs
    replace hle := Lib.hid hle
    replace hnx := Lib.hid hnx
    replace hsz := Lib.hid hsz
    replace h80 := Lib.hid h80
    (refine fnM_of rfl rfl rfl rfl ?_; dsimp only [params, argAV, Ty.leaves, Ty.isSt])
    (repeat' (first | (with_reducible refine Step.mk True.intro ?_) | (with_reducible refine Step.mk ?_ ?_; focus (((try simp only [true_and, and_true, and_self, kmin, kmax, decide_eq_true_eq, decide_eq_false_iff_not, castD_self, castL_self, List.length_cons, List.length_nil, List.length_append, Int.natCast_add] at *) <;> omega))) | (with_reducible refine Step.mk ?_ ?_) | (with_reducible refine Way.t1 ?_) | (with_reducible refine Way.f1 ?_) | ((with_reducible refine Way.dec (fun _ => ?_) (fun _ => ?_)) <;> try (exfalso; omega)) | (with_reducible refine Way.nt ?_) | (with_reducible refine Way.mk (fun _ => ?_) (fun _ => ?_)) | (with_reducible refine Drawn.mk (by kernel_rfl) ?_) | (refine Run.mk ?_)))
    refine loop_by (X := Nat) (fun k => [.put 0 (.v false [.d (.slice .str) l]), .put 3 (.v false [.p 3 0]), .put 5 (.v false [.d .str (toB (joinL (l.take k)))]), .put 6 (.v false [.d (.int .i64) (k : Int)])]) (fun _ => [.put 3 (.box 24 [.d (.int .i64) 0, .d (.int .i64) 0])])
      (fun k => k ≤ l.length) (fun k => l.length - k) 0 (Nat.zero_le _) ?_ ?_
    · (refine Wk.keep ?_ ?_ <;> repeat' (first | exact True.intro | refine And.intro rfl ?_ | refine And.intro (congrArg (fun z : Int => AV.v false [Lf.d (.int .i64) z]) (by first | omega | (simp only [Int.natCast_add, List.length_cons, List.length_append, List.length_nil]; omega))) ?_ | refine And.intro ?_ ?_))
    intro k hk
    (try dsimp only)
    have z1 := hle.out k
    have z2 := hsz.out k
    by_cases hlt : k < l.length
    · have z3 := hnx.out k hlt
      have z4 := h80.out k hlt
      replace z3 := Lib.hid z3
      (repeat' (first | (with_reducible refine Step.mk True.intro ?_) | (with_reducible refine Step.mk ?_ ?_; focus (((try simp only [true_and, and_true, and_self, kmin, kmax, decide_eq_true_eq, decide_eq_false_iff_not, castD_self, castL_self, List.length_cons, List.length_nil, List.length_append, Int.natCast_add] at *) <;> omega))) | (with_reducible refine Step.mk ?_ ?_) | (with_reducible refine Way.t1 ?_) | (with_reducible refine Way.f1 ?_) | ((with_reducible refine Way.dec (fun _ => ?_) (fun _ => ?_)) <;> try (exfalso; omega)) | (with_reducible refine Way.nt ?_) | (with_reducible refine Way.mk (fun _ => ?_) (fun _ => ?_)) | (with_reducible refine Drawn.mk (by kernel_rfl) ?_) | (refine Run.mk ?_)))
      · rw [ByteArray.size_append]
        show _ + 1 ≤ _
        omega
      · rw [← z3.out]
        (refine Back.by (k + 1) ?_ ?_ ?_; focus (refine Wk.keep ?_ ?_ <;> repeat' (first | exact True.intro | refine And.intro rfl ?_ | refine And.intro (congrArg (fun z : Int => AV.v false [Lf.d (.int .i64) z]) (by first | omega | (simp only [Int.natCast_add, List.length_cons, List.length_append, List.length_nil]; omega))) ?_ | refine And.intro ?_ ?_)))
        · exact hlt
        · show l.length - (k + 1) < l.length - k; omega
    · have e : l.take k = l := List.take_of_length_le (by omega)
      rw [e] at z2 ⊢
      clear e
      (repeat' (first | (with_reducible refine Step.mk True.intro ?_) | (with_reducible refine Step.mk ?_ ?_; focus (((try simp only [true_and, and_true, and_self, kmin, kmax, decide_eq_true_eq, decide_eq_false_iff_not, castD_self, castL_self, List.length_cons, List.length_nil, List.length_append, Int.natCast_add] at *) <;> omega))) | (with_reducible refine Step.mk ?_ ?_) | (with_reducible refine Way.t1 ?_) | (with_reducible refine Way.f1 ?_) | ((with_reducible refine Way.dec (fun _ => ?_) (fun _ => ?_)) <;> try (exfalso; omega)) | (with_reducible refine Way.nt ?_) | (with_reducible refine Way.mk (fun _ => ?_) (fun _ => ?_)) | (with_reducible refine Drawn.mk (by kernel_rfl) ?_) | (refine Run.mk ?_)))
      · rename_i q
        have q : 4096 < (joinL l).length := by omega
        have e1 : jC l = 10 := hj1.trans (if_pos q)
        have e2 : jI l = -1 := hj2.trans (if_pos q)
        have e3 : jS l = ⟨#[]⟩ := if_neg (by rw [e1]; decide)
        refine Ret.mk ?_
        rw [e1, e2, e3]
        rfl
      · rename_i q
        have q : ¬ 4096 < (joinL l).length := by omega
        have e1 : jC l = 0 := hj1.trans (if_neg q)
        have e2 : jI l = 0 := hj2.trans (if_neg q)
        have e3 : jS l = toB (joinL l) := if_pos e1
        refine Ret.mk ?_
        rw [e1, e2, e3]
        rfl
    · rename_i q
      exact absurd hv q
  · have hj1 : jC l = vC l := if_neg hv
    have hj2 : jI l = vI l := if_neg hv
    have hj3 : jS l = ByteArray.empty := if_neg (by rw [hj1]; exact hv)
    dsimp only
    rw [hj1, hj2, hj3]
    clear hj1 hj2 hj3
    (refine fnM_of rfl rfl rfl rfl ?_; dsimp only [params, argAV, Ty.leaves, Ty.isSt])
    (repeat' (first | (with_reducible refine Step.mk True.intro ?_) | (with_reducible refine Step.mk ?_ ?_; focus (((try simp only [true_and, and_true, and_self, kmin, kmax, decide_eq_true_eq, decide_eq_false_iff_not, castD_self, castL_self, List.length_cons, List.length_nil, List.length_append, Int.natCast_add] at *) <;> omega))) | (with_reducible refine Step.mk ?_ ?_) | (with_reducible refine Way.t1 ?_) | (with_reducible refine Way.f1 ?_) | ((with_reducible refine Way.dec (fun _ => ?_) (fun _ => ?_)) <;> try (exfalso; omega)) | (with_reducible refine Way.nt ?_) | (with_reducible refine Way.mk (fun _ => ?_) (fun _ => ?_)) | (with_reducible refine Drawn.mk (by kernel_rfl) ?_) | (refine Run.mk ?_)))
    all_goals first
      | (rename_i q; exact absurd q hv)
      | exact Ret.mk rfl

theorem law_LinesMatchesSpec : SpFact 3 (pureSp false [.slice .str, .str] (fun _ => True) (fun _ => .v false [.d .bool true])) := by
  refine ⟨⟨Try.f3, rfl, rfl, rfl, pureSp_ok (env1_fine (sp := [(11, sp_Split), (13, sp_Join), (15, sp_Validate), (17, sp_Strings), (18, sp_pair), (12, sp_RSplit), (14, sp_RJoin), (16, sp_LFault)]) (eq := [(24, true)]) (inl := []) (cl := [])
    ⟨Split_sp, Join_sp, Validate_sp, Strings_sp, pair_sp, RSplit_sp, RJoin_sp, LFault_sp, True.intro⟩ ⟨eq_fault, True.intro⟩ True.intro) rfl (fun _ _ => rfl) ?_⟩, pureSp_loc _ _ _ _⟩
  rintro ⟨l, t, u⟩ - -
  change List ByteArray at l
  (refine fnM_of rfl rfl rfl rfl ?_; dsimp only [params, argAV, Ty.leaves, Ty.isSt])
  (repeat' (first | (with_reducible refine Step.mk True.intro ?_) | (with_reducible refine Step.mk ?_ ?_; focus (((try simp only [true_and, and_true, and_self, kmin, kmax, decide_eq_true_eq, decide_eq_false_iff_not, castD_self, castL_self, List.length_cons, List.length_nil, List.length_append, Int.natCast_add] at *) <;> omega))) | (with_reducible refine Step.mk ?_ ?_) | (with_reducible refine Way.t1 ?_) | (with_reducible refine Way.f1 ?_) | ((with_reducible refine Way.dec (fun _ => ?_) (fun _ => ?_)) <;> try (exfalso; omega)) | (with_reducible refine Way.nt ?_) | (with_reducible refine Way.mk (fun _ => ?_) (fun _ => ?_)) | (with_reducible refine Drawn.mk (by kernel_rfl) ?_) | (refine Run.mk ?_)))
  (all_goals first | exact Ret.mk rfl | (rename_i q; exact absurd rfl q) | (rename_i q; simp [castD_self, castL_self] at q; done) | skip)
end Go.Proofs.Ytehdgnnelabajaa
