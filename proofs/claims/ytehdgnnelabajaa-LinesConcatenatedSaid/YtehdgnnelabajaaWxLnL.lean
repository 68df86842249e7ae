/- The laws of lines: Joined, Concatenated. -/
import Derived.Test.YtehdgnnelabajaaWxPair
import Derived.Test.YtehdgnnelabajaaWxRefLin
import Derived.SizedLaws
namespace Go.Proofs.Ytehdgnnelabajaa
open Go.RowKit
set_option maxRecDepth 10000
set_option linter.unusedSimpArgs false

def sp_lawL2 : SpecF := pureSp false [.str] (fun (t', _) => t'.data.toList.length ≤ reachBytes) (fun _ => .v false [.d .bool true])
theorem law_LinesJoined : SpFact 5 sp_lawL2 := by
  refine ⟨⟨Try.f5, rfl, rfl, rfl, pureSp_ok (env1_fine (sp := [(11, sp_Split), (13, sp_Join), (18, sp_pair), (19, sp_At)]) (eq := [(24, true)]) (inl := []) (cl := [])
    ⟨Split_sp, Join_sp, pair_sp, At_sp, True.intro⟩ ⟨eq_fault, True.intro⟩ True.intro) rfl (fun _ _ => rfl) ?_⟩, pureSp_loc _ _ _ _⟩
  rintro ⟨t, u⟩ - ht
  change t.data.toList.length ≤ reachBytes at ht
  have ht : ByteArray.size t ≤ 140737488351232 := ht
  by_cases hc : sC t = 0
  · obtain ⟨e1, e2⟩ := join_split hc
    have hsz := (sC_zero hc).2
    have hsz : ByteArray.size t ≤ 4096 := hsz
    have fin : ∀ b : List UInt8, joinL (sL t) = b → (b.length ≤ 4096 → jC (sL t) = 0 ∧ jI (sL t) = 0 ∧ jS (sL t) = toB b) ∧ (4096 < b.length → jC (sL t) = 10 ∧ jI (sL t) = -1) := by
      intro b hb
      constructor
      · intro h
        have q : jC (sL t) = 0 := by unfold jC; rw [if_pos e2, if_neg (by rw [hb]; omega)]
        exact ⟨q, by unfold jI; rw [if_pos e2, if_neg (by rw [hb]; omega)], by rw [jS_of q, hb]⟩
      · intro h
        exact ⟨by unfold jC; rw [if_pos e2, if_pos (by rw [hb]; omega)], by unfold jI; rw [if_pos e2, if_pos (by rw [hb]; omega)]⟩
    have hbl : t.data.toList.length = ByteArray.size t := rfl
    by_cases h0 : t = ⟨#[]⟩
    · subst h0
      obtain ⟨f1, f2, f3⟩ := (fin [] e1).1 (by decide)
      have f3 : jS (sL ⟨#[]⟩) = ⟨#[]⟩ := f3
      clear fin e1 e2 hbl
      (refine fnM_of rfl rfl rfl rfl ?_; dsimp only [params, argAV, Ty.leaves, Ty.isSt])
      (repeat' (first | (with_reducible refine Step.mk True.intro ?_) | (with_reducible refine Step.mk ?_ ?_; focus (((try simp only [true_and, and_true, and_self, kmin, kmax, decide_eq_true_eq, decide_eq_false_iff_not, castD_self, castL_self, List.length_cons, List.length_nil, List.length_append, Int.natCast_add] at *) <;> omega))) | (with_reducible refine Step.mk ?_ ?_) | (with_reducible refine Way.t1 ?_) | (with_reducible refine Way.f1 ?_) | ((with_reducible refine Way.dec (fun _ => ?_) (fun _ => ?_)) <;> try (exfalso; omega)) | (with_reducible refine Way.nt ?_) | (with_reducible refine Way.mk (fun _ => ?_) (fun _ => ?_)) | (with_reducible refine Drawn.mk (by kernel_rfl) ?_) | (refine Run.mk ?_)))
      all_goals first | exact Ret.mk rfl | (rename_i q; exact absurd f3 q) | (rename_i q; exact absurd f1 q) | exact absurd rfl ‹¬ (⟨#[]⟩ : ByteArray) = ⟨#[]⟩›
    · have hpos : 1 ≤ ByteArray.size t := by
        rcases Nat.eq_zero_or_pos (ByteArray.size t) with q | q
        · exact absurd (ba_ext (List.length_eq_zero_iff.1 q)) h0
        · exact q
      have hlast : t.data.toList.getLast? = some 10 ↔ byteAt t (((ByteArray.size t : Nat) : Int) - 1).toNat = 10 := by
        have q : ((((ByteArray.size t : Nat) : Int) - 1).toNat) = t.data.toList.length - 1 := by rw [hbl]; omega
        rw [q, List.getLast?_eq_getElem?]
        unfold byteAt
        have hlt : t.data.toList.length - 1 < t.data.toList.length := by rw [hbl]; omega
        rw [List.getD_eq_getElem?_getD, List.getElem?_eq_getElem hlt]
        simp only [Option.some.injEq, Option.getD_some]
        constructor
        · intro h; rw [h]; rfl
        · intro h
          apply UInt8.toNat_inj.1
          have h : ((t.data.toList[t.data.toList.length - 1]).toNat : Int) = 10 := h
          show _ = 10
          omega
      by_cases hl : byteAt t (((ByteArray.size t : Nat) : Int) - 1).toNat = 10
      · have q : nlEnd t.data.toList = t.data.toList := if_pos (.inr (hlast.2 hl))
        rw [q] at e1
        obtain ⟨f1, f2, f3⟩ := (fin _ e1).1 (by rw [hbl]; omega)
        have f3 : jS (sL t) = t := f3
        clear fin e1 e2 hbl hlast q
        replace h0 := Lib.hid h0
        (refine fnM_of rfl rfl rfl rfl ?_; dsimp only [params, argAV, Ty.leaves, Ty.isSt])
        (repeat' (first | (with_reducible refine Step.mk True.intro ?_) | (with_reducible refine Step.mk ?_ ?_; focus (((try simp only [true_and, and_true, and_self, kmin, kmax, decide_eq_true_eq, decide_eq_false_iff_not, castD_self, castL_self, List.length_cons, List.length_nil, List.length_append, Int.natCast_add] at *) <;> omega))) | (with_reducible refine Step.mk ?_ ?_) | (with_reducible refine Way.t1 ?_) | (with_reducible refine Way.f1 ?_) | ((with_reducible refine Way.dec (fun _ => ?_) (fun _ => ?_)) <;> try (exfalso; omega)) | (with_reducible refine Way.nt ?_) | (with_reducible refine Way.mk (fun _ => ?_) (fun _ => ?_)) | (with_reducible refine Drawn.mk (by kernel_rfl) ?_) | (refine Run.mk ?_)))
        all_goals first | exact Ret.mk rfl | (rename_i q; exact absurd f3 q) | (rename_i q; exact absurd f1 q) | exact absurd ‹t = (⟨#[]⟩ : ByteArray)› h0.out
      · have q : nlEnd t.data.toList = t.data.toList ++ [10] := if_neg (by
          rintro (q | q)
          · exact h0 (ba_ext q)
          · exact hl (hlast.1 q))
        rw [q] at e1
        have hs2 : ByteArray.size (t ++ (⟨#[10]⟩ : ByteArray)) = ByteArray.size t + 1 := by rw [ByteArray.size_append]; rfl
        have hs3 : ByteArray.size (⟨#[10]⟩ : ByteArray) = 1 := rfl
        by_cases hb : ByteArray.size t = 4096
        · obtain ⟨f1, f2⟩ := (fin _ e1).2 (by rw [List.length_append, hbl]; show 4096 < ByteArray.size t + 1; omega)
          have bb : (decide (jC (sL t) = 10) && decide (jI (sL t) = -1)) = true := by rw [f1, f2]; rfl
          replace bb := Lib.hid bb
          clear fin e1 e2 hbl hlast q
          replace h0 := Lib.hid h0
          (refine fnM_of rfl rfl rfl rfl ?_; dsimp only [params, argAV, Ty.leaves, Ty.isSt])
          (repeat' (first | (with_reducible refine Step.mk True.intro ?_) | (with_reducible refine Step.mk ?_ ?_; focus (((try simp only [true_and, and_true, and_self, kmin, kmax, decide_eq_true_eq, decide_eq_false_iff_not, castD_self, castL_self, List.length_cons, List.length_nil, List.length_append, Int.natCast_add] at *) <;> omega))) | (with_reducible refine Step.mk ?_ ?_) | (with_reducible refine Way.t1 ?_) | (with_reducible refine Way.f1 ?_) | ((with_reducible refine Way.dec (fun _ => ?_) (fun _ => ?_)) <;> try (exfalso; omega)) | (with_reducible refine Way.nt ?_) | (with_reducible refine Way.mk (fun _ => ?_) (fun _ => ?_)) | (with_reducible refine Drawn.mk (by kernel_rfl) ?_) | (refine Run.mk ?_)))
          all_goals first | exact Ret.mk rfl | (rename_i q; exact Bool.noConfusion (bb.out.symm.trans q)) | exact absurd ‹t = (⟨#[]⟩ : ByteArray)› h0.out
        · obtain ⟨f1, f2, f3⟩ := (fin _ e1).1 (by rw [List.length_append, hbl]; show ByteArray.size t + 1 ≤ 4096; omega)
          have f3 : jS (sL t) = t ++ (⟨#[10]⟩ : ByteArray) := by rw [f3]; apply ba_ext; simp [toB]
          clear fin e1 e2 hbl hlast q
          replace h0 := Lib.hid h0
          (refine fnM_of rfl rfl rfl rfl ?_; dsimp only [params, argAV, Ty.leaves, Ty.isSt])
          (repeat' (first | (with_reducible refine Step.mk True.intro ?_) | (with_reducible refine Step.mk ?_ ?_; focus (((try simp only [true_and, and_true, and_self, kmin, kmax, decide_eq_true_eq, decide_eq_false_iff_not, castD_self, castL_self, List.length_cons, List.length_nil, List.length_append, Int.natCast_add] at *) <;> omega))) | (with_reducible refine Step.mk ?_ ?_) | (with_reducible refine Way.t1 ?_) | (with_reducible refine Way.f1 ?_) | ((with_reducible refine Way.dec (fun _ => ?_) (fun _ => ?_)) <;> try (exfalso; omega)) | (with_reducible refine Way.nt ?_) | (with_reducible refine Way.mk (fun _ => ?_) (fun _ => ?_)) | (with_reducible refine Drawn.mk (by kernel_rfl) ?_) | (refine Run.mk ?_)))
          all_goals first | exact Ret.mk rfl | (rename_i q; exact absurd f3 q) | (rename_i q; exact absurd f1 q) | exact absurd ‹t = (⟨#[]⟩ : ByteArray)› h0.out
  · (refine fnM_of rfl rfl rfl rfl ?_; dsimp only [params, argAV, Ty.leaves, Ty.isSt])
    (repeat' (first | (with_reducible refine Step.mk True.intro ?_) | (with_reducible refine Step.mk ?_ ?_; focus (((try simp only [true_and, and_true, and_self, kmin, kmax, decide_eq_true_eq, decide_eq_false_iff_not, castD_self, castL_self, List.length_cons, List.length_nil, List.length_append, Int.natCast_add] at *) <;> omega))) | (with_reducible refine Step.mk ?_ ?_) | (with_reducible refine Way.t1 ?_) | (with_reducible refine Way.f1 ?_) | ((with_reducible refine Way.dec (fun _ => ?_) (fun _ => ?_)) <;> try (exfalso; omega)) | (with_reducible refine Way.nt ?_) | (with_reducible refine Way.mk (fun _ => ?_) (fun _ => ?_)) | (with_reducible refine Drawn.mk (by kernel_rfl) ?_) | (refine Run.mk ?_)))
    all_goals first | exact Ret.mk rfl | skip

def sp_lawL3 : SpecF := pureSp false [.slice .str, .str] (fun (_, t', _) => t'.data.toList.length ≤ reachBytes) (fun _ => .v false [.d .bool true])
theorem law_LinesConcatenated : SpFact 6 sp_lawL3 := by
  refine ⟨⟨Try.f6, rfl, rfl, rfl, pureSp_ok (env1_fine (sp := [(11, sp_Split), (13, sp_Join), (17, sp_Strings), (18, sp_pair)]) (eq := []) (inl := []) (cl := [])
    ⟨Split_sp, Join_sp, Strings_sp, pair_sp, True.intro⟩ True.intro True.intro) rfl (fun _ _ => rfl) ?_⟩, pureSp_loc _ _ _ _⟩
  rintro ⟨l, t, u⟩ - ht
  change List ByteArray at l
  change t.data.toList.length ≤ reachBytes at ht
  have ht : ByteArray.size t ≤ 140737488351232 := ht
  have hj : ByteArray.size (jS l) ≤ 4096 := by
    unfold jS
    split
    · rename_i h
      exact (jC_zero h).2
    · decide
  by_cases hc : jC l = 0 ∧ sC t = 0
  · obtain ⟨h1, h2⟩ := hc
    have h3 := (sC_zero h2).2
    have h3 : ByteArray.size t ≤ 4096 := h3
    have h4 := ((vC_good l).1 (jC_zero h1).1).1
    have h5 : (sL t).length ≤ 120 := by rw [sL_of h2]; exact ((vC_good _).1 (sC_zero h2).1).1
    have h6 : (l ++ sL t).length ≤ 240 := by rw [List.length_append]; omega
    have e1 : sC (jS l ++ t) = 0 → sL (jS l ++ t) = l ++ sL t := fun h => split_concat h1 h2 h (by rw [jS_of h1]; simp [toB])
    replace e1 := Lib.hid e1
    replace h1 := Lib.hid h1
    replace h2 := Lib.hid h2
    (refine fnM_of rfl rfl rfl rfl ?_; dsimp only [params, argAV, Ty.leaves, Ty.isSt])
    (repeat' (first | (with_reducible refine Step.mk True.intro ?_) | (with_reducible refine Step.mk ?_ ?_; focus (((try simp only [true_and, and_true, and_self, kmin, kmax, decide_eq_true_eq, decide_eq_false_iff_not, castD_self, castL_self, List.length_cons, List.length_nil, List.length_append, Int.natCast_add] at *) <;> omega))) | (with_reducible refine Step.mk ?_ ?_) | (with_reducible refine Way.t1 ?_) | (with_reducible refine Way.f1 ?_) | ((with_reducible refine Way.dec (fun _ => ?_) (fun _ => ?_)) <;> try (exfalso; omega)) | (with_reducible refine Way.nt ?_) | (with_reducible refine Way.mk (fun _ => ?_) (fun _ => ?_)) | (with_reducible refine Drawn.mk (by kernel_rfl) ?_) | (refine Run.mk ?_)))
    all_goals first | exact Ret.mk rfl | (rename_i a q; exact absurd (e1.out a) q)
  · replace hc := Lib.hid hc
    (refine fnM_of rfl rfl rfl rfl ?_; dsimp only [params, argAV, Ty.leaves, Ty.isSt])
    (repeat' (first | (with_reducible refine Step.mk True.intro ?_) | (with_reducible refine Step.mk ?_ ?_; focus (((try simp only [true_and, and_true, and_self, kmin, kmax, decide_eq_true_eq, decide_eq_false_iff_not, castD_self, castL_self, List.length_cons, List.length_nil, List.length_append, Int.natCast_add] at *) <;> omega))) | (with_reducible refine Step.mk ?_ ?_) | (with_reducible refine Way.t1 ?_) | (with_reducible refine Way.f1 ?_) | ((with_reducible refine Way.dec (fun _ => ?_) (fun _ => ?_)) <;> try (exfalso; omega)) | (with_reducible refine Way.nt ?_) | (with_reducible refine Way.mk (fun _ => ?_) (fun _ => ?_)) | (with_reducible refine Drawn.mk (by kernel_rfl) ?_) | (refine Run.mk ?_)))
    all_goals first | exact Ret.mk rfl | (rename_i a b c; exact (hc.out ⟨a, b⟩).elim) | (rename_i a b c d; exact (hc.out ⟨a, b⟩).elim)
end Go.Proofs.Ytehdgnnelabajaa
