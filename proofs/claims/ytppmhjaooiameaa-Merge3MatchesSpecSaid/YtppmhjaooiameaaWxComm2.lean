/- The walks of commute: shift, Commute, Rebase. -/
import Derived.Test.YtppmhjaooiameaaWxComm
namespace Go.Proofs.Ytppmhjaooiameaa
open Go.RowKit
set_option maxRecDepth 10000
set_option linter.unusedSimpArgs false

theorem dl_append (x : Int) : ∀ (l m : List Rg), dl (l ++ m) x = dl l x + dl m x
  | [], m => (Int.zero_add _).symm
  | r :: l, m => by
    show (if r.2.1 < x then r.2.2 else 0) + dl (l ++ m) x = (if r.2.1 < x then r.2.2 else 0) + dl l x + dl m x
    rw [dl_append x l m, Int.add_assoc]
def RgOk (r : Rg) : Prop := -120 ≤ r.2.2 ∧ r.2.2 ≤ 120
theorem dl_bd (x : Int) : ∀ (l : List Rg), (∀ r ∈ l, RgOk r) → -(120 * (l.length : Int)) ≤ dl l x ∧ dl l x ≤ 120 * (l.length : Int)
  | [], _ => by simp [dl]
  | r :: l, h => by
    obtain ⟨i1, i2⟩ := dl_bd x l fun q hq => h q (by simp [hq])
    obtain ⟨r1, r2⟩ := h r (by simp)
    show -(120 * ((r :: l).length : Int)) ≤ (if r.2.1 < x then r.2.2 else 0) + dl l x ∧ (if r.2.1 < x then r.2.2 else 0) + dl l x ≤ _
    rw [List.length_cons]
    split <;> omega
theorem getD_mid {α : Type} (A B : List α) (c d : α) : (A ++ c :: B).getD A.length d = c := by
  rw [List.getD_eq_getElem?_getD, List.getElem?_append_right (Nat.le_refl _), Nat.sub_self]; rfl
theorem set_mid {α : Type} (A B : List α) (c x : α) : (A ++ c :: B).set A.length x = A ++ x :: B := by
  rw [List.set_append_right _ _ (Nat.le_refl _), Nat.sub_self]; rfl
def sp_shift : SpecF := pureSp false [tPat, .slice tRg, .int .i64] (fun (p', l', s', _) => ((∀ h ∈ p', HkOk h) ∧ p'.length ≤ 130) ∧ ((∀ r ∈ l', RgOk r) ∧ l'.length ≤ 130) ∧ (s' = 1 ∨ s' = -1)) (fun (p', l', s', _) => .v true [.d (.slice tHk) (shiftP p' l' s')])
theorem shift_sp : SpFact 52 sp_shift := by
  refine ⟨⟨Try.f52, rfl, rfl, rfl, pureSp_okF (env1_fine (sp := [(30, sp_Clone)]) (eq := [])
    (inl := [(68, Try.f68)]) (cl := [])
    ⟨Clone_sp, True.intro⟩ True.intro ⟨⟨rfl, rfl, rfl⟩, True.intro⟩) rfl (fun ⟨_, _, _, _⟩ _ => rfl) ?_⟩, pureSp_loc _ _ _ _⟩
  rintro ⟨p, l, s, u⟩ - ⟨⟨hok, hlen⟩, ⟨hrg, hrl⟩, hs⟩
  change List Hk at p
  change List Rg at l
  change Int at s
  replace hlen : p.length ≤ 130 := hlen
  replace hok : ∀ h ∈ p, HkOk h := hok
  replace hrl : l.length ≤ 130 := hrl
  replace hrg : ∀ r ∈ l, RgOk r := hrg
  replace hs : s = 1 ∨ s = -1 := hs
  have hmul : ∀ a b x : Int, a ≤ x → x ≤ b → a = -b → a ≤ s * x ∧ s * x ≤ b := by
    intro a b x h1 h2 h3
    rcases hs with rfl | rfl <;> omega
  have hbd := dl_bd
  replace hbd := Lib.hid hbd
  replace hok := Lib.hid hok
  replace hrg := Lib.hid hrg
  replace hmul := Lib.hid hmul
  clear hs
  (refine fnM_of rfl rfl rfl rfl ?_; dsimp only [params, argAV, Ty.leaves, Ty.isSt])
  (repeat' (first | (with_reducible refine Cend.go ?_) | (with_reducible refine Step.mk True.intro ?_) | (with_reducible refine Step.mk ?_ ?_; focus (((try simp only [true_and, and_true, and_self, kmin, kmax, decide_eq_true_eq, decide_eq_false_iff_not, castD_self, castL_self, List.length_cons, List.length_nil, List.length_append, Int.natCast_add] at *) <;> omega))) | (with_reducible refine Step.mk ?_ ?_) | (with_reducible refine Way.t1 ?_) | (with_reducible refine Way.f1 ?_) | ((with_reducible refine Way.dec (fun _ => ?_) (fun _ => ?_)) <;> try (exfalso; omega)) | (with_reducible refine Way.nt ?_) | (with_reducible refine Way.mk (fun _ => ?_) (fun _ => ?_)) | (with_reducible refine Drawn.mk (by kernel_rfl) ?_) | (refine Run.mk ?_)))
  show LoopG (cH 4 _) _ _ _ _ _ _ _
  refine loop_by (X := Nat × List Hk) (fun x => [.put 2 (.v false [.p 14002 0]), .put 3 (.v false [.p 14003 0]), .put 7 (.v false [.d (.slice tHk) p]), .put 8 (.v false [.d (.int .i64) (p.length : Int)]), .put 9 (.v false [.d (.int .i64) (x.1 : Int)]), .mark, .put 1 (.v false [.d (.slice tRg) l]), .put 2 (.v false [.d (.int .i64) s]), .put 3 (.v false [.p 3 0]), .put 6 (.v false [.p 6 0])])
    (fun x => [.put 14003 (.box 44 [.o 91]), .put 91 (.row 85 tHk x.2), .put 14002 (.box 44 [.nl]), .put 3 (.box 44 [.d (.slice tHk) p]), .put 6 (.box 44 [.nl])]) (fun x => x.1 ≤ p.length ∧ x.2 = p.take x.1) (fun x => p.length - x.1) (0, []) ⟨Nat.zero_le _, rfl⟩ ?_ ?_
  · refine (Wk.nilbox 14003 0 91 85 tHk (T := 44) (cs := [.nl]) rfl rfl rfl).trans ?_
    (refine Wk.keep ?_ ?_ <;> repeat' (first | exact True.intro | refine And.intro rfl ?_ | refine And.intro (congrArg (fun z : Int => AV.v false [Lf.d (.int .i64) z]) (by first | omega | (simp only [Int.natCast_add, List.length_cons, List.length_append, List.length_nil]; omega))) ?_ | refine And.intro ?_ ?_))
  rintro ⟨k, L⟩ ⟨hk, hL⟩
  dsimp only at hk hL ⊢
  by_cases hlt : k < p.length
  · have hg := getD_at (a := p) tHk.dflt hlt
    have ho := hok.out p[k] (List.getElem_mem hlt)
    rw [← hg] at ho
    obtain ⟨o1, o2, o3, o4⟩ := ho
    have htk : p.take (k + 1) = p.take k ++ [p[k]] := by rw [List.take_add_one, List.getElem?_eq_getElem hlt]; rfl
    have hlk : L.length = k := by rw [hL, List.length_take]; omega
    rw [← hg, ← hL] at htk
    replace hg := Lib.hid hg
    replace htk := Lib.hid htk
    replace hL := Lib.hid hL
    (repeat' (first | (with_reducible refine Cend.go ?_) | (with_reducible refine Step.mk True.intro ?_) | (with_reducible refine Step.mk ?_ ?_; focus (((try simp only [true_and, and_true, and_self, kmin, kmax, decide_eq_true_eq, decide_eq_false_iff_not, castD_self, castL_self, List.length_cons, List.length_nil, List.length_append, Int.natCast_add] at *) <;> omega))) | (with_reducible refine Step.mk ?_ ?_) | (with_reducible refine Way.t1 ?_) | (with_reducible refine Way.f1 ?_) | ((with_reducible refine Way.dec (fun _ => ?_) (fun _ => ?_)) <;> try (exfalso; omega)) | (with_reducible refine Way.nt ?_) | (with_reducible refine Way.mk (fun _ => ?_) (fun _ => ?_)) | (with_reducible refine Drawn.mk (by kernel_rfl) ?_) | (refine Run.mk ?_)))
    (apply Back.by ((k + 1, _)); focus (refine Wk.ren [(91, 14025)] rfl ?_ ?_ <;> repeat' (first | exact True.intro | refine And.intro rfl ?_ | refine And.intro (congrArg (fun z : Int => AV.v false [Lf.d (.int .i64) z]) (by first | omega | (simp only [Int.natCast_add, List.length_cons, List.length_append, List.length_nil]; omega))) ?_ | refine And.intro ?_ ?_)))
    · exact ⟨hlt, htk.out.symm⟩
    · show p.length - (k + 1) < p.length - k; omega
  rw [List.take_of_length_le (by omega)] at hL
  subst hL
  (repeat' (first | (with_reducible refine Cend.go ?_) | (with_reducible refine Step.mk True.intro ?_) | (with_reducible refine Step.mk ?_ ?_; focus (((try simp only [true_and, and_true, and_self, kmin, kmax, decide_eq_true_eq, decide_eq_false_iff_not, castD_self, castL_self, List.length_cons, List.length_nil, List.length_append, Int.natCast_add] at *) <;> omega))) | (with_reducible refine Step.mk ?_ ?_) | (with_reducible refine Way.t1 ?_) | (with_reducible refine Way.f1 ?_) | ((with_reducible refine Way.dec (fun _ => ?_) (fun _ => ?_)) <;> try (exfalso; omega)) | (with_reducible refine Way.nt ?_) | (with_reducible refine Way.mk (fun _ => ?_) (fun _ => ?_)) | (with_reducible refine Drawn.mk (by kernel_rfl) ?_) | (refine Run.mk ?_)))
  refine loop_by (X := Nat × List Hk) (fun x => [.put 1 (.v false [.d (.slice tRg) l]), .put 2 (.v false [.d (.int .i64) s]), .put 7 (.v false [.p 7 0]), .put 6 (.v false [.p 6 0]), .put 15 (.v false [.d (.slice tHk) L]), .put 16 (.v false [.d (.int .i64) (L.length : Int)]), .put 17 (.v false [.d (.int .i64) (x.1 : Int)])])
    (fun x => [.put 7 (.box 44 [.o 91]), .put 91 (.row 85 tHk x.2), .put 6 (.box 44 [.nl])])
    (fun x => x.1 ≤ L.length ∧ x.2 = (L.take x.1).map (shiftH l s) ++ L.drop x.1) (fun x => L.length - x.1) (0, L) ⟨Nat.zero_le _, rfl⟩ ?_ ?_
  · (refine Wk.keep ?_ ?_ <;> repeat' (first | exact True.intro | refine And.intro rfl ?_ | refine And.intro (congrArg (fun z : Int => AV.v false [Lf.d (.int .i64) z]) (by first | omega | (simp only [Int.natCast_add, List.length_cons, List.length_append, List.length_nil]; omega))) ?_ | refine And.intro ?_ ?_))
  rintro ⟨k, M⟩ ⟨hk, hM⟩
  dsimp only at hk hM ⊢
  by_cases hlt : k < L.length
  · have hg := getD_at (a := L) tHk.dflt hlt
    have ho := hok.out L[k] (List.getElem_mem hlt)
    rw [List.drop_eq_getElem_cons hlt, ← hg] at hM
    rw [← hg] at ho
    obtain ⟨o1, o2, o3, o4⟩ := ho
    have hlM : M.length = L.length := by rw [hM, List.length_append, List.length_cons, List.length_map, List.length_take, List.length_drop]; omega
    have hAl : ((L.take k).map (shiftH l s)).length = k := by rw [List.length_map, List.length_take]; omega
    have htk : (L.take (k + 1)).map (shiftH l s) = (L.take k).map (shiftH l s) ++ [shiftH l s L[k]] := by rw [List.take_add_one, List.getElem?_eq_getElem hlt, Option.toList_some, List.map_append]; rfl
    rw [← hg] at htk
    generalize hA : (L.take k).map (shiftH l s) = A at hM hAl htk
    generalize hB : L.drop (k + 1) = B at hM
    replace hg := Lib.hid hg
    replace hM := Lib.hid hM
    replace htk := Lib.hid htk
    replace hA := Lib.hid hA
    replace hB := Lib.hid hB
    (repeat' (first | (with_reducible refine Cend.go ?_) | (with_reducible refine Step.mk True.intro ?_) | (with_reducible refine Step.mk ?_ ?_; focus (((try simp only [true_and, and_true, and_self, kmin, kmax, decide_eq_true_eq, decide_eq_false_iff_not, castD_self, castL_self, List.length_cons, List.length_nil, List.length_append, Int.natCast_add] at *) <;> omega))) | (with_reducible refine Step.mk ?_ ?_) | (with_reducible refine Way.t1 ?_) | (with_reducible refine Way.f1 ?_) | ((with_reducible refine Way.dec (fun _ => ?_) (fun _ => ?_)) <;> try (exfalso; omega)) | (with_reducible refine Way.nt ?_) | (with_reducible refine Way.mk (fun _ => ?_) (fun _ => ?_)) | (with_reducible refine Drawn.mk (by kernel_rfl) ?_) | (refine Run.mk ?_)))
    refine loop_by (X := Nat × List Hk) (fun x => [.put 1 (.v false [.d (.slice tRg) l]), .put 2 (.v false [.d (.int .i64) s]), .put 7 (.v false [.p 7 0]), .put 6 (.v false [.p 6 0]), .put 15 (.v false [.d (.slice tHk) L]), .put 16 (.v false [.d (.int .i64) (L.length : Int)]), .put 17 (.v false [.d (.int .i64) (k : Int)]),
        .put 8 (.v false [.d (.int .i64) (k : Int)]), .put 9 (.v false [.p 9 0]), .put 22 (.v false [.d (.slice tRg) l]), .put 23 (.v false [.d (.int .i64) (l.length : Int)]), .put 24 (.v false [.d (.int .i64) (x.1 : Int)])])
      (fun x => [.put 7 (.box 44 [.o 91]), .put 91 (.row 85 tHk x.2), .put 6 (.box 44 [.nl]), .put 9 (.box 85 (tHk.leaves (L.getD ((k : Int)).toNat tHk.dflt)))])
      (fun x => x.1 ≤ l.length ∧ x.2 = A ++ ((L.getD ((k : Int)).toNat tHk.dflt).1 + s * dl (l.take x.1) (L.getD ((k : Int)).toNat tHk.dflt).1, (L.getD ((k : Int)).toNat tHk.dflt).2) :: B) (fun x => l.length - x.1) (0, M) ⟨Nat.zero_le _, ?_⟩ ?_ ?_
    · show M = A ++ ((L.getD ((k : Int)).toNat tHk.dflt).1 + s * 0, (L.getD ((k : Int)).toNat tHk.dflt).2) :: B
      rw [Int.mul_zero, Int.add_zero]; exact hM.out
    · (refine Wk.keep ?_ ?_ <;> repeat' (first | exact True.intro | refine And.intro rfl ?_ | refine And.intro (congrArg (fun z : Int => AV.v false [Lf.d (.int .i64) z]) (by first | omega | (simp only [Int.natCast_add, List.length_cons, List.length_append, List.length_nil]; omega))) ?_ | refine And.intro ?_ ?_))
    rintro ⟨j, N⟩ ⟨hj, hN⟩
    dsimp only at hj hN ⊢
    by_cases hjt : j < l.length
    · have hg2 := getD_at (a := l) tRg.dflt hjt
      have hr := hrg.out l[j] (List.getElem_mem hjt)
      have hd := hbd.out (L.getD ((k : Int)).toNat tHk.dflt).1 (l.take j) fun x hx => hrg.out x (List.mem_of_mem_take hx)
      rw [List.length_take, Nat.min_eq_left hj] at hd
      have hdt : dl (l.take (j + 1)) (L.getD ((k : Int)).toNat tHk.dflt).1 = dl (l.take j) (L.getD ((k : Int)).toNat tHk.dflt).1 + (if l[j].2.1 < (L.getD ((k : Int)).toNat tHk.dflt).1 then l[j].2.2 else 0) := by
        rw [List.take_add_one, List.getElem?_eq_getElem hjt, Option.toList_some, dl_append]
        show _ + ((if l[j].2.1 < (L.getD ((k : Int)).toNat tHk.dflt).1 then l[j].2.2 else 0) + 0) = _
        rw [Int.add_zero]
      rw [← hg2] at hr hdt
      obtain ⟨r1, r2⟩ := hr
      have m1 := hmul.out (-120) 120 _ r1 r2 rfl
      have m2 := hmul.out _ _ _ hd.1 hd.2 rfl
      have hlN : N.length = L.length := by rw [hN, ← hlM, hM.out]; simp only [List.length_append, List.length_cons]
      have eN : N.getD ((k : Int)).toNat tHk.dflt = ((L.getD ((k : Int)).toNat tHk.dflt).1 + s * dl (l.take j) (L.getD ((k : Int)).toNat tHk.dflt).1, (L.getD ((k : Int)).toNat tHk.dflt).2) := by
        rw [hN, Int.toNat_natCast]
        conv => lhs; rw [← hAl]
        rw [getD_mid, hAl]
      have sN : ∀ y : Hk, N.set ((k : Int)).toNat y = A ++ y :: B := by
        intro y
        rw [hN, Int.toNat_natCast]
        conv => lhs; rw [← hAl]
        rw [set_mid]
      have b1 : -16000 ≤ (N.getD ((k : Int)).toNat ((Ty.int IntKind.i64).pair ((Ty.slice .str).pair (Ty.slice .str))).dflt).1 := by
        have := congrArg Prod.fst eN
        have this : (N.getD ((k : Int)).toNat ((Ty.int IntKind.i64).pair ((Ty.slice .str).pair (Ty.slice .str))).dflt).1 = (L.getD ((k : Int)).toNat tHk.dflt).1 + s * dl (l.take j) (L.getD ((k : Int)).toNat tHk.dflt).1 := this
        omega
      have b2 : (N.getD ((k : Int)).toNat ((Ty.int IntKind.i64).pair ((Ty.slice .str).pair (Ty.slice .str))).dflt).1 ≤ 16000 := by
        have := congrArg Prod.fst eN
        have this : (N.getD ((k : Int)).toNat ((Ty.int IntKind.i64).pair ((Ty.slice .str).pair (Ty.slice .str))).dflt).1 = (L.getD ((k : Int)).toNat tHk.dflt).1 + s * dl (l.take j) (L.getD ((k : Int)).toNat tHk.dflt).1 := this
        omega
      replace hg2 := Lib.hid hg2
      replace hdt := Lib.hid hdt
      replace hN := Lib.hid hN
      replace eN := Lib.hid eN
      replace sN := Lib.hid sN
      clear hd m2
      (repeat' (first | (with_reducible refine Cend.go ?_) | (with_reducible refine Step.mk True.intro ?_) | (with_reducible refine Step.mk ?_ ?_; focus (((try simp only [true_and, and_true, and_self, kmin, kmax, decide_eq_true_eq, decide_eq_false_iff_not, castD_self, castL_self, List.length_cons, List.length_nil, List.length_append, Int.natCast_add] at *) <;> omega))) | (with_reducible refine Step.mk ?_ ?_) | (with_reducible refine Way.t1 ?_) | (with_reducible refine Way.f1 ?_) | ((with_reducible refine Way.dec (fun _ => ?_) (fun _ => ?_)) <;> try (exfalso; omega)) | (with_reducible refine Way.nt ?_) | (with_reducible refine Way.mk (fun _ => ?_) (fun _ => ?_)) | (with_reducible refine Drawn.mk (by kernel_rfl) ?_) | (refine Run.mk ?_)))
      · rename_i h
        have h : (l.getD ((j : Int)).toNat tRg.dflt).2.1 < (L.getD ((k : Int)).toNat tHk.dflt).1 := h
        (apply Back.by ((j + 1, _)); focus (refine Wk.keep ?_ ?_ <;> repeat' (first | exact True.intro | refine And.intro rfl ?_ | refine And.intro (congrArg (fun z : Int => AV.v false [Lf.d (.int .i64) z]) (by first | omega | (simp only [Int.natCast_add, List.length_cons, List.length_append, List.length_nil]; omega))) ?_ | refine And.intro ?_ ?_)))
        · refine ⟨hjt, (sN.out _).trans ?_⟩
          rw [hdt.out, if_pos h, Int.mul_add, ← Int.add_assoc]
          have e1 := congrArg Prod.fst eN.out
          have e2 := congrArg Prod.snd eN.out
          dsimp only at e1 e2
          rw [← e1, ← e2]
          rfl
        · show l.length - (j + 1) < l.length - j; omega
      · rename_i h
        have h : ¬ (l.getD ((j : Int)).toNat tRg.dflt).2.1 < (L.getD ((k : Int)).toNat tHk.dflt).1 := h
        (refine Back.by ((j + 1, N)) ?_ ?_ ?_; focus (refine Wk.keep ?_ ?_ <;> repeat' (first | exact True.intro | refine And.intro rfl ?_ | refine And.intro (congrArg (fun z : Int => AV.v false [Lf.d (.int .i64) z]) (by first | omega | (simp only [Int.natCast_add, List.length_cons, List.length_append, List.length_nil]; omega))) ?_ | refine And.intro ?_ ?_)))
        · refine ⟨hjt, ?_⟩
          rw [hdt.out, if_neg h, Int.add_zero]
          exact hN.out
        · show l.length - (j + 1) < l.length - j; omega
    · rw [List.take_of_length_le (by omega)] at hN
      replace hN := Lib.hid hN
      (repeat' (first | (with_reducible refine Cend.go ?_) | (with_reducible refine Step.mk True.intro ?_) | (with_reducible refine Step.mk ?_ ?_; focus (((try simp only [true_and, and_true, and_self, kmin, kmax, decide_eq_true_eq, decide_eq_false_iff_not, castD_self, castL_self, List.length_cons, List.length_nil, List.length_append, Int.natCast_add] at *) <;> omega))) | (with_reducible refine Step.mk ?_ ?_) | (with_reducible refine Way.t1 ?_) | (with_reducible refine Way.f1 ?_) | ((with_reducible refine Way.dec (fun _ => ?_) (fun _ => ?_)) <;> try (exfalso; omega)) | (with_reducible refine Way.nt ?_) | (with_reducible refine Way.mk (fun _ => ?_) (fun _ => ?_)) | (with_reducible refine Drawn.mk (by kernel_rfl) ?_) | (refine Run.mk ?_)))
      (refine Back.by ((k + 1, N)) ?_ ?_ ?_; focus (refine Wk.keep ?_ ?_ <;> repeat' (first | exact True.intro | refine And.intro rfl ?_ | refine And.intro (congrArg (fun z : Int => AV.v false [Lf.d (.int .i64) z]) (by first | omega | (simp only [Int.natCast_add, List.length_cons, List.length_append, List.length_nil]; omega))) ?_ | refine And.intro ?_ ?_)))
      · refine ⟨hlt, ?_⟩
        rw [hN.out, htk.out, hB.out, List.append_assoc]
        rfl
      · show L.length - (k + 1) < L.length - k; omega
  · rw [List.take_of_length_le (by omega), List.drop_eq_nil_of_le (by omega), List.append_nil] at hM
    subst hM
    (repeat' (first | (with_reducible refine Cend.go ?_) | (with_reducible refine Step.mk True.intro ?_) | (with_reducible refine Step.mk ?_ ?_; focus (((try simp only [true_and, and_true, and_self, kmin, kmax, decide_eq_true_eq, decide_eq_false_iff_not, castD_self, castL_self, List.length_cons, List.length_nil, List.length_append, Int.natCast_add] at *) <;> omega))) | (with_reducible refine Step.mk ?_ ?_) | (with_reducible refine Way.t1 ?_) | (with_reducible refine Way.f1 ?_) | ((with_reducible refine Way.dec (fun _ => ?_) (fun _ => ?_)) <;> try (exfalso; omega)) | (with_reducible refine Way.nt ?_) | (with_reducible refine Way.mk (fun _ => ?_) (fun _ => ?_)) | (with_reducible refine Drawn.mk (by kernel_rfl) ?_) | (refine Run.mk ?_)))
    refine Ret.mk ?_
    exact ⟨rfl, .frz rfl, True.intro⟩
end Go.Proofs.Ytppmhjaooiameaa
