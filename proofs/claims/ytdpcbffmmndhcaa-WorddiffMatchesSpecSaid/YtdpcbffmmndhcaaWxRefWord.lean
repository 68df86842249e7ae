/- The walks of the reference's kind, Tokens, ranges. -/
import Derived.Test.YtdpcbffmmndhcaaWxRefLin
import Derived.Test.YtdpcbffmmndhcaaWxHigh
namespace Go.Proofs.Ytdpcbffmmndhcaa
open Go.RowKit
set_option maxRecDepth 10000
set_option linter.unusedSimpArgs false

def sp_kind : SpecF := pureSp false [.int .u8] (fun _ => True) (fun (a', _) => .v false [.d (.int .i64) (kindV a')])
theorem kind_sp : SpFact 42 sp_kind := by
  refine ⟨⟨Try.f42, rfl, rfl, rfl, pureSp_ok (env_fine (sp := []) (eq := []) True.intro True.intro) rfl (fun ⟨_, _⟩ _ => rfl) ?_⟩, pureSp_loc _ _ _ _⟩
  rintro ⟨c, u⟩ ⟨⟨hc, -⟩, -⟩ -
  change Int at c
  have hc : 0 ≤ c := hc
  (refine fnM_of rfl rfl rfl rfl ?_; dsimp only [params, argAV, Ty.leaves, Ty.isSt])
  (repeat' (first | (with_reducible refine Step.mk True.intro ?_) | (with_reducible refine Step.mk ?_ ?_; focus (((try simp only [true_and, and_true, and_self, kmin, kmax, decide_eq_true_eq, decide_eq_false_iff_not, castD_self, castL_self, List.length_cons, List.length_nil, List.length_append, Int.natCast_add] at *) <;> omega))) | (with_reducible refine Step.mk ?_ ?_) | (with_reducible refine Way.t1 ?_) | (with_reducible refine Way.f1 ?_) | ((with_reducible refine Way.dec (fun _ => ?_) (fun _ => ?_)) <;> try (exfalso; omega)) | (with_reducible refine Way.nt ?_) | (with_reducible refine Way.mk (fun _ => ?_) (fun _ => ?_)) | (with_reducible refine Drawn.mk (by kernel_rfl) ?_) | (refine Run.mk ?_)))
  all_goals (refine Ret.mk ?_; show AV.v false [.d (.int .i64) _] = AV.v false [.d (.int .i64) _])
  all_goals first | rw [kindV_2 c (by omega)] | rw [kindV_1 c (by omega)] | rw [kindV_0 c (by omega) (by omega)]
theorem extract_list (s : ByteArray) (n : Nat) : (s.extract n s.size).data.toList = s.data.toList.drop n := by
  rw [Lib.extract_eq]
  show (s.data.toList.drop n).take (s.size - n) = _
  exact List.take_of_length_le (by rw [List.length_drop, Array.length_toList]; exact Nat.le_refl _)
theorem extract_sz (s : ByteArray) (n : Nat) : (s.extract n s.size).size = s.size - n := by
  have := congrArg List.length (extract_list s n)
  rw [List.length_drop, Array.length_toList, Array.length_toList] at this
  exact this
def sp_RTokF : SpecF := pureSp false [.str] (fun (a', _) => a'.size ≤ 80) (fun (a', _) => .v false [.d (.slice .str) (toks a'.data.toList)])
theorem RTokF_sp : SpFact 25 sp_RTokF := by
  refine ⟨⟨Try.f25, rfl, rfl, rfl, pureSp_okF (env_fine (sp := [(42, sp_kind)]) (eq := []) ⟨kind_sp, True.intro⟩ True.intro) rfl (fun ⟨_, _⟩ _ => rfl) ?_⟩, pureSp_loc _ _ _ _⟩
  rintro ⟨s0, u⟩ - hs
  change ByteArray at s0
  replace hs : s0.size ≤ 80 := hs
  (refine fnM_of rfl rfl rfl rfl ?_; dsimp only [params, argAV, Ty.leaves, Ty.isSt])
  (repeat' (first | (with_reducible refine Step.mk True.intro ?_) | (with_reducible refine Step.mk ?_ ?_; focus (((try simp only [true_and, and_true, and_self, kmin, kmax, decide_eq_true_eq, decide_eq_false_iff_not, castD_self, castL_self, List.length_cons, List.length_nil, List.length_append, Int.natCast_add] at *) <;> omega))) | (with_reducible refine Step.mk ?_ ?_) | (with_reducible refine Way.t1 ?_) | (with_reducible refine Way.f1 ?_) | ((with_reducible refine Way.dec (fun _ => ?_) (fun _ => ?_)) <;> try (exfalso; omega)) | (with_reducible refine Way.nt ?_) | (with_reducible refine Way.mk (fun _ => ?_) (fun _ => ?_)) | (with_reducible refine Drawn.mk (by kernel_rfl) ?_) | (refine Run.mk ?_)))
  refine loop_by (X := ByteArray × List ByteArray) (fun x => [.put 0 (.v false [.d .str x.1]), .put 3 (.v false [.o 91])]) (fun x => [.put 91 (.row 9 .str x.2)])
    (fun x => x.2.length + x.1.size ≤ 80 ∧ toks s0.data.toList = x.2 ++ toks x.1.data.toList) (fun x => x.1.size) (s0, []) ⟨by show 0 + s0.size ≤ 80; omega, rfl⟩ ?_ ?_
  · refine (Wk.nilrow 3 91 9 .str rfl).trans ?_
    (refine Wk.keep ?_ ?_ <;> repeat' (first | exact True.intro | refine And.intro rfl ?_ | refine And.intro (congrArg (fun z : Int => AV.v false [Lf.d (.int .i64) z]) (by first | omega | (simp only [Int.natCast_add, List.length_cons, List.length_append, List.length_nil]; omega))) ?_ | refine And.intro ?_ ?_))
  rintro ⟨s, o⟩ ⟨hol, ht⟩
  dsimp only at hol ht ⊢
  have hlen : s.data.toList.length = s.size := by rw [Array.length_toList]; rfl
  by_cases hp0 : 0 < s.size
  · have hpL : 0 < s.data.toList.length := by omega
    have hb0 : byteAt s 0 = (s.data.toList[0].toNat : Int) := by
      unfold byteAt; rw [List.getD_eq_getElem?_getD, List.getElem?_eq_getElem hpL]; rfl
    have hbr : ∀ m, (h' : m < (s.data.toList.drop (0 + 1)).length) → byteAt s (1 + m) = ((s.data.toList.drop (0 + 1))[m].toNat : Int) := by
      intro m h'
      have : 1 + m < s.data.toList.length := by rw [List.length_drop] at h'; omega
      unfold byteAt; rw [List.getD_eq_getElem?_getD, List.getElem?_eq_getElem this, List.getElem_drop]; rfl
    have hmle := more_le s.data.toList[0] (s.data.toList.drop (0 + 1))
    have hmlt := more_lt s.data.toList[0] (s.data.toList.drop (0 + 1))
    have hmend := more_end s.data.toList[0] (s.data.toList.drop (0 + 1))
    have htk := drop_toks s.data.toList 0 hpL
    have hex := extract_tok s 0 (more s.data.toList[0] (s.data.toList.drop (0 + 1))) hpL
    rw [← hex, List.drop_zero] at htk
    rw [List.length_drop] at hmle
    replace hmlt := Lib.hid hmlt
    replace hmend := Lib.hid hmend
    replace hbr := Lib.hid hbr
    generalize hM : more s.data.toList[0] (s.data.toList.drop (0 + 1)) = M at *
    have hxl := extract_list s (1 + M)
    have hxs := extract_sz s (1 + M)
    replace hxl := Lib.hid hxl
    replace hxs := Lib.hid hxs
    replace htk := Lib.hid htk
    replace hex := Lib.hid hex
    have hk0 := kindV_lt (byteAt s 0)
    have hkm : ∀ m : Nat, kindV (byteAt s (1 + m)) = kindV (byteAt s 0) ↔ clsV (byteAt s (1 + m)) = clsV (byteAt s 0) := fun m => kindV_eq _ _
    replace hk0 := Lib.hid hk0
    replace hkm := Lib.hid hkm
    replace hM := Lib.hid hM
    (repeat' (first | (with_reducible refine Step.mk True.intro ?_) | (with_reducible refine Step.mk ?_ ?_; focus (((try simp only [true_and, and_true, and_self, kmin, kmax, decide_eq_true_eq, decide_eq_false_iff_not, castD_self, castL_self, List.length_cons, List.length_nil, List.length_append, Int.natCast_add] at *) <;> omega))) | (with_reducible refine Step.mk ?_ ?_) | (with_reducible refine Way.t1 ?_) | (with_reducible refine Way.f1 ?_) | ((with_reducible refine Way.dec (fun _ => ?_) (fun _ => ?_)) <;> try (exfalso; omega)) | (with_reducible refine Way.nt ?_) | (with_reducible refine Way.mk (fun _ => ?_) (fun _ => ?_)) | (with_reducible refine Drawn.mk (by kernel_rfl) ?_) | (refine Run.mk ?_)))
    refine loop_by (X := Nat) (fun m => [.put 0 (.v false [.d .str s]), .put 3 (.v false [.o 91]), .put 4 (.v false [.d (.int .i64) (1 + (m : Int))])]) (fun _ => [.put 91 (.row 9 .str o)])
      (fun m => m ≤ M) (fun m => M - m) 0 (Nat.zero_le _) ?_ ?_
    · exact Wk.keep ⟨rfl, rfl, rfl, True.intro⟩ ⟨rfl, True.intro⟩
    intro m hm
    (try dsimp only)
    (repeat' (first | (with_reducible refine Step.mk True.intro ?_) | (with_reducible refine Step.mk ?_ ?_; focus (((try simp only [true_and, and_true, and_self, kmin, kmax, decide_eq_true_eq, decide_eq_false_iff_not, castD_self, castL_self, List.length_cons, List.length_nil, List.length_append, Int.natCast_add] at *) <;> omega))) | (with_reducible refine Step.mk ?_ ?_) | (with_reducible refine Way.t1 ?_) | (with_reducible refine Way.f1 ?_) | ((with_reducible refine Way.dec (fun _ => ?_) (fun _ => ?_)) <;> try (exfalso; omega)) | (with_reducible refine Way.nt ?_) | (with_reducible refine Way.mk (fun _ => ?_) (fun _ => ?_)) | (with_reducible refine Drawn.mk (by kernel_rfl) ?_) | (refine Run.mk ?_)))
    · rename_i h1 h2 h3
      have k0 : kindV (byteAt s 0) < 2 := h2
      have h3 : kindV (byteAt s (1 + (m : Int)).toNat) = kindV (byteAt s 0) := h3
      rw [show (1 + (m : Int)).toNat = 1 + m by omega] at h3
      have h3 := (hkm.out m).1 h3
      have hc0 := hk0.out.1 k0
      have hm1 : m < M := by
        rcases Nat.lt_or_ge m M with q | q
        · exact q
        · obtain rfl : m = M := by omega
          have hr : m < (s.data.toList.drop (0 + 1)).length := by rw [List.length_drop]; omega
          rcases hmend.out with r | r | ⟨r1, r2⟩
          · rw [hb0] at hc0; exact absurd r hc0
          · rw [List.length_drop] at r hr; omega
          · rw [hbr.out m hr, hb0] at h3; exact absurd h3 r2
      (refine Back.by (m + 1) ?_ ?_ ?_; focus (refine Wk.keep ?_ ?_ <;> repeat' (first | exact True.intro | refine And.intro rfl ?_ | refine And.intro (congrArg (fun z : Int => AV.v false [Lf.d (.int .i64) z]) (by first | omega | (simp only [Int.natCast_add, List.length_cons, List.length_append, List.length_nil]; omega))) ?_ | refine And.intro ?_ ?_)))
      · exact hm1
      · show M - (m + 1) < M - m
        omega
    · rename_i h1 h2 h3
      have h3 : ¬ kindV (byteAt s (1 + (m : Int)).toNat) = kindV (byteAt s 0) := h3
      rw [show (1 + (m : Int)).toNat = 1 + m by omega] at h3
      have h3 := fun q => h3 ((hkm.out m).2 q)
      obtain rfl : m = M := by
        rcases Nat.lt_or_ge m M with q | q
        · obtain ⟨q1, q2, q3⟩ := hmlt.out m q
          rw [hbr.out m q2, hb0] at h3
          exact absurd q3 h3
        · omega
      (apply Back.by ((_, _)); focus (refine Wk.ren [(91, 35)] rfl ?_ ?_ <;> repeat' (first | exact True.intro | refine And.intro rfl ?_ | refine And.intro (congrArg (fun z : Int => AV.v false [Lf.d (.int .i64) z]) (by first | omega | (simp only [Int.natCast_add, List.length_cons, List.length_append, List.length_nil]; omega))) ?_ | refine And.intro ?_ ?_)))
      · show (o ++ [s.extract 0 (1 + (m : Int)).toNat]).length + (s.extract (1 + (m : Int)).toNat ((s.size : Int)).toNat).size ≤ 80 ∧ toks s0.data.toList = (o ++ [s.extract 0 (1 + (m : Int)).toNat]) ++ toks (s.extract (1 + (m : Int)).toNat ((s.size : Int)).toNat).data.toList
        rw [show (1 + (m : Int)).toNat = 1 + m by omega, Int.toNat_natCast, hxs.out, hxl.out, List.length_append, List.length_singleton]
        refine ⟨by omega, ?_⟩
        have hh := htk.out
        simp only [Nat.zero_add] at hh
        rw [ht, hh, List.append_assoc]
        rfl
      · show (s.extract (1 + (m : Int)).toNat ((s.size : Int)).toNat).size < s.size
        rw [show (1 + (m : Int)).toNat = 1 + m by omega, Int.toNat_natCast, hxs.out]
        omega
    · rename_i h1 h2
      have k0 : ¬ kindV (byteAt s 0) < 2 := h2
      obtain rfl : m = M := by
        rcases Nat.lt_or_ge m M with q | q
        · exact absurd (hk0.out.2 (by rw [hb0]; exact (hmlt.out m q).1)) k0
        · omega
      (apply Back.by ((_, _)); focus (refine Wk.ren [(91, 35)] rfl ?_ ?_ <;> repeat' (first | exact True.intro | refine And.intro rfl ?_ | refine And.intro (congrArg (fun z : Int => AV.v false [Lf.d (.int .i64) z]) (by first | omega | (simp only [Int.natCast_add, List.length_cons, List.length_append, List.length_nil]; omega))) ?_ | refine And.intro ?_ ?_)))
      · show (o ++ [s.extract 0 (1 + (m : Int)).toNat]).length + (s.extract (1 + (m : Int)).toNat ((s.size : Int)).toNat).size ≤ 80 ∧ toks s0.data.toList = (o ++ [s.extract 0 (1 + (m : Int)).toNat]) ++ toks (s.extract (1 + (m : Int)).toNat ((s.size : Int)).toNat).data.toList
        rw [show (1 + (m : Int)).toNat = 1 + m by omega, Int.toNat_natCast, hxs.out, hxl.out, List.length_append, List.length_singleton]
        refine ⟨by omega, ?_⟩
        have hh := htk.out
        simp only [Nat.zero_add] at hh
        rw [ht, hh, List.append_assoc]
        rfl
      · show (s.extract (1 + (m : Int)).toNat ((s.size : Int)).toNat).size < s.size
        rw [show (1 + (m : Int)).toNat = 1 + m by omega, Int.toNat_natCast, hxs.out]
        omega
    · rename_i h1
      obtain rfl : m = M := by omega
      (apply Back.by ((_, _)); focus (refine Wk.ren [(91, 35)] rfl ?_ ?_ <;> repeat' (first | exact True.intro | refine And.intro rfl ?_ | refine And.intro (congrArg (fun z : Int => AV.v false [Lf.d (.int .i64) z]) (by first | omega | (simp only [Int.natCast_add, List.length_cons, List.length_append, List.length_nil]; omega))) ?_ | refine And.intro ?_ ?_)))
      · show (o ++ [s.extract 0 (1 + (m : Int)).toNat]).length + (s.extract (1 + (m : Int)).toNat ((s.size : Int)).toNat).size ≤ 80 ∧ toks s0.data.toList = (o ++ [s.extract 0 (1 + (m : Int)).toNat]) ++ toks (s.extract (1 + (m : Int)).toNat ((s.size : Int)).toNat).data.toList
        rw [show (1 + (m : Int)).toNat = 1 + m by omega, Int.toNat_natCast, hxs.out, hxl.out, List.length_append, List.length_singleton]
        refine ⟨by omega, ?_⟩
        have hh := htk.out
        simp only [Nat.zero_add] at hh
        rw [ht, hh, List.append_assoc]
        rfl
      · show (s.extract (1 + (m : Int)).toNat ((s.size : Int)).toNat).size < s.size
        rw [show (1 + (m : Int)).toNat = 1 + m by omega, Int.toNat_natCast, hxs.out]
        omega
  · have h0 : s.data.toList = [] := List.length_eq_zero_iff.1 (by omega)
    rw [h0] at ht
    have ht : toks s0.data.toList = o := ht.trans (List.append_nil o)
    (repeat' (first | (with_reducible refine Step.mk True.intro ?_) | (with_reducible refine Step.mk ?_ ?_; focus (((try simp only [true_and, and_true, and_self, kmin, kmax, decide_eq_true_eq, decide_eq_false_iff_not, castD_self, castL_self, List.length_cons, List.length_nil, List.length_append, Int.natCast_add] at *) <;> omega))) | (with_reducible refine Step.mk ?_ ?_) | (with_reducible refine Way.t1 ?_) | (with_reducible refine Way.f1 ?_) | ((with_reducible refine Way.dec (fun _ => ?_) (fun _ => ?_)) <;> try (exfalso; omega)) | (with_reducible refine Way.nt ?_) | (with_reducible refine Way.mk (fun _ => ?_) (fun _ => ?_)) | (with_reducible refine Drawn.mk (by kernel_rfl) ?_) | (refine Run.mk ?_)))
    refine Ret.mk ?_
    rw [ht]
    exact ⟨rfl, .frz rfl, True.intro⟩

theorem rpush_last : ∀ (l : List (Int × Int)) (a t : Int) (d : Int × Int), rpush l a t ≠ [] ∧ ((rpush l a t).getD ((rpush l a t).length - 1) d).2 = t
  | [], a, t, d => ⟨by simp [rpush], rfl⟩
  | [p], a, t, d => by
    by_cases h : p.2 = a
    · simp [rpush, h]
    · simp [rpush, h]
  | p :: q :: r, a, t, d => by
    obtain ⟨h1, h2⟩ := rpush_last (q :: r) a t d
    refine ⟨by simp [rpush], ?_⟩
    show ((p :: rpush (q :: r) a t).getD ((p :: rpush (q :: r) a t).length - 1) d).2 = t
    have hl : 0 < (rpush (q :: r) a t).length := List.length_pos_iff.2 h1
    rw [List.length_cons, Nat.add_sub_cancel, show (rpush (q :: r) a t).length = ((rpush (q :: r) a t).length - 1) + 1 by omega, List.getD_cons_succ]
    exact h2
theorem rgs_snoc (m : List Bool) (b : Bool) : rgs (m ++ [b]) = if b then rpush (rgs m) m.length (m.length + 1) else rgs m := by
  cases b with
  | true => exact rgs_true m 1 (by decide)
  | false => exact rgs_false m 1
/-- the last range ends within the marks -/
theorem rgs_end (d : Int × Int) : ∀ (n : Nat) (m : List Bool), m.length = n → rgs m ≠ [] → ((rgs m).getD ((rgs m).length - 1) d).2 ≤ m.length := by
  intro n
  induction n with
  | zero =>
    intro m h hne
    rw [List.length_eq_zero_iff.1 h] at hne
    exact absurd rfl hne
  | succ n ih =>
    intro m h hne
    rcases List.eq_nil_or_concat m with rfl | ⟨m', b, rfl⟩
    · cases h
    rw [List.concat_eq_append] at h hne ⊢
    rw [List.length_append, List.length_singleton] at h
    rw [rgs_snoc] at hne ⊢
    cases b with
    | true =>
      rw [if_pos rfl, (rpush_last (rgs m') m'.length (m'.length + 1) d).2]
      rw [List.length_append, List.length_singleton]
      omega
    | false =>
      rw [if_neg (by decide)] at hne ⊢
      have := ih m' (by omega) hne
      rw [List.length_append, List.length_singleton]
      omega
/-- the last range ends at the last mark just where it is set -/
theorem rgs_at (d : Int × Int) (m : List Bool) (b : Bool) : (b = true → rgs (m ++ [b]) ≠ [] ∧ ((rgs (m ++ [b])).getD ((rgs (m ++ [b])).length - 1) d).2 = (m ++ [b]).length) ∧ (b = false → rgs (m ++ [b]) ≠ [] → ¬ ((rgs (m ++ [b])).getD ((rgs (m ++ [b])).length - 1) d).2 = (m ++ [b]).length) := by
  constructor
  · rintro rfl
    rw [rgs_snoc, if_pos rfl, List.length_append, List.length_singleton]
    obtain ⟨h1, h2⟩ := rpush_last (rgs m) m.length (m.length + 1) d
    exact ⟨h1, h2⟩
  · rintro rfl hne
    rw [rgs_snoc, if_neg (by decide)] at hne ⊢
    have := rgs_end d _ m rfl hne
    rw [List.length_append, List.length_singleton]
    omega
theorem set_end {α : Type} (l : List α) (x y : α) : (l ++ [x]).set l.length y = l ++ [y] := by
  rw [List.set_append_right _ _ (Nat.le_refl _), Nat.sub_self]; rfl
theorem getD_end {α : Type} (l : List α) (x d : α) : (l ++ [x]).getD l.length d = x := by
  rw [List.getD_eq_getElem?_getD, List.getElem?_append_right (Nat.le_refl _), Nat.sub_self]; rfl
def sp_rgs : SpecF := ownSp true [.slice .bool] 74 tPr (fun (a', _) => a'.length ≤ 100000) (fun (a', _) => rgs a')
theorem rgs_sp : SpFact 44 sp_rgs := by
  refine ⟨⟨Try.f44, rfl, rfl, rfl, ownSp_ok (env_fine (sp := []) (eq := []) True.intro True.intro) rfl (fun _ => rfl) ?_⟩, ownSp_loc _ _ _ _ _ _⟩
  rintro ⟨m, u⟩ - hm
  change List Bool at m
  replace hm : m.length ≤ 100000 := hm
  (refine fnM_of rfl rfl rfl rfl ?_; dsimp only [params, argAV, Ty.leaves, Ty.isSt])
  (repeat' (first | (with_reducible refine Step.mk True.intro ?_) | (with_reducible refine Step.mk ?_ ?_; focus (((try simp only [true_and, and_true, and_self, kmin, kmax, decide_eq_true_eq, decide_eq_false_iff_not, castD_self, castL_self, List.length_cons, List.length_nil, List.length_append, Int.natCast_add] at *) <;> omega))) | (with_reducible refine Step.mk ?_ ?_) | (with_reducible refine Way.t1 ?_) | (with_reducible refine Way.f1 ?_) | ((with_reducible refine Way.dec (fun _ => ?_) (fun _ => ?_)) <;> try (exfalso; omega)) | (with_reducible refine Way.nt ?_) | (with_reducible refine Way.mk (fun _ => ?_) (fun _ => ?_)) | (with_reducible refine Drawn.mk (by kernel_rfl) ?_) | (refine Run.mk ?_)))
  refine loop_by (X := Nat × List (Int × Int)) (fun x => [.put 0 (.v false [.d (.slice .bool) m]), .put 3 (.v false [.o 91]), .put 4 (.v false [.d (.int .i64) (x.1 : Int)])]) (fun x => [.put 91 (.row 74 tPr x.2)])
    (fun x => x.1 ≤ m.length ∧ x.2 = rgs (m.take x.1)) (fun x => m.length - x.1) (0, []) ⟨Nat.zero_le _, rfl⟩ ?_ ?_
  · refine (Wk.nilrow 3 91 74 tPr rfl).trans ?_
    (refine Wk.keep ?_ ?_ <;> repeat' (first | exact True.intro | refine And.intro rfl ?_ | refine And.intro (congrArg (fun z : Int => AV.v false [Lf.d (.int .i64) z]) (by first | omega | (simp only [Int.natCast_add, List.length_cons, List.length_append, List.length_nil]; omega))) ?_ | refine And.intro ?_ ?_))
  rintro ⟨i, o⟩ ⟨hi, ho⟩
  dsimp only at hi ho ⊢
  have hol : o.length ≤ i := by rw [ho]; have := rgs_len (m.take i); rw [List.length_take] at this; omega
  by_cases hlt : i < m.length
  · have hg := getD_at (a := m) Ty.bool.dflt hlt
    have ht : m.take (i + 1) = m.take i ++ [m[i]] := by rw [List.take_add_one, List.getElem?_eq_getElem hlt]; rfl
    have hs := rgs_snoc (m.take i) m[i]
    rw [← ht, ← ho, List.length_take, Nat.min_eq_left hi, ← hg] at hs
    replace hs := Lib.hid hs
    replace hg := Lib.hid hg
    rcases Nat.eq_zero_or_pos i with rfl | hpos
    · obtain rfl : o = [] := ho
      replace ht := Lib.hid ht
      (repeat' (first | (with_reducible refine Step.mk True.intro ?_) | (with_reducible refine Step.mk ?_ ?_; focus (((try simp only [true_and, and_true, and_self, kmin, kmax, decide_eq_true_eq, decide_eq_false_iff_not, castD_self, castL_self, List.length_cons, List.length_nil, List.length_append, Int.natCast_add] at *) <;> omega))) | (with_reducible refine Step.mk ?_ ?_) | (with_reducible refine Way.t1 ?_) | (with_reducible refine Way.f1 ?_) | ((with_reducible refine Way.dec (fun _ => ?_) (fun _ => ?_)) <;> try (exfalso; omega)) | (with_reducible refine Way.nt ?_) | (with_reducible refine Way.mk (fun _ => ?_) (fun _ => ?_)) | (with_reducible refine Drawn.mk (by kernel_rfl) ?_) | (refine Run.mk ?_)))
      · rename_i h1 h2 h3
        have h2 : m.getD (((0 : Nat) : Int)).toNat Ty.bool.dflt = true := h2
        (apply Back.by ((0 + 1, _)); focus (refine Wk.ren [(91, 31)] rfl ?_ ?_ <;> repeat' (first | exact True.intro | refine And.intro rfl ?_ | refine And.intro (congrArg (fun z : Int => AV.v false [Lf.d (.int .i64) z]) (by first | omega | (simp only [Int.natCast_add, List.length_cons, List.length_append, List.length_nil]; omega))) ?_ | refine And.intro ?_ ?_)))
        · refine ⟨hlt, ?_⟩
          rw [hs.out, if_pos h2]
          rfl
        · show m.length - (0 + 1) < m.length - 0; omega
      · rename_i h1 h2
        have h2 : m.getD (((0 : Nat) : Int)).toNat Ty.bool.dflt = false := h2
        (refine Back.by ((0 + 1, [])) ?_ ?_ ?_; focus (refine Wk.keep ?_ ?_ <;> repeat' (first | exact True.intro | refine And.intro rfl ?_ | refine And.intro (congrArg (fun z : Int => AV.v false [Lf.d (.int .i64) z]) (by first | omega | (simp only [Int.natCast_add, List.length_cons, List.length_append, List.length_nil]; omega))) ?_ | refine And.intro ?_ ?_)))
        · refine ⟨hlt, ?_⟩
          rw [hs.out, if_neg (by rw [h2]; decide)]
        · show m.length - (0 + 1) < m.length - 0; omega
    · obtain ⟨k, rfl⟩ : ∃ k, i = k + 1 := ⟨i - 1, by omega⟩
      have hkl : k < m.length := by omega
      have hgk := getD_at (a := m) Ty.bool.dflt hkl
      have htk : m.take (k + 1) = m.take k ++ [m[k]] := by rw [List.take_add_one, List.getElem?_eq_getElem hkl]; rfl
      have hat := rgs_at tPr.dflt (m.take k) m[k]
      rw [← htk, ← ho, List.length_take, Nat.min_eq_left hi, ← hgk] at hat
      obtain ⟨hat1, hat2⟩ := hat
      replace hat1 := Lib.hid hat1
      replace hat2 := Lib.hid hat2
      replace hgk := Lib.hid hgk
      replace htk := Lib.hid htk
      replace ht := Lib.hid ht
      replace ho := Lib.hid ho
      (repeat' (first | (with_reducible refine Step.mk True.intro ?_) | (with_reducible refine Step.mk ?_ ?_; focus (((try simp only [true_and, and_true, and_self, kmin, kmax, decide_eq_true_eq, decide_eq_false_iff_not, castD_self, castL_self, List.length_cons, List.length_nil, List.length_append, Int.natCast_add] at *) <;> omega))) | (with_reducible refine Step.mk ?_ ?_) | (with_reducible refine Way.t1 ?_) | (with_reducible refine Way.f1 ?_) | ((with_reducible refine Way.dec (fun _ => ?_) (fun _ => ?_)) <;> try (exfalso; omega)) | (with_reducible refine Way.nt ?_) | (with_reducible refine Way.mk (fun _ => ?_) (fun _ => ?_)) | (with_reducible refine Drawn.mk (by kernel_rfl) ?_) | (refine Run.mk ?_)))
      · rename_i h1 h2 h3 h4
        have h4 : m.getD (((k + 1 : Nat) : Int) - 1).toNat Ty.bool.dflt = true := h4
        rw [show (((k + 1 : Nat) : Int) - 1).toNat = ((k : Int)).toNat by omega] at h4
        have := List.length_pos_iff.2 (hat1.out h4).1
        omega
      · rename_i h1 h2 h3 h4
        have h4 : m.getD (((k + 1 : Nat) : Int) - 1).toNat Ty.bool.dflt = true := h4
        rw [show (((k + 1 : Nat) : Int) - 1).toNat = ((k : Int)).toNat by omega] at h4
        have := List.length_pos_iff.2 (hat1.out h4).1
        omega
      · rename_i h1 h2 h3 h4
        have h2 : m.getD (((k + 1 : Nat) : Int)).toNat Ty.bool.dflt = true := h2
        have h4 : m.getD (((k + 1 : Nat) : Int) - 1).toNat Ty.bool.dflt = true := h4
        rw [show (((k + 1 : Nat) : Int) - 1).toNat = ((k : Int)).toNat by omega] at h4
        obtain ⟨n1, n2⟩ := hat1.out h4
        have hpo := List.length_pos_iff.2 n1
        (apply Back.by ((k + 1 + 1, _)); focus (refine Wk.keep ?_ ?_ <;> repeat' (first | exact True.intro | refine And.intro rfl ?_ | refine And.intro (congrArg (fun z : Int => AV.v false [Lf.d (.int .i64) z]) (by first | omega | (simp only [Int.natCast_add, List.length_cons, List.length_append, List.length_nil]; omega))) ?_ | refine And.intro ?_ ?_)))
        · refine ⟨hlt, ?_⟩
          rw [hs.out, if_pos h2, rpush_set o _ _ tPr.dflt n1 n2]
          show o.set ((o.length : Int) - 1).toNat ((o.getD ((o.length : Int) - 1).toNat tPr.dflt).1, ((k + 1 : Nat) : Int) + 1) = _
          rw [show ((o.length : Int) - 1).toNat = o.length - 1 by omega]
        · show m.length - (k + 1 + 1) < m.length - (k + 1); omega
      · rename_i h1 h2 h3 h4
        have h2 : m.getD (((k + 1 : Nat) : Int)).toNat Ty.bool.dflt = true := h2
        have h4 : m.getD (((k + 1 : Nat) : Int) - 1).toNat Ty.bool.dflt = false := h4
        rw [show (((k + 1 : Nat) : Int) - 1).toNat = ((k : Int)).toNat by omega] at h4
        (apply Back.by ((k + 1 + 1, _)); focus (refine Wk.ren [(91, 31)] rfl ?_ ?_ <;> repeat' (first | exact True.intro | refine And.intro rfl ?_ | refine And.intro (congrArg (fun z : Int => AV.v false [Lf.d (.int .i64) z]) (by first | omega | (simp only [Int.natCast_add, List.length_cons, List.length_append, List.length_nil]; omega))) ?_ | refine And.intro ?_ ?_)))
        · refine ⟨hlt, ?_⟩
          rw [hs.out, if_pos h2, rpush_app o _ _ tPr.dflt (hat2.out h4)]
          show (o ++ [(((k + 1 : Nat) : Int), ((k + 1 : Nat) : Int))]).set (((o ++ [(((k + 1 : Nat) : Int), ((k + 1 : Nat) : Int))]).length : Int) - 1).toNat (((o ++ [(((k + 1 : Nat) : Int), ((k + 1 : Nat) : Int))]).getD (((o ++ [(((k + 1 : Nat) : Int), ((k + 1 : Nat) : Int))]).length : Int) - 1).toNat tPr.dflt).1, ((k + 1 : Nat) : Int) + 1) = _
          rw [show (((o ++ [(((k + 1 : Nat) : Int), ((k + 1 : Nat) : Int))]).length : Int) - 1).toNat = o.length by rw [List.length_append, List.length_singleton]; omega, set_end, getD_end]
        · show m.length - (k + 1 + 1) < m.length - (k + 1); omega
      · rename_i h1 h2
        have h2 : m.getD (((k + 1 : Nat) : Int)).toNat Ty.bool.dflt = false := h2
        (refine Back.by ((k + 1 + 1, o)) ?_ ?_ ?_; focus (refine Wk.keep ?_ ?_ <;> repeat' (first | exact True.intro | refine And.intro rfl ?_ | refine And.intro (congrArg (fun z : Int => AV.v false [Lf.d (.int .i64) z]) (by first | omega | (simp only [Int.natCast_add, List.length_cons, List.length_append, List.length_nil]; omega))) ?_ | refine And.intro ?_ ?_)))
        · refine ⟨hlt, ?_⟩
          rw [hs.out, if_neg (by rw [h2]; decide)]
        · show m.length - (k + 1 + 1) < m.length - (k + 1); omega
  · rw [List.take_of_length_le (by omega)] at ho
    subst ho
    (repeat' (first | (with_reducible refine Step.mk True.intro ?_) | (with_reducible refine Step.mk ?_ ?_; focus (((try simp only [true_and, and_true, and_self, kmin, kmax, decide_eq_true_eq, decide_eq_false_iff_not, castD_self, castL_self, List.length_cons, List.length_nil, List.length_append, Int.natCast_add] at *) <;> omega))) | (with_reducible refine Step.mk ?_ ?_) | (with_reducible refine Way.t1 ?_) | (with_reducible refine Way.f1 ?_) | ((with_reducible refine Way.dec (fun _ => ?_) (fun _ => ?_)) <;> try (exfalso; omega)) | (with_reducible refine Way.nt ?_) | (with_reducible refine Way.mk (fun _ => ?_) (fun _ => ?_)) | (with_reducible refine Drawn.mk (by kernel_rfl) ?_) | (refine Run.mk ?_)))
    exact Ret.mk (.inl ⟨91, rfl, rfl⟩)
end Go.Proofs.Ytdpcbffmmndhcaa
