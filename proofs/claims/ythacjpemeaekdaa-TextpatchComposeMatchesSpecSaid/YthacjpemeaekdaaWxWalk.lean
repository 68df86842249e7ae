/- The walk of textpatch.walk, with the collector and the closure run in place. Written by gen/walk.py. -/
import Derived.Test.YthacjpemeaekdaaWxMid
import Derived.Test.YthacjpemeaekdaaWxScript
import Derived.Test.YthacjpemeaekdaaKeepT
namespace Go.Proofs.Ythacjpemeaekdaa
open Go.RowKit
set_option maxRecDepth 10000
set_option maxHeartbeats 4000000
set_option linter.unusedSimpArgs false

/-- what is collected and what is still to come -/
def CI (W : List Hk) (n : Nat) (D : List Hk) (cu : Option Hk) (R : List (Int × ByteArray)) : Prop :=
  W = D ++ col n cu R ∧ D.length + cu.toList.length + R.length ≤ 1000000 ∧ (cuOld cu).length + R.length ≤ 1000000 ∧ (cuNew cu).length + R.length ≤ 1000000 ∧ n + R.length ≤ 1000000
theorem CI.bd {W : List Hk} {n : Nat} {D : List Hk} {cu : Option Hk} {R : List (Int × ByteArray)} (h : CI W n D cu R) : D.length ≤ 1000000 ∧ (cuOld cu).length ≤ 1000000 ∧ (cuNew cu).length ≤ 1000000 ∧ n ≤ 1000000 := by
  obtain ⟨-, h1, h2, h3, h4⟩ := h
  exact ⟨by omega, by omega, by omega, by omega⟩
theorem CI.keep {W : List Hk} {n : Nat} {D : List Hk} {cu : Option Hk} {x : ByteArray} {R : List (Int × ByteArray)} (h : CI W n D cu ((0, x) :: R)) : CI W (n + 1) (D ++ cu.toList) none R := by
  obtain ⟨h0, h1, h2, h3, h4⟩ := h
  rw [List.length_cons] at h1 h2 h3 h4
  refine ⟨by rw [h0, col_keep, List.append_assoc]; rfl, ?_, ?_, ?_, by omega⟩
  · rw [List.length_append]; show D.length + cu.toList.length + 0 + R.length ≤ 1000000; omega
  · show 0 + R.length ≤ 1000000; omega
  · show 0 + R.length ≤ 1000000; omega
theorem CI.del {W : List Hk} {n : Nat} {D : List Hk} {cu : Option Hk} {x : ByteArray} {R : List (Int × ByteArray)} (h : CI W n D cu ((1, x) :: R)) : CI W (n + 1) D (some (cuDel n cu x)) R := by
  obtain ⟨h0, h1, h2, h3, h4⟩ := h
  rw [List.length_cons] at h1 h2 h3 h4
  refine ⟨by rw [h0, col_del]; rfl, ?_, ?_, ?_, by omega⟩
  · show D.length + 1 + R.length ≤ 1000000; omega
  · cases cu with
    | none => show 1 + R.length ≤ 1000000; omega
    | some c => show (c.2.1 ++ [x]).length + R.length ≤ 1000000; have h2 : c.2.1.length + (R.length + 1) ≤ 1000000 := h2; rw [List.length_append, List.length_singleton]; omega
  · cases cu with
    | none => show 0 + R.length ≤ 1000000; omega
    | some c => have h3 : c.2.2.length + (R.length + 1) ≤ 1000000 := h3; show c.2.2.length + R.length ≤ 1000000; omega
theorem CI.ins {W : List Hk} {n : Nat} {D : List Hk} {cu : Option Hk} {x : ByteArray} {R : List (Int × ByteArray)} (h : CI W n D cu ((2, x) :: R)) : CI W n D (some (cuIns n cu x)) R := by
  obtain ⟨h0, h1, h2, h3, h4⟩ := h
  rw [List.length_cons] at h1 h2 h3 h4
  refine ⟨by rw [h0, col_ins], ?_, ?_, ?_, by omega⟩
  · show D.length + 1 + R.length ≤ 1000000; omega
  · cases cu with
    | none => show 0 + R.length ≤ 1000000; omega
    | some c => have h2 : c.2.1.length + (R.length + 1) ≤ 1000000 := h2; show c.2.1.length + R.length ≤ 1000000; omega
  · cases cu with
    | none => show 1 + R.length ≤ 1000000; omega
    | some c => show (c.2.2 ++ [x]).length + R.length ≤ 1000000; have h3 : c.2.2.length + (R.length + 1) ≤ 1000000 := h3; rw [List.length_append, List.length_singleton]; omega
theorem map_drop_cons {α β : Type} {f : α → β} {l : List α} {j : Nat} (h : j < l.length) (R : List β) : (l.drop j).map f ++ R = f l[j] :: ((l.drop (j + 1)).map f ++ R) := by
  rw [List.drop_eq_getElem_cons h]; rfl
theorem map_drop_nil {α β : Type} {f : α → β} {l : List α} {j : Nat} (h : ¬ j < l.length) (R : List β) : (l.drop j).map f ++ R = R := by
  rw [List.drop_eq_nil_of_le (by omega)]; rfl
theorem kev_eq (m : Md) (R : List (Int × ByteArray)) : kev m ++ R = (m.2.2.drop 0).map (fun x => ((1 : Int), x)) ++ ((if m.1 = true then ((2 : Int), m.2.1) else (0, ByteArray.empty)) :: R) := by
  unfold kev; rw [List.append_assoc]; rfl
theorem dev_eq (m : Md) (s : ByteArray) (R : List (Int × ByteArray)) : dev m s ++ R = (m.2.2.drop 0).map (fun x => ((1 : Int), x)) ++ ((if m.1 = true then [] else [((1 : Int), s)]) ++ R) := by
  unfold dev; rw [List.append_assoc]; rfl
/-- ahead of a hunk -/
def rK (M : List Md) (e b : Nat) (R : List (Int × ByteArray)) : List (Int × ByteArray) := ((M.drop b).take (e - b)).flatMap kev ++ R
theorem rK_step {M : List Md} {e b : Nat} (h : b < e) (hl : b < M.length) (R : List (Int × ByteArray)) : rK M e b R = kev M[b] ++ rK M e (b + 1) R := by
  unfold rK
  rw [List.drop_eq_getElem_cons hl, show e - b = (e - (b + 1)) + 1 by omega, List.take_succ_cons, List.flatMap_cons, List.append_assoc]
theorem rK_end {M : List Md} {e b : Nat} (h : ¬ b < e) (R : List (Int × ByteArray)) : rK M e b R = R := by
  unfold rK
  rw [show e - b = 0 by omega]; rfl
def rD (M : List Md) (a : Nat) (o : List ByteArray) (j : Nat) (R : List (Int × ByteArray)) : List (Int × ByteArray) := devs (M.drop (a + j)) (o.drop j) ++ R
theorem rD_step {M : List Md} {a j : Nat} {o : List ByteArray} (h : j < o.length) (hl : a + j < M.length) (R : List (Int × ByteArray)) : rD M a o j R = dev M[a + j] o[j] ++ rD M a o (j + 1) R := by
  unfold rD
  rw [List.drop_eq_getElem_cons hl, List.drop_eq_getElem_cons h]
  show (dev M[a + j] o[j] ++ devs _ _) ++ R = _
  rw [List.append_assoc]; rfl
theorem rD_end {M : List Md} {a j : Nat} {o : List ByteArray} (h : ¬ j < o.length) (R : List (Int × ByteArray)) : rD M a o j R = R := by
  unfold rD
  rw [show o.drop j = [] from List.drop_eq_nil_of_le (by omega)]
  cases M.drop (a + j) <;> rfl
def rA (M : List Md) (b : Nat) : List (Int × ByteArray) := (M.drop b).flatMap kev
theorem rA_step {M : List Md} {b : Nat} (hl : b < M.length) : rA M b = kev M[b] ++ rA M (b + 1) := by
  unfold rA
  rw [List.drop_eq_getElem_cons hl]; rfl
theorem evs_step {M : List Md} {q : List Hk} {k a : Nat} (hk : k < q.length) (h0 : 0 ≤ q[k].1) : evs a (M.drop a) (q.drop k) = rK M q[k].1.toNat a ((q[k].2.2.drop 0).map (fun x => ((2 : Int), x)) ++ rD M (a + (q[k].1.toNat - a)) q[k].2.1 0 (evs (hkEnd q[k]) (M.drop (a + ((hkEnd q[k]).toNat - a))) (q.drop (k + 1)))) := by
  rw [List.drop_eq_getElem_cons hk]
  unfold rK rD
  show ((M.drop a).take (q[k].1 - a).toNat).flatMap kev ++ (q[k].2.2.map (fun x => ((2 : Int), x)) ++ (devs ((M.drop a).drop (q[k].1 - a).toNat) q[k].2.1 ++ evs (hkEnd q[k]) ((M.drop a).drop (hkEnd q[k] - a).toNat) (q.drop (k + 1)))) = _
  have e1 : (q[k].1 - (a : Int)).toNat = q[k].1.toNat - a := by omega
  have e2 : (hkEnd q[k] - (a : Int)).toNat = (hkEnd q[k]).toNat - a := by omega
  rw [e1, e2, List.drop_drop, List.drop_drop]
  rfl
theorem gdS {l : List ByteArray} {j : Nat} (h : j < l.length) : l.getD ((j : Int)).toNat Ty.str.dflt = l[j] := by
  rw [Int.toNat_natCast, List.getD_eq_getElem?_getD, List.getElem?_eq_getElem h]; rfl
theorem colH_tok {a : Int} {D : List Hk} {cu : Option Hk} : Tok [5, 91, 92, 93] (colH 5 a D cu) := by
  intro k ob h
  cases cu with
  | none =>
    replace h : (bif Nat.beq k 5 then some (Ob.box 99 [.o 91, .d (.int .i64) a, .d .bool false]) else bif Nat.beq k 91 then some (Ob.row 76 tHk D) else none) = some ob := h
    by_cases e1 : k = 5
    · subst e1; cases h
      refine ⟨rfl, fun d hd => ?_⟩
      have hd' : Nat.beq 91 d = false := by cases q : Nat.beq 91 d; rfl; rw [← Nat.eq_of_beq_eq_true q] at hd; cases hd
      show Ob.box _ ((bif Nat.beq 91 d then Lf.un else Lf.o 91) :: _) = _
      rw [hd']; rfl
    · rw [beq_ne e1] at h
      by_cases e2 : k = 91
      · subst e2; cases h; exact ⟨rfl, fun _ _ => rfl⟩
      · rw [beq_ne e2] at h; cases h
  | some c =>
    replace h : (bif Nat.beq k 5 then some (Ob.box 99 [.o 91, .d (.int .i64) a, .d .bool true]) else bif Nat.beq k 91 then some (Ob.rox 76 tHk D [.d (.int .i64) c.1, .o 92, .o 93] []) else bif Nat.beq k 92 then some (Ob.row 9 .str c.2.1) else bif Nat.beq k 93 then some (Ob.row 9 .str c.2.2) else none) = some ob := h
    by_cases e1 : k = 5
    · subst e1; cases h
      refine ⟨rfl, fun d hd => ?_⟩
      have hd' : Nat.beq 91 d = false := by cases q : Nat.beq 91 d; rfl; rw [← Nat.eq_of_beq_eq_true q] at hd; cases hd
      show Ob.box _ ((bif Nat.beq 91 d then Lf.un else Lf.o 91) :: _) = _
      rw [hd']; rfl
    · rw [beq_ne e1] at h
      by_cases e2 : k = 91
      · subst e2; cases h
        refine ⟨rfl, fun d hd => ?_⟩
        have h1 : Nat.beq 92 d = false := by cases q : Nat.beq 92 d; rfl; rw [← Nat.eq_of_beq_eq_true q] at hd; cases hd
        have h2 : Nat.beq 93 d = false := by cases q : Nat.beq 93 d; rfl; rw [← Nat.eq_of_beq_eq_true q] at hd; cases hd
        show Ob.rox _ _ _ [_, (bif Nat.beq 92 d then Lf.un else Lf.o 92), (bif Nat.beq 93 d then Lf.un else Lf.o 93)] _ = _
        rw [h1, h2]; rfl
      · rw [beq_ne e2] at h
        by_cases e3 : k = 92
        · subst e3; cases h; exact ⟨rfl, fun _ _ => rfl⟩
        · rw [beq_ne e3] at h
          by_cases e4 : k = 93
          · subst e4; cases h; exact ⟨rfl, fun _ _ => rfl⟩
          · rw [beq_ne e4] at h; cases h
def sp_walk : SpecF := pureSp false [.slice tMid, tPat] (fun (M', q', _) => 121 ≤ M'.length ∧ M'.length ≤ 1000000 ∧ (∀ h ∈ q', HkOk h ∧ hkEnd h ≤ 120) ∧ q'.length ≤ 130 ∧ ch (-1) q' ∧ (evs 0 M' q').length ≤ 1000000) (fun (M', q', _) => .v true [.d (.slice tHk) (col 0 none (evs 0 M' q'))])
theorem walk_sp : SpFact 46 sp_walk := by
  refine ⟨⟨Try.f46, rfl, rfl, rfl, pureSp_okF (env1_fine (sp := []) (eq := [])
    (inl := [(76, Try.f76), (66, Try.f66), (67, Try.f67), (68, Try.f68), (69, Try.f69), (82, Try.f82)]) (cl := [])
    True.intro True.intro ⟨⟨rfl, rfl, rfl⟩, ⟨rfl, rfl, rfl⟩, ⟨rfl, rfl, rfl⟩, ⟨rfl, rfl, rfl⟩, ⟨rfl, rfl, rfl⟩, ⟨rfl, rfl, rfl⟩, True.intro⟩) rfl (fun ⟨_, _, _⟩ _ => rfl) ?_⟩, pureSp_loc _ _ _ _⟩
  rintro ⟨M, q, u⟩ - ⟨hM1, hM2, hok, hlen, hch, hT⟩
  change List Md at M
  change List Hk at q
  replace hM1 : 121 ≤ M.length := hM1
  replace hM2 : M.length ≤ 1000000 := hM2
  replace hlen : q.length ≤ 130 := hlen
  replace hok : ∀ h ∈ q, HkOk h ∧ hkEnd h ≤ 120 := hok
  replace hch : ch (-1) q := hch
  replace hT : (evs 0 M q).length ≤ 1000000 := hT
  dsimp only
  obtain ⟨W, hW⟩ : ∃ W, W = col 0 none (evs 0 M q) := ⟨_, rfl⟩
  rw [← hW]
  have hC0 : CI W 0 [] none (evs ((0 : Nat) : Int) (M.drop 0) (q.drop 0)) := ⟨hW, by show 0 + 0 + (evs 0 M q).length ≤ _; omega, by show 0 + (evs 0 M q).length ≤ _; omega, by show 0 + (evs 0 M q).length ≤ _; omega, by show 0 + (evs 0 M q).length ≤ _; omega⟩
  replace hC0 := Lib.hid hC0
  replace hok := Lib.hid hok
  replace hch := Lib.hid hch
  clear hW hT
  (refine fnM_of rfl rfl rfl rfl ?_; dsimp only [params, argAV, Ty.leaves, Ty.isSt])
  (repeat' (first | (with_reducible refine Cend.go ?_) | (with_reducible refine Step.mk True.intro ?_) | (with_reducible refine Step.mk ?_ ?_; focus (((try simp only [true_and, and_true, and_self, kmin, kmax, decide_eq_true_eq, decide_eq_false_iff_not, castD_self, castL_self, List.length_cons, List.length_nil, List.length_append, Int.natCast_add] at *) <;> omega))) | (with_reducible refine Step.mk ?_ ?_) | (with_reducible refine Way.t1 ?_) | (with_reducible refine Way.f1 ?_) | ((with_reducible refine Way.dec (fun _ => ?_) (fun _ => ?_)) <;> try (exfalso; omega)) | (with_reducible refine Way.nt ?_) | (with_reducible refine Way.mk (fun _ => ?_) (fun _ => ?_)) | (with_reducible refine Drawn.mk (by kernel_rfl) ?_) | (refine Run.mk ?_)))
  refine loop_by (X := Nat × Nat × Nat × List Hk × Option Hk) (fun x => [.put 0 (.v false [.d (.slice tMid) M]), .put 4 (.v false [.p 4 0]), .put 5 (.v false [.p 5 0]), .put 7 (.v false [.fn 76 [5]]), .put 6 (.v false [.d (.int .i64) (x.2.1 : Int)]), .put 18 (.v false [.d (.slice tHk) q]), .put 19 (.v false [.d (.int .i64) (q.length : Int)]), .put 20 (.v false [.d (.int .i64) (x.1 : Int)])])
    (fun x => .put 4 (.box 41 [.nl]) :: colH 5 (x.2.2.1 : Int) x.2.2.2.1 x.2.2.2.2) (fun x => x.1 ≤ q.length ∧ x.2.1 ≤ 120 ∧ ch ((x.2.1 : Int) - 1) (q.drop x.1) ∧ CI W x.2.2.1 x.2.2.2.1 x.2.2.2.2 (evs (x.2.1 : Int) (M.drop x.2.1) (q.drop x.1))) (fun x => q.length - x.1) (0, 0, 0, [], none) ⟨Nat.zero_le _, Nat.zero_le _, hch.out, hC0.out⟩ ?_ ?_
  · refine (Wk.nilbox 5 0 91 76 tHk (T := 99) (cs := [.nl, .d (.int .i64) 0, .d .bool false]) rfl rfl rfl).trans ?_
    (refine Wk.keep ?_ ?_ <;> repeat' (first | exact True.intro | refine And.intro rfl ?_ | refine And.intro (congrArg (fun z : Int => AV.v false [Lf.d (.int .i64) z]) (by first | omega | (simp only [Int.natCast_add, List.length_cons, List.length_append, List.length_nil]; omega))) ?_ | refine And.intro ?_ ?_))
  rintro ⟨k, a, n, D, cu⟩ ⟨hk, ha, hc, hC⟩
  dsimp only at hk ha hc hC ⊢
  obtain ⟨bD, bo, bn, bN⟩ := hC.bd
  by_cases hlt : k < q.length
  · have hg := getD_at (a := q) tHk.dflt hlt
    have ho := hok.out q[k] (List.getElem_mem hlt)
    rw [List.drop_eq_getElem_cons hlt] at hc
    obtain ⟨hc1, hc2⟩ := hc
    rw [evs_step hlt ho.1.1, ← hg] at hC
    rw [← hg] at ho hc1 hc2
    obtain ⟨⟨o1, o2, o3, o4⟩, o5⟩ := ho
    obtain ⟨z, hz⟩ : ∃ z : Nat, (q.getD ((k : Int)).toNat tHk.dflt).1 = (z : Int) := ⟨(q.getD ((k : Int)).toNat tHk.dflt).1.toNat, by omega⟩
    have hze : (hkEnd (q.getD ((k : Int)).toNat tHk.dflt)) = ((z + (q.getD ((k : Int)).toNat tHk.dflt).2.1.length : Nat) : Int) := by unfold hkEnd; omega
    rw [hze] at hc2 o5
    rw [hze, hz, Int.toNat_natCast z, Int.toNat_natCast (z + (q.getD ((k : Int)).toNat tHk.dflt).2.1.length), show a + (z - a) = z by omega, show a + (z + (q.getD ((k : Int)).toNat tHk.dflt).2.1.length - a) = z + (q.getD ((k : Int)).toNat tHk.dflt).2.1.length by omega] at hC
    obtain ⟨R4, hR4⟩ : ∃ R, R = evs ((z + (q.getD ((k : Int)).toNat tHk.dflt).2.1.length : Nat) : Int) (M.drop (z + (q.getD ((k : Int)).toNat tHk.dflt).2.1.length)) (q.drop (k + 1)) := ⟨_, rfl⟩
    rw [← hR4] at hC
    obtain ⟨R3, hR3⟩ : ∃ R, R = rD M z (q.getD ((k : Int)).toNat tHk.dflt).2.1 0 R4 := ⟨_, rfl⟩
    rw [← hR3] at hC
    obtain ⟨R2, hR2⟩ : ∃ R, R = ((q.getD ((k : Int)).toNat tHk.dflt).2.2.drop 0).map (fun x => ((2 : Int), x)) ++ R3 := ⟨_, rfl⟩
    rw [← hR2] at hC
    replace hg := Lib.hid hg
    replace hR4 := Lib.hid hR4
    replace hR3 := Lib.hid hR3
    replace hR2 := Lib.hid hR2
    replace hC := Lib.hid hC
    replace hc2 := Lib.hid hc2
    clear hze
    (repeat' (first | (with_reducible refine Cend.go ?_) | (with_reducible refine Step.mk True.intro ?_) | (with_reducible refine Step.mk ?_ ?_; focus (((try simp only [true_and, and_true, and_self, kmin, kmax, decide_eq_true_eq, decide_eq_false_iff_not, castD_self, castL_self, List.length_cons, List.length_nil, List.length_append, Int.natCast_add] at *) <;> omega))) | (with_reducible refine Step.mk ?_ ?_) | (with_reducible refine Way.t1 ?_) | (with_reducible refine Way.f1 ?_) | ((with_reducible refine Way.dec (fun _ => ?_) (fun _ => ?_)) <;> try (exfalso; omega)) | (with_reducible refine Way.nt ?_) | (with_reducible refine Way.mk (fun _ => ?_) (fun _ => ?_)) | (with_reducible refine Drawn.mk (by kernel_rfl) ?_) | (refine Run.mk ?_)))
    refine loop_by (X := Nat × Nat × List Hk × Option Hk) (fun x => [.put 0 (.v false [.d (.slice tMid) M]), .put 4 (.v false [.p 4 0]), .put 5 (.v false [.p 5 0]), .put 7 (.v false [.fn 76 [5]]), .put 6 (.v false [.d (.int .i64) (x.1 : Int)]), .put 9 (.v false [.p 9 0]), .put 18 (.v false [.d (.slice tHk) q]), .put 19 (.v false [.d (.int .i64) (q.length : Int)]), .put 20 (.v false [.d (.int .i64) (k : Int)])])
      (fun x => .put 4 (.box 41 [.nl]) :: .put 9 (.box 76 (tHk.leaves (q.getD ((k : Int)).toNat tHk.dflt))) :: colH 5 (x.2.1 : Int) x.2.2.1 x.2.2.2) (fun x => a ≤ x.1 ∧ (x.1 ≤ a ∨ x.1 ≤ z) ∧ CI W x.2.1 x.2.2.1 x.2.2.2 (rK M z x.1 R2)) (fun x => z - x.1) (a, n, D, cu) ⟨Nat.le_refl _, .inl (Nat.le_refl _), hC.out⟩ (by (refine Wk.keepT _ (colH_tok) (by repeat (first | exact TlO.base | refine TlO.put rfl ?_ | refine TlO.scr rfl rfl ?_)) (by repeat (first | exact TlN.base | refine TlN.put rfl ?_)) ?_ <;> repeat' (first | exact True.intro | refine And.intro rfl ?_ | refine And.intro (congrArg (fun z : Int => AV.v false [Lf.d (.int .i64) z]) (by first | omega | (simp only [Int.natCast_add, List.length_cons, List.length_append, List.length_nil]; omega))) ?_ | refine And.intro ?_ ?_))) ?_
    clear hC bD bo bn bN D cu n
    rintro ⟨b, n, D, cu⟩ ⟨hb1, hb2, hC⟩
    dsimp only at hb1 hb2 hC ⊢
    by_cases hbz : b < z
    · have hzM : z < M.length := by omega
      have hbM : b < M.length := by omega
      have gm := getD_at (a := M) tMid.dflt hbM
      rw [rK_step hbz hbM, ← gm, kev_eq] at hC
      obtain ⟨R5, hR5⟩ : ∃ R, R = ((if (M.getD ((b : Int)).toNat tMid.dflt).1 = true then ((2 : Int), (M.getD ((b : Int)).toNat tMid.dflt).2.1) else (0, ByteArray.empty)) :: rK M z (b + 1) R2) := ⟨_, rfl⟩
      rw [← hR5] at hC
      have hbl : (M.getD ((b : Int)).toNat tMid.dflt).2.2.length ≤ 1000000 := by
        have h9 := hC.2.2.2.2
        rw [List.length_append, List.length_map] at h9
        have h8 : ((M.getD ((b : Int)).toNat tMid.dflt).2.2.drop 0).length = (M.getD ((b : Int)).toNat tMid.dflt).2.2.length := rfl
        omega
      replace gm := Lib.hid gm
      replace hR5 := Lib.hid hR5
      replace hC := Lib.hid hC
      (repeat' (first | (with_reducible refine Cend.go ?_) | (with_reducible refine Step.mk True.intro ?_) | (with_reducible refine Step.mk ?_ ?_; focus (((try simp only [true_and, and_true, and_self, kmin, kmax, decide_eq_true_eq, decide_eq_false_iff_not, castD_self, castL_self, List.length_cons, List.length_nil, List.length_append, Int.natCast_add] at *) <;> omega))) | (with_reducible refine Step.mk ?_ ?_) | (with_reducible refine Way.t1 ?_) | (with_reducible refine Way.f1 ?_) | ((with_reducible refine Way.dec (fun _ => ?_) (fun _ => ?_)) <;> try (exfalso; omega)) | (with_reducible refine Way.nt ?_) | (with_reducible refine Way.mk (fun _ => ?_) (fun _ => ?_)) | (with_reducible refine Drawn.mk (by kernel_rfl) ?_) | (refine Run.mk ?_)))
      show LoopG (cH 4 _) _ _ _ _ _ _ _
      refine loop_by (X := Nat × Nat × List Hk × Option Hk) (fun x => [.put 1 (.v false [.p 5 0]), .put 2 (.v false [.p 36002 0]), .put 6 (.v false [.d (.slice .str) (M.getD ((b : Int)).toNat tMid.dflt).2.2]), .put 7 (.v false [.d (.int .i64) ((M.getD ((b : Int)).toNat tMid.dflt).2.2.length : Int)]), .put 8 (.v false [.d (.int .i64) (x.1 : Int)]), .mark, .put 0 (.v false [.d (.slice tMid) M]), .put 4 (.v false [.p 4 0]), .put 5 (.v false [.p 5 0]), .put 7 (.v false [.fn 76 [5]]), .put 6 (.v false [.d (.int .i64) (b : Int)]), .put 9 (.v false [.p 9 0]), .put 18 (.v false [.d (.slice tHk) q]), .put 19 (.v false [.d (.int .i64) (q.length : Int)]), .put 20 (.v false [.d (.int .i64) (k : Int)])])
        (fun x => .put 4 (.box 41 [.nl]) :: .put 9 (.box 76 (tHk.leaves (q.getD ((k : Int)).toNat tHk.dflt))) :: .put 36002 (.box 78 (tMid.leaves (M.getD ((b : Int)).toNat tMid.dflt))) :: colH 5 (x.2.1 : Int) x.2.2.1 x.2.2.2) (fun x => x.1 ≤ (M.getD ((b : Int)).toNat tMid.dflt).2.2.length ∧ CI W x.2.1 x.2.2.1 x.2.2.2 (((M.getD ((b : Int)).toNat tMid.dflt).2.2.drop x.1).map (fun s => ((1 : Int), s)) ++ R5)) (fun x => (M.getD ((b : Int)).toNat tMid.dflt).2.2.length - x.1) (0, n, D, cu) ⟨Nat.zero_le _, hC.out⟩ (by (refine Wk.keepT _ (colH_tok) (by repeat (first | exact TlO.base | refine TlO.put rfl ?_ | refine TlO.scr rfl rfl ?_)) (by repeat (first | exact TlN.base | refine TlN.put rfl ?_)) ?_ <;> repeat' (first | exact True.intro | refine And.intro rfl ?_ | refine And.intro (congrArg (fun z : Int => AV.v false [Lf.d (.int .i64) z]) (by first | omega | (simp only [Int.natCast_add, List.length_cons, List.length_append, List.length_nil]; omega))) ?_ | refine And.intro ?_ ?_))) ?_
      clear hC D cu n
      rintro ⟨j, n, D, cu⟩ ⟨hj, hC⟩
      dsimp only at hj hC ⊢
      obtain ⟨bD, bo, bn, bN⟩ := hC.bd
      by_cases hjl : j < (M.getD ((b : Int)).toNat tMid.dflt).2.2.length
      · have gx : (M.getD ((b : Int)).toNat tMid.dflt).2.2.getD ((j : Int)).toNat Ty.str.dflt = (M.getD ((b : Int)).toNat tMid.dflt).2.2[j] := gdS hjl
        rw [map_drop_cons hjl, ← gx] at hC
        have hC2 := CI.del hC
        replace gx := Lib.hid gx
        replace hC2 := Lib.hid hC2
        replace hC := Lib.hid hC
        rcases cu with _ | ⟨a0, o, nn⟩
        · dsimp only [colH]
          (repeat' (first | (with_reducible refine Cend.go ?_) | (with_reducible refine Step.mk True.intro ?_) | (with_reducible refine Step.mk ?_ ?_; focus (((try simp only [true_and, and_true, and_self, kmin, kmax, decide_eq_true_eq, decide_eq_false_iff_not, castD_self, castL_self, List.length_cons, List.length_nil, List.length_append, Int.natCast_add] at *) <;> omega))) | (with_reducible refine Step.mk ?_ ?_) | (with_reducible refine Way.t1 ?_) | (with_reducible refine Way.f1 ?_) | ((with_reducible refine Way.dec (fun _ => ?_) (fun _ => ?_)) <;> try (exfalso; omega)) | (with_reducible refine Way.nt ?_) | (with_reducible refine Way.mk (fun _ => ?_) (fun _ => ?_)) | (with_reducible refine Drawn.mk (by kernel_rfl) ?_) | (refine Run.mk ?_)))
          refine Back.by (j + 1, n + 1, D, some ((n : Int), [(M.getD ((b : Int)).toNat tMid.dflt).2.2.getD ((j : Int)).toNat Ty.str.dflt], [])) ?_ ?_ ?_
          · refine (Wk.nilrox 36014007020 2 93 9 .str rfl rfl rfl).trans ?_
            (refine Wk.ren [(91, 36014007020), (92, 36014014)] rfl ?_ ?_ <;> repeat' (first | exact True.intro | refine And.intro rfl ?_ | refine And.intro (congrArg (fun z : Int => AV.v false [Lf.d (.int .i64) z]) (by first | omega | (simp only [Int.natCast_add, List.length_cons, List.length_append, List.length_nil]; omega))) ?_ | refine And.intro ?_ ?_))
          · exact ⟨hjl, hC2.out⟩
          · · show _ - (j + 1) < _ - j; omega
        · have bo' : o.length ≤ 1000000 := bo
          dsimp only [colH]
          (repeat' (first | (with_reducible refine Cend.go ?_) | (with_reducible refine Step.mk True.intro ?_) | (with_reducible refine Step.mk ?_ ?_; focus (((try simp only [true_and, and_true, and_self, kmin, kmax, decide_eq_true_eq, decide_eq_false_iff_not, castD_self, castL_self, List.length_cons, List.length_nil, List.length_append, Int.natCast_add] at *) <;> omega))) | (with_reducible refine Step.mk ?_ ?_) | (with_reducible refine Way.t1 ?_) | (with_reducible refine Way.f1 ?_) | ((with_reducible refine Way.dec (fun _ => ?_) (fun _ => ?_)) <;> try (exfalso; omega)) | (with_reducible refine Way.nt ?_) | (with_reducible refine Way.mk (fun _ => ?_) (fun _ => ?_)) | (with_reducible refine Drawn.mk (by kernel_rfl) ?_) | (refine Run.mk ?_)))
          (refine Back.by ((j + 1, n + 1, D, some (a0, o ++ [(M.getD ((b : Int)).toNat tMid.dflt).2.2.getD ((j : Int)).toNat Ty.str.dflt], nn))) ?_ ?_ ?_; focus (refine Wk.ren [(92, 36014014)] rfl ?_ ?_ <;> repeat' (first | exact True.intro | refine And.intro rfl ?_ | refine And.intro (congrArg (fun z : Int => AV.v false [Lf.d (.int .i64) z]) (by first | omega | (simp only [Int.natCast_add, List.length_cons, List.length_append, List.length_nil]; omega))) ?_ | refine And.intro ?_ ?_)))
          · exact ⟨hjl, hC2.out⟩
          · · show _ - (j + 1) < _ - j; omega
      · rw [map_drop_nil hjl, hR5.out] at hC
        by_cases hins : (M.getD ((b : Int)).toNat tMid.dflt).1 = true
        · rw [if_pos hins] at hC
          have hC2 := CI.ins hC
          replace hins := Lib.hid hins
          replace hC2 := Lib.hid hC2
          replace hC := Lib.hid hC
          rcases cu with _ | ⟨a0, o, nn⟩
          · dsimp only [colH]
            (repeat' (first | (with_reducible refine Cend.go ?_) | (with_reducible refine Step.mk True.intro ?_) | (with_reducible refine Step.mk ?_ ?_; focus (((try simp only [true_and, and_true, and_self, kmin, kmax, decide_eq_true_eq, decide_eq_false_iff_not, castD_self, castL_self, List.length_cons, List.length_nil, List.length_append, Int.natCast_add] at *) <;> omega))) | (with_reducible refine Step.mk ?_ ?_) | (with_reducible refine Way.t1 ?_) | (with_reducible refine Way.f1 ?_) | ((with_reducible refine Way.dec (fun _ => ?_) (fun _ => ?_)) <;> try (exfalso; omega)) | (with_reducible refine Way.nt ?_) | ((with_reducible refine Way.mk (fun _ => ?_) (fun _ => ?_)) <;> try (exfalso; rename_i hw; first | exact Bool.noConfusion ((Go.RowKit.Hid.out hins).symm.trans hw) | exact Bool.noConfusion (hw.symm.trans (Go.RowKit.Hid.out hins)))) | (with_reducible refine Drawn.mk (by kernel_rfl) ?_) | (refine Run.mk ?_)))
            refine Back.by (b + 1, n, D, some ((n : Int), [], [(M.getD ((b : Int)).toNat tMid.dflt).2.1])) ?_ ?_ ?_
            · refine (Wk.nilrox 36020007020 1 92 9 .str rfl rfl rfl).trans ?_
              (refine Wk.ren [(91, 36020007020), (93, 36020014)] rfl ?_ ?_ <;> repeat' (first | exact True.intro | refine And.intro rfl ?_ | refine And.intro (congrArg (fun z : Int => AV.v false [Lf.d (.int .i64) z]) (by first | omega | (simp only [Int.natCast_add, List.length_cons, List.length_append, List.length_nil]; omega))) ?_ | refine And.intro ?_ ?_))
            · exact ⟨by omega, .inr hbz, hC2.out⟩
            · · show z - (b + 1) < z - b; omega
          · have bn' : nn.length ≤ 1000000 := bn
            dsimp only [colH]
            (repeat' (first | (with_reducible refine Cend.go ?_) | (with_reducible refine Step.mk True.intro ?_) | (with_reducible refine Step.mk ?_ ?_; focus (((try simp only [true_and, and_true, and_self, kmin, kmax, decide_eq_true_eq, decide_eq_false_iff_not, castD_self, castL_self, List.length_cons, List.length_nil, List.length_append, Int.natCast_add] at *) <;> omega))) | (with_reducible refine Step.mk ?_ ?_) | (with_reducible refine Way.t1 ?_) | (with_reducible refine Way.f1 ?_) | ((with_reducible refine Way.dec (fun _ => ?_) (fun _ => ?_)) <;> try (exfalso; omega)) | (with_reducible refine Way.nt ?_) | ((with_reducible refine Way.mk (fun _ => ?_) (fun _ => ?_)) <;> try (exfalso; rename_i hw; first | exact Bool.noConfusion ((Go.RowKit.Hid.out hins).symm.trans hw) | exact Bool.noConfusion (hw.symm.trans (Go.RowKit.Hid.out hins)))) | (with_reducible refine Drawn.mk (by kernel_rfl) ?_) | (refine Run.mk ?_)))
            (refine Back.by ((b + 1, n, D, some (a0, o, nn ++ [(M.getD ((b : Int)).toNat tMid.dflt).2.1]))) ?_ ?_ ?_; focus (refine Wk.ren [(93, 36020014)] rfl ?_ ?_ <;> repeat' (first | exact True.intro | refine And.intro rfl ?_ | refine And.intro (congrArg (fun z : Int => AV.v false [Lf.d (.int .i64) z]) (by first | omega | (simp only [Int.natCast_add, List.length_cons, List.length_append, List.length_nil]; omega))) ?_ | refine And.intro ?_ ?_)))
            · exact ⟨by omega, .inr hbz, hC2.out⟩
            · · show z - (b + 1) < z - b; omega
        · rw [if_neg hins] at hC
          have hC2 := CI.keep hC
          have hins2 : (M.getD ((b : Int)).toNat tMid.dflt).1 = false := by cases q : (M.getD ((b : Int)).toNat tMid.dflt).1; rfl; exact absurd q hins
          replace hins := Lib.hid hins
          replace hins2 := Lib.hid hins2
          replace hC2 := Lib.hid hC2
          replace hC := Lib.hid hC
          rcases cu with _ | ⟨a0, o, nn⟩
          · replace hC2 := hC2.out
            rw [show D ++ Option.toList (none : Option Hk) = D from List.append_nil D] at hC2
            replace hC2 := Lib.hid hC2
            dsimp only [colH]
            (repeat' (first | (with_reducible refine Cend.go ?_) | (with_reducible refine Step.mk True.intro ?_) | (with_reducible refine Step.mk ?_ ?_; focus (((try simp only [true_and, and_true, and_self, kmin, kmax, decide_eq_true_eq, decide_eq_false_iff_not, castD_self, castL_self, List.length_cons, List.length_nil, List.length_append, Int.natCast_add] at *) <;> omega))) | (with_reducible refine Step.mk ?_ ?_) | (with_reducible refine Way.t1 ?_) | (with_reducible refine Way.f1 ?_) | ((with_reducible refine Way.dec (fun _ => ?_) (fun _ => ?_)) <;> try (exfalso; omega)) | (with_reducible refine Way.nt ?_) | ((with_reducible refine Way.mk (fun _ => ?_) (fun _ => ?_)) <;> try (exfalso; rename_i hw; first | exact Bool.noConfusion ((Go.RowKit.Hid.out hins2).symm.trans hw) | exact Bool.noConfusion (hw.symm.trans (Go.RowKit.Hid.out hins2)))) | (with_reducible refine Drawn.mk (by kernel_rfl) ?_) | (refine Run.mk ?_)))
            (refine Back.by ((b + 1, n + 1, D, none)) ?_ ?_ ?_; focus (refine Wk.keep ?_ ?_ <;> repeat' (first | exact True.intro | refine And.intro rfl ?_ | refine And.intro (congrArg (fun z : Int => AV.v false [Lf.d (.int .i64) z]) (by first | omega | (simp only [Int.natCast_add, List.length_cons, List.length_append, List.length_nil]; omega))) ?_ | refine And.intro ?_ ?_)))
            · exact ⟨by omega, .inr hbz, hC2.out⟩
            · show z - (b + 1) < z - b; omega
          · dsimp only [colH]
            (repeat' (first | (with_reducible refine Cend.go ?_) | (with_reducible refine Step.mk True.intro ?_) | (with_reducible refine Step.mk ?_ ?_; focus (((try simp only [true_and, and_true, and_self, kmin, kmax, decide_eq_true_eq, decide_eq_false_iff_not, castD_self, castL_self, List.length_cons, List.length_nil, List.length_append, Int.natCast_add] at *) <;> omega))) | (with_reducible refine Step.mk ?_ ?_) | (with_reducible refine Way.t1 ?_) | (with_reducible refine Way.f1 ?_) | ((with_reducible refine Way.dec (fun _ => ?_) (fun _ => ?_)) <;> try (exfalso; omega)) | (with_reducible refine Way.nt ?_) | ((with_reducible refine Way.mk (fun _ => ?_) (fun _ => ?_)) <;> try (exfalso; rename_i hw; first | exact Bool.noConfusion ((Go.RowKit.Hid.out hins2).symm.trans hw) | exact Bool.noConfusion (hw.symm.trans (Go.RowKit.Hid.out hins2)))) | (with_reducible refine Drawn.mk (by kernel_rfl) ?_) | (refine Run.mk ?_)))
            refine Back.by (b + 1, n + 1, D ++ [(a0, o, nn)], none) ?_ ?_ ?_
            · refine (Wk.pack 91 (x := (a0, o, nn)) (l2 := []) (hl' := [.put 4 (.box 41 [.nl]), .put 9 (.box 76 (tHk.leaves (q.getD ((k : Int)).toNat tHk.dflt))), .put 5 (.box 99 [.o 91, .d (.int .i64) ((n : Int) + 1), .d .bool false])]) rfl rfl ⟨rfl, rfl, rfl, True.intro⟩ rfl rfl).trans ?_
              (refine Wk.keep ?_ ?_ <;> repeat' (first | exact True.intro | refine And.intro rfl ?_ | refine And.intro (congrArg (fun z : Int => AV.v false [Lf.d (.int .i64) z]) (by first | omega | (simp only [Int.natCast_add, List.length_cons, List.length_append, List.length_nil]; omega))) ?_ | refine And.intro ?_ ?_))
            · exact ⟨by omega, .inr hbz, hC2.out⟩
            · show z - (b + 1) < z - b; omega
    have hbe : b = z := by omega
    subst hbe
    rw [rK_end hbz, hR2.out] at hC
    replace hC := Lib.hid hC
    (repeat' (first | (with_reducible refine Cend.go ?_) | (with_reducible refine Step.mk True.intro ?_) | (with_reducible refine Step.mk ?_ ?_; focus (((try simp only [true_and, and_true, and_self, kmin, kmax, decide_eq_true_eq, decide_eq_false_iff_not, castD_self, castL_self, List.length_cons, List.length_nil, List.length_append, Int.natCast_add] at *) <;> omega))) | (with_reducible refine Step.mk ?_ ?_) | (with_reducible refine Way.t1 ?_) | (with_reducible refine Way.f1 ?_) | ((with_reducible refine Way.dec (fun _ => ?_) (fun _ => ?_)) <;> try (exfalso; omega)) | (with_reducible refine Way.nt ?_) | (with_reducible refine Way.mk (fun _ => ?_) (fun _ => ?_)) | (with_reducible refine Drawn.mk (by kernel_rfl) ?_) | (refine Run.mk ?_)))
    refine loop_by (X := Nat × Nat × List Hk × Option Hk) (fun x => [.put 0 (.v false [.d (.slice tMid) M]), .put 4 (.v false [.p 4 0]), .put 5 (.v false [.p 5 0]), .put 7 (.v false [.fn 76 [5]]), .put 6 (.v false [.d (.int .i64) (b : Int)]), .put 9 (.v false [.p 9 0]), .put 18 (.v false [.d (.slice tHk) q]), .put 19 (.v false [.d (.int .i64) (q.length : Int)]), .put 20 (.v false [.d (.int .i64) (k : Int)]), .put 37 (.v false [.d (.slice .str) (q.getD ((k : Int)).toNat tHk.dflt).2.2]), .put 38 (.v false [.d (.int .i64) ((q.getD ((k : Int)).toNat tHk.dflt).2.2.length : Int)]), .put 39 (.v false [.d (.int .i64) (x.1 : Int)])])
      (fun x => .put 4 (.box 41 [.nl]) :: .put 9 (.box 76 (tHk.leaves (q.getD ((k : Int)).toNat tHk.dflt))) :: colH 5 (x.2.1 : Int) x.2.2.1 x.2.2.2) (fun x => x.1 ≤ (q.getD ((k : Int)).toNat tHk.dflt).2.2.length ∧ CI W x.2.1 x.2.2.1 x.2.2.2 (((q.getD ((k : Int)).toNat tHk.dflt).2.2.drop x.1).map (fun s => ((2 : Int), s)) ++ R3)) (fun x => (q.getD ((k : Int)).toNat tHk.dflt).2.2.length - x.1) (0, n, D, cu) ⟨Nat.zero_le _, hC.out⟩ (by (refine Wk.keepT _ (colH_tok) (by repeat (first | exact TlO.base | refine TlO.put rfl ?_ | refine TlO.scr rfl rfl ?_)) (by repeat (first | exact TlN.base | refine TlN.put rfl ?_)) ?_ <;> repeat' (first | exact True.intro | refine And.intro rfl ?_ | refine And.intro (congrArg (fun z : Int => AV.v false [Lf.d (.int .i64) z]) (by first | omega | (simp only [Int.natCast_add, List.length_cons, List.length_append, List.length_nil]; omega))) ?_ | refine And.intro ?_ ?_))) ?_
    clear hC D cu n
    rintro ⟨j, n, D, cu⟩ ⟨hj, hC⟩
    dsimp only at hj hC ⊢
    obtain ⟨bD, bo, bn, bN⟩ := hC.bd
    by_cases hjl : j < (q.getD ((k : Int)).toNat tHk.dflt).2.2.length
    · have gx : (q.getD ((k : Int)).toNat tHk.dflt).2.2.getD ((j : Int)).toNat Ty.str.dflt = (q.getD ((k : Int)).toNat tHk.dflt).2.2[j] := gdS hjl
      rw [map_drop_cons hjl, ← gx] at hC
      have hC2 := CI.ins hC
      replace gx := Lib.hid gx
      replace hC2 := Lib.hid hC2
      replace hC := Lib.hid hC
      rcases cu with _ | ⟨a0, o, nn⟩
      · dsimp only [colH]
        (repeat' (first | (with_reducible refine Cend.go ?_) | (with_reducible refine Step.mk True.intro ?_) | (with_reducible refine Step.mk ?_ ?_; focus (((try simp only [true_and, and_true, and_self, kmin, kmax, decide_eq_true_eq, decide_eq_false_iff_not, castD_self, castL_self, List.length_cons, List.length_nil, List.length_append, Int.natCast_add] at *) <;> omega))) | (with_reducible refine Step.mk ?_ ?_) | (with_reducible refine Way.t1 ?_) | (with_reducible refine Way.f1 ?_) | ((with_reducible refine Way.dec (fun _ => ?_) (fun _ => ?_)) <;> try (exfalso; omega)) | (with_reducible refine Way.nt ?_) | (with_reducible refine Way.mk (fun _ => ?_) (fun _ => ?_)) | (with_reducible refine Drawn.mk (by kernel_rfl) ?_) | (refine Run.mk ?_)))
        refine Back.by (j + 1, n, D, some ((n : Int), [], [(q.getD ((k : Int)).toNat tHk.dflt).2.2.getD ((j : Int)).toNat Ty.str.dflt])) ?_ ?_ ?_
        · refine (Wk.nilrox 45007020 1 92 9 .str rfl rfl rfl).trans ?_
          (refine Wk.ren [(91, 45007020), (93, 45014)] rfl ?_ ?_ <;> repeat' (first | exact True.intro | refine And.intro rfl ?_ | refine And.intro (congrArg (fun z : Int => AV.v false [Lf.d (.int .i64) z]) (by first | omega | (simp only [Int.natCast_add, List.length_cons, List.length_append, List.length_nil]; omega))) ?_ | refine And.intro ?_ ?_))
        · exact ⟨hjl, hC2.out⟩
        · · show _ - (j + 1) < _ - j; omega
      · have bn' : nn.length ≤ 1000000 := bn
        dsimp only [colH]
        (repeat' (first | (with_reducible refine Cend.go ?_) | (with_reducible refine Step.mk True.intro ?_) | (with_reducible refine Step.mk ?_ ?_; focus (((try simp only [true_and, and_true, and_self, kmin, kmax, decide_eq_true_eq, decide_eq_false_iff_not, castD_self, castL_self, List.length_cons, List.length_nil, List.length_append, Int.natCast_add] at *) <;> omega))) | (with_reducible refine Step.mk ?_ ?_) | (with_reducible refine Way.t1 ?_) | (with_reducible refine Way.f1 ?_) | ((with_reducible refine Way.dec (fun _ => ?_) (fun _ => ?_)) <;> try (exfalso; omega)) | (with_reducible refine Way.nt ?_) | (with_reducible refine Way.mk (fun _ => ?_) (fun _ => ?_)) | (with_reducible refine Drawn.mk (by kernel_rfl) ?_) | (refine Run.mk ?_)))
        (refine Back.by ((j + 1, n, D, some (a0, o, nn ++ [(q.getD ((k : Int)).toNat tHk.dflt).2.2.getD ((j : Int)).toNat Ty.str.dflt]))) ?_ ?_ ?_; focus (refine Wk.ren [(93, 45014)] rfl ?_ ?_ <;> repeat' (first | exact True.intro | refine And.intro rfl ?_ | refine And.intro (congrArg (fun z : Int => AV.v false [Lf.d (.int .i64) z]) (by first | omega | (simp only [Int.natCast_add, List.length_cons, List.length_append, List.length_nil]; omega))) ?_ | refine And.intro ?_ ?_)))
        · exact ⟨hjl, hC2.out⟩
        · · show _ - (j + 1) < _ - j; omega
    rw [map_drop_nil hjl, hR3.out] at hC
    replace hC := Lib.hid hC
    (repeat' (first | (with_reducible refine Cend.go ?_) | (with_reducible refine Step.mk True.intro ?_) | (with_reducible refine Step.mk ?_ ?_; focus (((try simp only [true_and, and_true, and_self, kmin, kmax, decide_eq_true_eq, decide_eq_false_iff_not, castD_self, castL_self, List.length_cons, List.length_nil, List.length_append, Int.natCast_add] at *) <;> omega))) | (with_reducible refine Step.mk ?_ ?_) | (with_reducible refine Way.t1 ?_) | (with_reducible refine Way.f1 ?_) | ((with_reducible refine Way.dec (fun _ => ?_) (fun _ => ?_)) <;> try (exfalso; omega)) | (with_reducible refine Way.nt ?_) | (with_reducible refine Way.mk (fun _ => ?_) (fun _ => ?_)) | (with_reducible refine Drawn.mk (by kernel_rfl) ?_) | (refine Run.mk ?_)))
    refine loop_by (X := Nat × Nat × List Hk × Option Hk) (fun x => [.put 0 (.v false [.d (.slice tMid) M]), .put 4 (.v false [.p 4 0]), .put 5 (.v false [.p 5 0]), .put 7 (.v false [.fn 76 [5]]), .put 6 (.v false [.d (.int .i64) ((b + x.1 : Nat) : Int)]), .put 9 (.v false [.p 9 0]), .put 18 (.v false [.d (.slice tHk) q]), .put 19 (.v false [.d (.int .i64) (q.length : Int)]), .put 20 (.v false [.d (.int .i64) (k : Int)]), .put 47 (.v false [.d (.slice .str) (q.getD ((k : Int)).toNat tHk.dflt).2.1]), .put 48 (.v false [.d (.int .i64) ((q.getD ((k : Int)).toNat tHk.dflt).2.1.length : Int)]), .put 49 (.v false [.d (.int .i64) (x.1 : Int)])])
      (fun x => .put 4 (.box 41 [.nl]) :: .put 9 (.box 76 (tHk.leaves (q.getD ((k : Int)).toNat tHk.dflt))) :: colH 5 (x.2.1 : Int) x.2.2.1 x.2.2.2) (fun x => x.1 ≤ (q.getD ((k : Int)).toNat tHk.dflt).2.1.length ∧ CI W x.2.1 x.2.2.1 x.2.2.2 (rD M b (q.getD ((k : Int)).toNat tHk.dflt).2.1 x.1 R4)) (fun x => (q.getD ((k : Int)).toNat tHk.dflt).2.1.length - x.1) (0, n, D, cu) ⟨Nat.zero_le _, hC.out⟩ (by (refine Wk.keepT _ (colH_tok) (by repeat (first | exact TlO.base | refine TlO.put rfl ?_ | refine TlO.scr rfl rfl ?_)) (by repeat (first | exact TlN.base | refine TlN.put rfl ?_)) ?_ <;> repeat' (first | exact True.intro | refine And.intro rfl ?_ | refine And.intro (congrArg (fun z : Int => AV.v false [Lf.d (.int .i64) z]) (by first | omega | (simp only [Int.natCast_add, List.length_cons, List.length_append, List.length_nil]; omega))) ?_ | refine And.intro ?_ ?_))) ?_
    clear hC bD bo bn bN D cu n
    rintro ⟨j, n, D, cu⟩ ⟨hj, hC⟩
    dsimp only at hj hC ⊢
    by_cases hjl : j < (q.getD ((k : Int)).toNat tHk.dflt).2.1.length
    · have hbM : b + j < M.length := by omega
      have gm : M.getD (((b + j : Nat) : Int)).toNat tMid.dflt = M[b + j] := getD_at (a := M) tMid.dflt hbM
      have go : (q.getD ((k : Int)).toNat tHk.dflt).2.1.getD ((j : Int)).toNat Ty.str.dflt = (q.getD ((k : Int)).toNat tHk.dflt).2.1[j] := gdS hjl
      rw [rD_step hjl hbM, ← gm, ← go, dev_eq] at hC
      obtain ⟨R5, hR5⟩ : ∃ R, R = ((if (M.getD (((b + j : Nat) : Int)).toNat tMid.dflt).1 = true then [] else [((1 : Int), ((q.getD ((k : Int)).toNat tHk.dflt).2.1.getD ((j : Int)).toNat Ty.str.dflt))]) ++ rD M b (q.getD ((k : Int)).toNat tHk.dflt).2.1 (j + 1) R4) := ⟨_, rfl⟩
      rw [← hR5] at hC
      have hbl : (M.getD (((b + j : Nat) : Int)).toNat tMid.dflt).2.2.length ≤ 1000000 := by
        have h9 := hC.2.2.2.2
        rw [List.length_append, List.length_map] at h9
        have h8 : ((M.getD (((b + j : Nat) : Int)).toNat tMid.dflt).2.2.drop 0).length = (M.getD (((b + j : Nat) : Int)).toNat tMid.dflt).2.2.length := rfl
        omega
      replace gm := Lib.hid gm
      replace go := Lib.hid go
      replace hR5 := Lib.hid hR5
      replace hC := Lib.hid hC
      (repeat' (first | (with_reducible refine Cend.go ?_) | (with_reducible refine Step.mk True.intro ?_) | (with_reducible refine Step.mk ?_ ?_; focus (((try simp only [true_and, and_true, and_self, kmin, kmax, decide_eq_true_eq, decide_eq_false_iff_not, castD_self, castL_self, List.length_cons, List.length_nil, List.length_append, Int.natCast_add] at *) <;> omega))) | (with_reducible refine Step.mk ?_ ?_) | (with_reducible refine Way.t1 ?_) | (with_reducible refine Way.f1 ?_) | ((with_reducible refine Way.dec (fun _ => ?_) (fun _ => ?_)) <;> try (exfalso; omega)) | (with_reducible refine Way.nt ?_) | (with_reducible refine Way.mk (fun _ => ?_) (fun _ => ?_)) | (with_reducible refine Drawn.mk (by kernel_rfl) ?_) | (refine Run.mk ?_)))
      refine loop_by (X := Nat × Nat × List Hk × Option Hk) (fun x => [.put 0 (.v false [.d (.slice tMid) M]), .put 4 (.v false [.p 4 0]), .put 5 (.v false [.p 5 0]), .put 7 (.v false [.fn 76 [5]]), .put 6 (.v false [.d (.int .i64) ((b + j : Nat) : Int)]), .put 9 (.v false [.p 9 0]), .put 18 (.v false [.d (.slice tHk) q]), .put 19 (.v false [.d (.int .i64) (q.length : Int)]), .put 20 (.v false [.d (.int .i64) (k : Int)]), .put 13 (.v false [.d .str ((q.getD ((k : Int)).toNat tHk.dflt).2.1.getD ((j : Int)).toNat Ty.str.dflt)]), .put 47 (.v false [.d (.slice .str) (q.getD ((k : Int)).toNat tHk.dflt).2.1]), .put 48 (.v false [.d (.int .i64) ((q.getD ((k : Int)).toNat tHk.dflt).2.1.length : Int)]), .put 49 (.v false [.d (.int .i64) (j : Int)]), .put 57 (.v false [.d (.slice .str) (M.getD (((b + j : Nat) : Int)).toNat tMid.dflt).2.2]), .put 58 (.v false [.d (.int .i64) ((M.getD (((b + j : Nat) : Int)).toNat tMid.dflt).2.2.length : Int)]), .put 59 (.v false [.d (.int .i64) (x.1 : Int)])])
        (fun x => .put 4 (.box 41 [.nl]) :: .put 9 (.box 76 (tHk.leaves (q.getD ((k : Int)).toNat tHk.dflt))) :: colH 5 (x.2.1 : Int) x.2.2.1 x.2.2.2) (fun x => x.1 ≤ (M.getD (((b + j : Nat) : Int)).toNat tMid.dflt).2.2.length ∧ CI W x.2.1 x.2.2.1 x.2.2.2 (((M.getD (((b + j : Nat) : Int)).toNat tMid.dflt).2.2.drop x.1).map (fun s => ((1 : Int), s)) ++ R5)) (fun x => (M.getD (((b + j : Nat) : Int)).toNat tMid.dflt).2.2.length - x.1) (0, n, D, cu) ⟨Nat.zero_le _, hC.out⟩ (by (refine Wk.keepT _ (colH_tok) (by repeat (first | exact TlO.base | refine TlO.put rfl ?_ | refine TlO.scr rfl rfl ?_)) (by repeat (first | exact TlN.base | refine TlN.put rfl ?_)) ?_ <;> repeat' (first | exact True.intro | refine And.intro rfl ?_ | refine And.intro (congrArg (fun z : Int => AV.v false [Lf.d (.int .i64) z]) (by first | omega | (simp only [Int.natCast_add, List.length_cons, List.length_append, List.length_nil]; omega))) ?_ | refine And.intro ?_ ?_))) ?_
      clear hC D cu n
      rintro ⟨i, n, D, cu⟩ ⟨hi, hC⟩
      dsimp only at hi hC ⊢
      obtain ⟨bD, bo, bn, bN⟩ := hC.bd
      by_cases hil : i < (M.getD (((b + j : Nat) : Int)).toNat tMid.dflt).2.2.length
      · have gx : (M.getD (((b + j : Nat) : Int)).toNat tMid.dflt).2.2.getD ((i : Int)).toNat Ty.str.dflt = (M.getD (((b + j : Nat) : Int)).toNat tMid.dflt).2.2[i] := gdS hil
        rw [map_drop_cons hil, ← gx] at hC
        have hC2 := CI.del hC
        replace gx := Lib.hid gx
        replace hC2 := Lib.hid hC2
        replace hC := Lib.hid hC
        rcases cu with _ | ⟨a0, o, nn⟩
        · dsimp only [colH]
          (repeat' (first | (with_reducible refine Cend.go ?_) | (with_reducible refine Step.mk True.intro ?_) | (with_reducible refine Step.mk ?_ ?_; focus (((try simp only [true_and, and_true, and_self, kmin, kmax, decide_eq_true_eq, decide_eq_false_iff_not, castD_self, castL_self, List.length_cons, List.length_nil, List.length_append, Int.natCast_add] at *) <;> omega))) | (with_reducible refine Step.mk ?_ ?_) | (with_reducible refine Way.t1 ?_) | (with_reducible refine Way.f1 ?_) | ((with_reducible refine Way.dec (fun _ => ?_) (fun _ => ?_)) <;> try (exfalso; omega)) | (with_reducible refine Way.nt ?_) | (with_reducible refine Way.mk (fun _ => ?_) (fun _ => ?_)) | (with_reducible refine Drawn.mk (by kernel_rfl) ?_) | (refine Run.mk ?_)))
          refine Back.by (i + 1, n + 1, D, some ((n : Int), [(M.getD (((b + j : Nat) : Int)).toNat tMid.dflt).2.2.getD ((i : Int)).toNat Ty.str.dflt], [])) ?_ ?_ ?_
          · refine (Wk.nilrox 65007020 2 93 9 .str rfl rfl rfl).trans ?_
            (refine Wk.ren [(91, 65007020), (92, 65014)] rfl ?_ ?_ <;> repeat' (first | exact True.intro | refine And.intro rfl ?_ | refine And.intro (congrArg (fun z : Int => AV.v false [Lf.d (.int .i64) z]) (by first | omega | (simp only [Int.natCast_add, List.length_cons, List.length_append, List.length_nil]; omega))) ?_ | refine And.intro ?_ ?_))
          · exact ⟨hil, hC2.out⟩
          · · show _ - (i + 1) < _ - i; omega
        · have bo' : o.length ≤ 1000000 := bo
          dsimp only [colH]
          (repeat' (first | (with_reducible refine Cend.go ?_) | (with_reducible refine Step.mk True.intro ?_) | (with_reducible refine Step.mk ?_ ?_; focus (((try simp only [true_and, and_true, and_self, kmin, kmax, decide_eq_true_eq, decide_eq_false_iff_not, castD_self, castL_self, List.length_cons, List.length_nil, List.length_append, Int.natCast_add] at *) <;> omega))) | (with_reducible refine Step.mk ?_ ?_) | (with_reducible refine Way.t1 ?_) | (with_reducible refine Way.f1 ?_) | ((with_reducible refine Way.dec (fun _ => ?_) (fun _ => ?_)) <;> try (exfalso; omega)) | (with_reducible refine Way.nt ?_) | (with_reducible refine Way.mk (fun _ => ?_) (fun _ => ?_)) | (with_reducible refine Drawn.mk (by kernel_rfl) ?_) | (refine Run.mk ?_)))
          (refine Back.by ((i + 1, n + 1, D, some (a0, o ++ [(M.getD (((b + j : Nat) : Int)).toNat tMid.dflt).2.2.getD ((i : Int)).toNat Ty.str.dflt], nn))) ?_ ?_ ?_; focus (refine Wk.ren [(92, 65014)] rfl ?_ ?_ <;> repeat' (first | exact True.intro | refine And.intro rfl ?_ | refine And.intro (congrArg (fun z : Int => AV.v false [Lf.d (.int .i64) z]) (by first | omega | (simp only [Int.natCast_add, List.length_cons, List.length_append, List.length_nil]; omega))) ?_ | refine And.intro ?_ ?_)))
          · exact ⟨hil, hC2.out⟩
          · · show _ - (i + 1) < _ - i; omega
      · rw [map_drop_nil hil, hR5.out] at hC
        by_cases hins : (M.getD (((b + j : Nat) : Int)).toNat tMid.dflt).1 = true
        · rw [if_pos hins] at hC
          replace hins := Lib.hid hins
          replace hC := Lib.hid hC
          (repeat' (first | (with_reducible refine Cend.go ?_) | (with_reducible refine Step.mk True.intro ?_) | (with_reducible refine Step.mk ?_ ?_; focus (((try simp only [true_and, and_true, and_self, kmin, kmax, decide_eq_true_eq, decide_eq_false_iff_not, castD_self, castL_self, List.length_cons, List.length_nil, List.length_append, Int.natCast_add] at *) <;> omega))) | (with_reducible refine Step.mk ?_ ?_) | (with_reducible refine Way.t1 ?_) | (with_reducible refine Way.f1 ?_) | ((with_reducible refine Way.dec (fun _ => ?_) (fun _ => ?_)) <;> try (exfalso; omega)) | (with_reducible refine Way.nt ?_) | ((with_reducible refine Way.mk (fun _ => ?_) (fun _ => ?_)) <;> try (exfalso; rename_i hw; first | exact Bool.noConfusion ((Go.RowKit.Hid.out hins).symm.trans hw) | exact Bool.noConfusion (hw.symm.trans (Go.RowKit.Hid.out hins)))) | (with_reducible refine Drawn.mk (by kernel_rfl) ?_) | (refine Run.mk ?_)))
          (refine Back.by ((j + 1, n, D, cu)) ?_ ?_ ?_; focus (refine Wk.keepT _ (colH_tok) (by repeat (first | exact TlO.base | refine TlO.put rfl ?_ | refine TlO.scr rfl rfl ?_)) (by repeat (first | exact TlN.base | refine TlN.put rfl ?_)) ?_ <;> repeat' (first | exact True.intro | refine And.intro rfl ?_ | refine And.intro (congrArg (fun z : Int => AV.v false [Lf.d (.int .i64) z]) (by first | omega | (simp only [Int.natCast_add, List.length_cons, List.length_append, List.length_nil]; omega))) ?_ | refine And.intro ?_ ?_)))
          · exact ⟨hjl, hC.out⟩
          · show _ - (j + 1) < _ - j; omega
        · rw [if_neg hins] at hC
          have hC2 := CI.del hC
          have hins2 : (M.getD (((b + j : Nat) : Int)).toNat tMid.dflt).1 = false := by cases q : (M.getD (((b + j : Nat) : Int)).toNat tMid.dflt).1; rfl; exact absurd q hins
          replace hins := Lib.hid hins
          replace hins2 := Lib.hid hins2
          replace hC2 := Lib.hid hC2
          replace hC := Lib.hid hC
          rcases cu with _ | ⟨a0, o, nn⟩
          · dsimp only [colH]
            (repeat' (first | (with_reducible refine Cend.go ?_) | (with_reducible refine Step.mk True.intro ?_) | (with_reducible refine Step.mk ?_ ?_; focus (((try simp only [true_and, and_true, and_self, kmin, kmax, decide_eq_true_eq, decide_eq_false_iff_not, castD_self, castL_self, List.length_cons, List.length_nil, List.length_append, Int.natCast_add] at *) <;> omega))) | (with_reducible refine Step.mk ?_ ?_) | (with_reducible refine Way.t1 ?_) | (with_reducible refine Way.f1 ?_) | ((with_reducible refine Way.dec (fun _ => ?_) (fun _ => ?_)) <;> try (exfalso; omega)) | (with_reducible refine Way.nt ?_) | ((with_reducible refine Way.mk (fun _ => ?_) (fun _ => ?_)) <;> try (exfalso; rename_i hw; first | exact Bool.noConfusion ((Go.RowKit.Hid.out hins2).symm.trans hw) | exact Bool.noConfusion (hw.symm.trans (Go.RowKit.Hid.out hins2)))) | (with_reducible refine Drawn.mk (by kernel_rfl) ?_) | (refine Run.mk ?_)))
            refine Back.by (j + 1, n + 1, D, some ((n : Int), [((q.getD ((k : Int)).toNat tHk.dflt).2.1.getD ((j : Int)).toNat Ty.str.dflt)], [])) ?_ ?_ ?_
            · refine (Wk.nilrox 74007020 2 93 9 .str rfl rfl rfl).trans ?_
              (refine Wk.ren [(91, 74007020), (92, 74014)] rfl ?_ ?_ <;> repeat' (first | exact True.intro | refine And.intro rfl ?_ | refine And.intro (congrArg (fun z : Int => AV.v false [Lf.d (.int .i64) z]) (by first | omega | (simp only [Int.natCast_add, List.length_cons, List.length_append, List.length_nil]; omega))) ?_ | refine And.intro ?_ ?_))
            · exact ⟨hjl, hC2.out⟩
            · · show _ - (j + 1) < _ - j; omega
          · have bo' : o.length ≤ 1000000 := bo
            dsimp only [colH]
            (repeat' (first | (with_reducible refine Cend.go ?_) | (with_reducible refine Step.mk True.intro ?_) | (with_reducible refine Step.mk ?_ ?_; focus (((try simp only [true_and, and_true, and_self, kmin, kmax, decide_eq_true_eq, decide_eq_false_iff_not, castD_self, castL_self, List.length_cons, List.length_nil, List.length_append, Int.natCast_add] at *) <;> omega))) | (with_reducible refine Step.mk ?_ ?_) | (with_reducible refine Way.t1 ?_) | (with_reducible refine Way.f1 ?_) | ((with_reducible refine Way.dec (fun _ => ?_) (fun _ => ?_)) <;> try (exfalso; omega)) | (with_reducible refine Way.nt ?_) | ((with_reducible refine Way.mk (fun _ => ?_) (fun _ => ?_)) <;> try (exfalso; rename_i hw; first | exact Bool.noConfusion ((Go.RowKit.Hid.out hins2).symm.trans hw) | exact Bool.noConfusion (hw.symm.trans (Go.RowKit.Hid.out hins2)))) | (with_reducible refine Drawn.mk (by kernel_rfl) ?_) | (refine Run.mk ?_)))
            (refine Back.by ((j + 1, n + 1, D, some (a0, o ++ [((q.getD ((k : Int)).toNat tHk.dflt).2.1.getD ((j : Int)).toNat Ty.str.dflt)], nn))) ?_ ?_ ?_; focus (refine Wk.ren [(92, 74014)] rfl ?_ ?_ <;> repeat' (first | exact True.intro | refine And.intro rfl ?_ | refine And.intro (congrArg (fun z : Int => AV.v false [Lf.d (.int .i64) z]) (by first | omega | (simp only [Int.natCast_add, List.length_cons, List.length_append, List.length_nil]; omega))) ?_ | refine And.intro ?_ ?_)))
            · exact ⟨hjl, hC2.out⟩
            · · show _ - (j + 1) < _ - j; omega
    rw [rD_end hjl, hR4.out] at hC
    have hje : j = (q.getD ((k : Int)).toNat tHk.dflt).2.1.length := by omega
    obtain ⟨c1, c2⟩ : b + (q.getD ((k : Int)).toNat tHk.dflt).2.1.length ≤ 120 ∧ ch (((b + (q.getD ((k : Int)).toNat tHk.dflt).2.1.length : Nat) : Int) - 1) (q.drop (k + 1)) := ⟨by omega, ch_le (by omega) hc2.out⟩
    rw [← hje] at hC c1 c2
    replace c2 := Lib.hid c2
    replace hC := Lib.hid hC
    (repeat' (first | (with_reducible refine Cend.go ?_) | (with_reducible refine Step.mk True.intro ?_) | (with_reducible refine Step.mk ?_ ?_; focus (((try simp only [true_and, and_true, and_self, kmin, kmax, decide_eq_true_eq, decide_eq_false_iff_not, castD_self, castL_self, List.length_cons, List.length_nil, List.length_append, Int.natCast_add] at *) <;> omega))) | (with_reducible refine Step.mk ?_ ?_) | (with_reducible refine Way.t1 ?_) | (with_reducible refine Way.f1 ?_) | ((with_reducible refine Way.dec (fun _ => ?_) (fun _ => ?_)) <;> try (exfalso; omega)) | (with_reducible refine Way.nt ?_) | (with_reducible refine Way.mk (fun _ => ?_) (fun _ => ?_)) | (with_reducible refine Drawn.mk (by kernel_rfl) ?_) | (refine Run.mk ?_)))
    (refine Back.by ((k + 1, b + j, n, D, cu)) ?_ ?_ ?_; focus (refine Wk.keepT _ (colH_tok) (by repeat (first | exact TlO.base | refine TlO.put rfl ?_ | refine TlO.scr rfl rfl ?_)) (by repeat (first | exact TlN.base | refine TlN.put rfl ?_)) ?_ <;> repeat' (first | exact True.intro | refine And.intro rfl ?_ | refine And.intro (congrArg (fun z : Int => AV.v false [Lf.d (.int .i64) z]) (by first | omega | (simp only [Int.natCast_add, List.length_cons, List.length_append, List.length_nil]; omega))) ?_ | refine And.intro ?_ ?_)))
    · exact ⟨hlt, c1, c2.out, hC.out⟩
    · show q.length - (k + 1) < q.length - k; omega
  have hke : q.drop k = [] := List.drop_eq_nil_of_le (by omega)
  rw [hke] at hC
  replace hC : CI W n D cu (rA M a) := hC
  replace hC := Lib.hid hC
  clear hc bD bo bn bN hke
  (repeat' (first | (with_reducible refine Cend.go ?_) | (with_reducible refine Step.mk True.intro ?_) | (with_reducible refine Step.mk ?_ ?_; focus (((try simp only [true_and, and_true, and_self, kmin, kmax, decide_eq_true_eq, decide_eq_false_iff_not, castD_self, castL_self, List.length_cons, List.length_nil, List.length_append, Int.natCast_add] at *) <;> omega))) | (with_reducible refine Step.mk ?_ ?_) | (with_reducible refine Way.t1 ?_) | (with_reducible refine Way.f1 ?_) | ((with_reducible refine Way.dec (fun _ => ?_) (fun _ => ?_)) <;> try (exfalso; omega)) | (with_reducible refine Way.nt ?_) | (with_reducible refine Way.mk (fun _ => ?_) (fun _ => ?_)) | (with_reducible refine Drawn.mk (by kernel_rfl) ?_) | (refine Run.mk ?_)))
  refine loop_by (X := Nat × Nat × List Hk × Option Hk) (fun x => [.put 0 (.v false [.d (.slice tMid) M]), .put 4 (.v false [.p 4 0]), .put 5 (.v false [.p 5 0]), .put 7 (.v false [.fn 76 [5]]), .put 6 (.v false [.d (.int .i64) (x.1 : Int)])])
    (fun x => .put 4 (.box 41 [.nl]) :: colH 5 (x.2.1 : Int) x.2.2.1 x.2.2.2) (fun x => x.1 ≤ M.length ∧ CI W x.2.1 x.2.2.1 x.2.2.2 (rA M x.1)) (fun x => M.length - x.1) (a, n, D, cu) ⟨by dsimp only; omega, hC.out⟩ (by (refine Wk.keepT _ (colH_tok) (by repeat (first | exact TlO.base | refine TlO.put rfl ?_ | refine TlO.scr rfl rfl ?_)) (by repeat (first | exact TlN.base | refine TlN.put rfl ?_)) ?_ <;> repeat' (first | exact True.intro | refine And.intro rfl ?_ | refine And.intro (congrArg (fun z : Int => AV.v false [Lf.d (.int .i64) z]) (by first | omega | (simp only [Int.natCast_add, List.length_cons, List.length_append, List.length_nil]; omega))) ?_ | refine And.intro ?_ ?_))) ?_
  clear hC D cu n
  rintro ⟨b, n, D, cu⟩ ⟨hb1, hC⟩
  dsimp only at hb1 hC ⊢
  obtain ⟨bD, bo, bn, bN⟩ := hC.bd
  by_cases hbz : b < M.length
  · clear bD bo bn bN
    have hbM : b < M.length := by omega
    have gm := getD_at (a := M) tMid.dflt hbM
    rw [rA_step hbz, ← gm, kev_eq] at hC
    obtain ⟨R5, hR5⟩ : ∃ R, R = ((if (M.getD ((b : Int)).toNat tMid.dflt).1 = true then ((2 : Int), (M.getD ((b : Int)).toNat tMid.dflt).2.1) else (0, ByteArray.empty)) :: rA M (b + 1)) := ⟨_, rfl⟩
    rw [← hR5] at hC
    have hbl : (M.getD ((b : Int)).toNat tMid.dflt).2.2.length ≤ 1000000 := by
      have h9 := hC.2.2.2.2
      rw [List.length_append, List.length_map] at h9
      have h8 : ((M.getD ((b : Int)).toNat tMid.dflt).2.2.drop 0).length = (M.getD ((b : Int)).toNat tMid.dflt).2.2.length := rfl
      omega
    replace gm := Lib.hid gm
    replace hR5 := Lib.hid hR5
    replace hC := Lib.hid hC
    (repeat' (first | (with_reducible refine Cend.go ?_) | (with_reducible refine Step.mk True.intro ?_) | (with_reducible refine Step.mk ?_ ?_; focus (((try simp only [true_and, and_true, and_self, kmin, kmax, decide_eq_true_eq, decide_eq_false_iff_not, castD_self, castL_self, List.length_cons, List.length_nil, List.length_append, Int.natCast_add] at *) <;> omega))) | (with_reducible refine Step.mk ?_ ?_) | (with_reducible refine Way.t1 ?_) | (with_reducible refine Way.f1 ?_) | ((with_reducible refine Way.dec (fun _ => ?_) (fun _ => ?_)) <;> try (exfalso; omega)) | (with_reducible refine Way.nt ?_) | (with_reducible refine Way.mk (fun _ => ?_) (fun _ => ?_)) | (with_reducible refine Drawn.mk (by kernel_rfl) ?_) | (refine Run.mk ?_)))
    show LoopG (cH 4 _) _ _ _ _ _ _ _
    refine loop_by (X := Nat × Nat × List Hk × Option Hk) (fun x => [.put 1 (.v false [.p 5 0]), .put 2 (.v false [.p 90002 0]), .put 6 (.v false [.d (.slice .str) (M.getD ((b : Int)).toNat tMid.dflt).2.2]), .put 7 (.v false [.d (.int .i64) ((M.getD ((b : Int)).toNat tMid.dflt).2.2.length : Int)]), .put 8 (.v false [.d (.int .i64) (x.1 : Int)]), .mark, .put 0 (.v false [.d (.slice tMid) M]), .put 4 (.v false [.p 4 0]), .put 5 (.v false [.p 5 0]), .put 7 (.v false [.fn 76 [5]]), .put 6 (.v false [.d (.int .i64) (b : Int)])])
      (fun x => .put 4 (.box 41 [.nl]) :: .put 90002 (.box 78 (tMid.leaves (M.getD ((b : Int)).toNat tMid.dflt))) :: colH 5 (x.2.1 : Int) x.2.2.1 x.2.2.2) (fun x => x.1 ≤ (M.getD ((b : Int)).toNat tMid.dflt).2.2.length ∧ CI W x.2.1 x.2.2.1 x.2.2.2 (((M.getD ((b : Int)).toNat tMid.dflt).2.2.drop x.1).map (fun s => ((1 : Int), s)) ++ R5)) (fun x => (M.getD ((b : Int)).toNat tMid.dflt).2.2.length - x.1) (0, n, D, cu) ⟨Nat.zero_le _, hC.out⟩ (by (refine Wk.keepT _ (colH_tok) (by repeat (first | exact TlO.base | refine TlO.put rfl ?_ | refine TlO.scr rfl rfl ?_)) (by repeat (first | exact TlN.base | refine TlN.put rfl ?_)) ?_ <;> repeat' (first | exact True.intro | refine And.intro rfl ?_ | refine And.intro (congrArg (fun z : Int => AV.v false [Lf.d (.int .i64) z]) (by first | omega | (simp only [Int.natCast_add, List.length_cons, List.length_append, List.length_nil]; omega))) ?_ | refine And.intro ?_ ?_))) ?_
    clear hC D cu n
    rintro ⟨j, n, D, cu⟩ ⟨hj, hC⟩
    dsimp only at hj hC ⊢
    obtain ⟨bD, bo, bn, bN⟩ := hC.bd
    by_cases hjl : j < (M.getD ((b : Int)).toNat tMid.dflt).2.2.length
    · have gx : (M.getD ((b : Int)).toNat tMid.dflt).2.2.getD ((j : Int)).toNat Ty.str.dflt = (M.getD ((b : Int)).toNat tMid.dflt).2.2[j] := gdS hjl
      rw [map_drop_cons hjl, ← gx] at hC
      have hC2 := CI.del hC
      replace gx := Lib.hid gx
      replace hC2 := Lib.hid hC2
      replace hC := Lib.hid hC
      rcases cu with _ | ⟨a0, o, nn⟩
      · dsimp only [colH]
        (repeat' (first | (with_reducible refine Cend.go ?_) | (with_reducible refine Step.mk True.intro ?_) | (with_reducible refine Step.mk ?_ ?_; focus (((try simp only [true_and, and_true, and_self, kmin, kmax, decide_eq_true_eq, decide_eq_false_iff_not, castD_self, castL_self, List.length_cons, List.length_nil, List.length_append, Int.natCast_add] at *) <;> omega))) | (with_reducible refine Step.mk ?_ ?_) | (with_reducible refine Way.t1 ?_) | (with_reducible refine Way.f1 ?_) | ((with_reducible refine Way.dec (fun _ => ?_) (fun _ => ?_)) <;> try (exfalso; omega)) | (with_reducible refine Way.nt ?_) | (with_reducible refine Way.mk (fun _ => ?_) (fun _ => ?_)) | (with_reducible refine Drawn.mk (by kernel_rfl) ?_) | (refine Run.mk ?_)))
        refine Back.by (j + 1, n + 1, D, some ((n : Int), [(M.getD ((b : Int)).toNat tMid.dflt).2.2.getD ((j : Int)).toNat Ty.str.dflt], [])) ?_ ?_ ?_
        · refine (Wk.nilrox 90014007020 2 93 9 .str rfl rfl rfl).trans ?_
          (refine Wk.ren [(91, 90014007020), (92, 90014014)] rfl ?_ ?_ <;> repeat' (first | exact True.intro | refine And.intro rfl ?_ | refine And.intro (congrArg (fun z : Int => AV.v false [Lf.d (.int .i64) z]) (by first | omega | (simp only [Int.natCast_add, List.length_cons, List.length_append, List.length_nil]; omega))) ?_ | refine And.intro ?_ ?_))
        · exact ⟨hjl, hC2.out⟩
        · · show _ - (j + 1) < _ - j; omega
      · have bo' : o.length ≤ 1000000 := bo
        dsimp only [colH]
        (repeat' (first | (with_reducible refine Cend.go ?_) | (with_reducible refine Step.mk True.intro ?_) | (with_reducible refine Step.mk ?_ ?_; focus (((try simp only [true_and, and_true, and_self, kmin, kmax, decide_eq_true_eq, decide_eq_false_iff_not, castD_self, castL_self, List.length_cons, List.length_nil, List.length_append, Int.natCast_add] at *) <;> omega))) | (with_reducible refine Step.mk ?_ ?_) | (with_reducible refine Way.t1 ?_) | (with_reducible refine Way.f1 ?_) | ((with_reducible refine Way.dec (fun _ => ?_) (fun _ => ?_)) <;> try (exfalso; omega)) | (with_reducible refine Way.nt ?_) | (with_reducible refine Way.mk (fun _ => ?_) (fun _ => ?_)) | (with_reducible refine Drawn.mk (by kernel_rfl) ?_) | (refine Run.mk ?_)))
        (refine Back.by ((j + 1, n + 1, D, some (a0, o ++ [(M.getD ((b : Int)).toNat tMid.dflt).2.2.getD ((j : Int)).toNat Ty.str.dflt], nn))) ?_ ?_ ?_; focus (refine Wk.ren [(92, 90014014)] rfl ?_ ?_ <;> repeat' (first | exact True.intro | refine And.intro rfl ?_ | refine And.intro (congrArg (fun z : Int => AV.v false [Lf.d (.int .i64) z]) (by first | omega | (simp only [Int.natCast_add, List.length_cons, List.length_append, List.length_nil]; omega))) ?_ | refine And.intro ?_ ?_)))
        · exact ⟨hjl, hC2.out⟩
        · · show _ - (j + 1) < _ - j; omega
    · rw [map_drop_nil hjl, hR5.out] at hC
      by_cases hins : (M.getD ((b : Int)).toNat tMid.dflt).1 = true
      · rw [if_pos hins] at hC
        have hC2 := CI.ins hC
        replace hins := Lib.hid hins
        replace hC2 := Lib.hid hC2
        replace hC := Lib.hid hC
        rcases cu with _ | ⟨a0, o, nn⟩
        · dsimp only [colH]
          (repeat' (first | (with_reducible refine Cend.go ?_) | (with_reducible refine Step.mk True.intro ?_) | (with_reducible refine Step.mk ?_ ?_; focus (((try simp only [true_and, and_true, and_self, kmin, kmax, decide_eq_true_eq, decide_eq_false_iff_not, castD_self, castL_self, List.length_cons, List.length_nil, List.length_append, Int.natCast_add] at *) <;> omega))) | (with_reducible refine Step.mk ?_ ?_) | (with_reducible refine Way.t1 ?_) | (with_reducible refine Way.f1 ?_) | ((with_reducible refine Way.dec (fun _ => ?_) (fun _ => ?_)) <;> try (exfalso; omega)) | (with_reducible refine Way.nt ?_) | ((with_reducible refine Way.mk (fun _ => ?_) (fun _ => ?_)) <;> try (exfalso; rename_i hw; first | exact Bool.noConfusion ((Go.RowKit.Hid.out hins).symm.trans hw) | exact Bool.noConfusion (hw.symm.trans (Go.RowKit.Hid.out hins)))) | (with_reducible refine Drawn.mk (by kernel_rfl) ?_) | (refine Run.mk ?_)))
          refine Back.by (b + 1, n, D, some ((n : Int), [], [(M.getD ((b : Int)).toNat tMid.dflt).2.1])) ?_ ?_ ?_
          · refine (Wk.nilrox 90020007020 1 92 9 .str rfl rfl rfl).trans ?_
            (refine Wk.ren [(91, 90020007020), (93, 90020014)] rfl ?_ ?_ <;> repeat' (first | exact True.intro | refine And.intro rfl ?_ | refine And.intro (congrArg (fun z : Int => AV.v false [Lf.d (.int .i64) z]) (by first | omega | (simp only [Int.natCast_add, List.length_cons, List.length_append, List.length_nil]; omega))) ?_ | refine And.intro ?_ ?_))
          · exact ⟨hbz, hC2.out⟩
          · · show M.length - (b + 1) < M.length - b; omega
        · have bn' : nn.length ≤ 1000000 := bn
          dsimp only [colH]
          (repeat' (first | (with_reducible refine Cend.go ?_) | (with_reducible refine Step.mk True.intro ?_) | (with_reducible refine Step.mk ?_ ?_; focus (((try simp only [true_and, and_true, and_self, kmin, kmax, decide_eq_true_eq, decide_eq_false_iff_not, castD_self, castL_self, List.length_cons, List.length_nil, List.length_append, Int.natCast_add] at *) <;> omega))) | (with_reducible refine Step.mk ?_ ?_) | (with_reducible refine Way.t1 ?_) | (with_reducible refine Way.f1 ?_) | ((with_reducible refine Way.dec (fun _ => ?_) (fun _ => ?_)) <;> try (exfalso; omega)) | (with_reducible refine Way.nt ?_) | ((with_reducible refine Way.mk (fun _ => ?_) (fun _ => ?_)) <;> try (exfalso; rename_i hw; first | exact Bool.noConfusion ((Go.RowKit.Hid.out hins).symm.trans hw) | exact Bool.noConfusion (hw.symm.trans (Go.RowKit.Hid.out hins)))) | (with_reducible refine Drawn.mk (by kernel_rfl) ?_) | (refine Run.mk ?_)))
          (refine Back.by ((b + 1, n, D, some (a0, o, nn ++ [(M.getD ((b : Int)).toNat tMid.dflt).2.1]))) ?_ ?_ ?_; focus (refine Wk.ren [(93, 90020014)] rfl ?_ ?_ <;> repeat' (first | exact True.intro | refine And.intro rfl ?_ | refine And.intro (congrArg (fun z : Int => AV.v false [Lf.d (.int .i64) z]) (by first | omega | (simp only [Int.natCast_add, List.length_cons, List.length_append, List.length_nil]; omega))) ?_ | refine And.intro ?_ ?_)))
          · exact ⟨hbz, hC2.out⟩
          · · show M.length - (b + 1) < M.length - b; omega
      · rw [if_neg hins] at hC
        have hC2 := CI.keep hC
        have hins2 : (M.getD ((b : Int)).toNat tMid.dflt).1 = false := by cases q : (M.getD ((b : Int)).toNat tMid.dflt).1; rfl; exact absurd q hins
        replace hins := Lib.hid hins
        replace hins2 := Lib.hid hins2
        replace hC2 := Lib.hid hC2
        replace hC := Lib.hid hC
        rcases cu with _ | ⟨a0, o, nn⟩
        · replace hC2 := hC2.out
          rw [show D ++ Option.toList (none : Option Hk) = D from List.append_nil D] at hC2
          replace hC2 := Lib.hid hC2
          dsimp only [colH]
          (repeat' (first | (with_reducible refine Cend.go ?_) | (with_reducible refine Step.mk True.intro ?_) | (with_reducible refine Step.mk ?_ ?_; focus (((try simp only [true_and, and_true, and_self, kmin, kmax, decide_eq_true_eq, decide_eq_false_iff_not, castD_self, castL_self, List.length_cons, List.length_nil, List.length_append, Int.natCast_add] at *) <;> omega))) | (with_reducible refine Step.mk ?_ ?_) | (with_reducible refine Way.t1 ?_) | (with_reducible refine Way.f1 ?_) | ((with_reducible refine Way.dec (fun _ => ?_) (fun _ => ?_)) <;> try (exfalso; omega)) | (with_reducible refine Way.nt ?_) | ((with_reducible refine Way.mk (fun _ => ?_) (fun _ => ?_)) <;> try (exfalso; rename_i hw; first | exact Bool.noConfusion ((Go.RowKit.Hid.out hins2).symm.trans hw) | exact Bool.noConfusion (hw.symm.trans (Go.RowKit.Hid.out hins2)))) | (with_reducible refine Drawn.mk (by kernel_rfl) ?_) | (refine Run.mk ?_)))
          (refine Back.by ((b + 1, n + 1, D, none)) ?_ ?_ ?_; focus (refine Wk.keep ?_ ?_ <;> repeat' (first | exact True.intro | refine And.intro rfl ?_ | refine And.intro (congrArg (fun z : Int => AV.v false [Lf.d (.int .i64) z]) (by first | omega | (simp only [Int.natCast_add, List.length_cons, List.length_append, List.length_nil]; omega))) ?_ | refine And.intro ?_ ?_)))
          · exact ⟨hbz, hC2.out⟩
          · show M.length - (b + 1) < M.length - b; omega
        · dsimp only [colH]
          (repeat' (first | (with_reducible refine Cend.go ?_) | (with_reducible refine Step.mk True.intro ?_) | (with_reducible refine Step.mk ?_ ?_; focus (((try simp only [true_and, and_true, and_self, kmin, kmax, decide_eq_true_eq, decide_eq_false_iff_not, castD_self, castL_self, List.length_cons, List.length_nil, List.length_append, Int.natCast_add] at *) <;> omega))) | (with_reducible refine Step.mk ?_ ?_) | (with_reducible refine Way.t1 ?_) | (with_reducible refine Way.f1 ?_) | ((with_reducible refine Way.dec (fun _ => ?_) (fun _ => ?_)) <;> try (exfalso; omega)) | (with_reducible refine Way.nt ?_) | ((with_reducible refine Way.mk (fun _ => ?_) (fun _ => ?_)) <;> try (exfalso; rename_i hw; first | exact Bool.noConfusion ((Go.RowKit.Hid.out hins2).symm.trans hw) | exact Bool.noConfusion (hw.symm.trans (Go.RowKit.Hid.out hins2)))) | (with_reducible refine Drawn.mk (by kernel_rfl) ?_) | (refine Run.mk ?_)))
          refine Back.by (b + 1, n + 1, D ++ [(a0, o, nn)], none) ?_ ?_ ?_
          · refine (Wk.pack 91 (x := (a0, o, nn)) (l2 := []) (hl' := [.put 4 (.box 41 [.nl]), .put 5 (.box 99 [.o 91, .d (.int .i64) ((n : Int) + 1), .d .bool false])]) rfl rfl ⟨rfl, rfl, True.intro⟩ rfl rfl).trans ?_
            (refine Wk.keep ?_ ?_ <;> repeat' (first | exact True.intro | refine And.intro rfl ?_ | refine And.intro (congrArg (fun z : Int => AV.v false [Lf.d (.int .i64) z]) (by first | omega | (simp only [Int.natCast_add, List.length_cons, List.length_append, List.length_nil]; omega))) ?_ | refine And.intro ?_ ?_))
          · exact ⟨hbz, hC2.out⟩
          · show M.length - (b + 1) < M.length - b; omega
  have hnil : rA M b = [] := by unfold rA; rw [List.drop_eq_nil_of_le (by omega)]; rfl
  rw [hnil] at hC
  have hW := hC.1
  replace hC := Lib.hid hC
  replace hW := Lib.hid hW
  rcases cu with _ | ⟨a0, o, nn⟩
  · dsimp only [colH]
    (repeat' (first | (with_reducible refine Cend.go ?_) | (with_reducible refine Step.mk True.intro ?_) | (with_reducible refine Step.mk ?_ ?_; focus (((try simp only [true_and, and_true, and_self, kmin, kmax, decide_eq_true_eq, decide_eq_false_iff_not, castD_self, castL_self, List.length_cons, List.length_nil, List.length_append, Int.natCast_add] at *) <;> omega))) | (with_reducible refine Step.mk ?_ ?_) | (with_reducible refine Way.t1 ?_) | (with_reducible refine Way.f1 ?_) | ((with_reducible refine Way.dec (fun _ => ?_) (fun _ => ?_)) <;> try (exfalso; omega)) | (with_reducible refine Way.nt ?_) | (with_reducible refine Way.mk (fun _ => ?_) (fun _ => ?_)) | (with_reducible refine Drawn.mk (by kernel_rfl) ?_) | (refine Run.mk ?_)))
    refine Ret.mk ?_
    rw [show W = D from hW.out.trans (List.append_nil D)]
    exact ⟨rfl, .frz rfl, True.intro⟩
  · dsimp only [colH]
    (repeat' (first | (with_reducible refine Cend.go ?_) | (with_reducible refine Step.mk True.intro ?_) | (with_reducible refine Step.mk ?_ ?_; focus (((try simp only [true_and, and_true, and_self, kmin, kmax, decide_eq_true_eq, decide_eq_false_iff_not, castD_self, castL_self, List.length_cons, List.length_nil, List.length_append, Int.natCast_add] at *) <;> omega))) | (with_reducible refine Step.mk ?_ ?_) | (with_reducible refine Way.t1 ?_) | (with_reducible refine Way.f1 ?_) | ((with_reducible refine Way.dec (fun _ => ?_) (fun _ => ?_)) <;> try (exfalso; omega)) | (with_reducible refine Way.nt ?_) | (with_reducible refine Way.mk (fun _ => ?_) (fun _ => ?_)) | (with_reducible refine Drawn.mk (by kernel_rfl) ?_) | (refine Run.mk ?_)))
    refine Ret.mk ?_
    rw [show W = D ++ [(a0, o, nn)] from hW.out]
    exact ⟨rfl, .frz rfl, True.intro⟩
end Go.Proofs.Ythacjpemeaekdaa
