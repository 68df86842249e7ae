/- The walk of the reference's Compose. -/
import Derived.Test.YthacjpemeaekdaaRComPure
import Derived.Test.YthacjpemeaekdaaWxRefPF
import Derived.Test.YthacjpemeaekdaaWxComp
namespace Go.Proofs.Ythacjpemeaekdaa
open Go.RowKit
set_option maxRecDepth 20000
set_option linter.unusedSimpArgs false

@[reducible] def tIt : Ty := .st (.pair (.int .i64) .str)
theorem rmid_step {p : List Hk} {a : Nat} (hc : ch (a : Int) p) (ha : a < 400) : rmid 400 a p = ((a : Int), ByteArray.empty) :: rmid 400 (a + 1) p := by
  cases p with
  | nil =>
    show olds (400 - a) a = _ :: olds (400 - (a + 1)) (a + 1)
    rw [show 400 - a = (400 - (a + 1)) + 1 by omega]; rfl
  | cons h p =>
    have h1 : (a : Int) < h.1 := hc.1
    show olds (h.1.toNat - a) a ++ _ = _ :: (olds (h.1.toNat - (a + 1)) (a + 1) ++ _)
    rw [show h.1.toNat - a = (h.1.toNat - (a + 1)) + 1 by omega]; rfl
theorem rmid_hunk {p : List Hk} {h : Hk} {a : Nat} (ha : h.1 = a) : rmid 400 a (h :: p) = news h.2.2 ++ rmid 400 (hkEnd h).toNat p := by
  show olds (h.1.toNat - a) a ++ _ = _
  rw [show h.1.toNat - a = 0 by omega]; rfl
theorem rlastR_len : ∀ (q : List Hk) (n : Nat) (Y : List It), (∀ h ∈ q, h.2.2.length ≤ 120) → (rlastR n Y q).length ≤ Y.length + 120 * q.length
  | [], _, Y, _ => by show Y.length ≤ _; omega
  | h :: q, n, Y, hq => by
    have ih := rlastR_len q (hkEnd h).toNat (Y.drop ((hkEnd h).toNat - n)) fun k hk => hq k (List.mem_cons_of_mem _ hk)
    have h1 := hq h List.mem_cons_self
    have h2 := hkEnd_ge h
    show (Y.take (h.1.toNat - n) ++ (news h.2.2 ++ rlastR (hkEnd h).toNat (Y.drop ((hkEnd h).toNat - n)) q)).length ≤ _
    rw [List.length_drop] at ih
    rw [List.length_append, List.length_append, List.length_take, List.length_cons]
    unfold news
    rw [List.length_map]
    omega
theorem co_conf {p q : List Hk} {i : Nat} (hp : pC p = 0) (hq : pC q = 0) (h : confI 0 (coM p) q = some i) : coC p q = 19 ∧ coI p q = -3 - (i : Int) ∧ coP p q = [] := by
  have e : coC p q = 19 := by unfold coC; rw [if_neg (by simp [hp]), if_neg (by simp [hq]), h]
  refine ⟨e, ?_, ?_⟩
  · unfold coI; rw [if_neg (by simp [hp]), if_neg (by simp [hq]), h]
  · unfold coP; rw [e]; rfl
theorem rl_step {X : List It} {h : Hk} {q : List Hk} {n : Nat} (h1 : n ≤ h.1.toNat) : rlastR n (X.drop n) (h :: q) = (X.take h.1.toNat).drop n ++ news h.2.2 ++ rlastR (hkEnd h).toNat (X.drop (hkEnd h).toNat) q := by
  have := hkEnd_ge h
  show (X.drop n).take (h.1.toNat - n) ++ (news h.2.2 ++ rlastR (hkEnd h).toNat ((X.drop n).drop ((hkEnd h).toNat - n)) q) = _
  rw [List.drop_drop, show n + ((hkEnd h).toNat - n) = (hkEnd h).toNat by omega, List.drop_take, List.append_assoc]
theorem rg_step {X : List It} {G : List ByteArray} {h : Hk} {q : List Hk} {n : Nat} (h1 : n ≤ h.1.toNat) : rgR n (X.drop n) G (h :: q) = rgR (hkEnd h).toNat (X.drop (hkEnd h).toNat) (setL (X.drop h.1.toNat) h.2.1 G) q := by
  have := hkEnd_ge h
  show rgR (hkEnd h).toNat ((X.drop n).drop ((hkEnd h).toNat - n)) (setL ((X.drop n).drop (h.1.toNat - n)) h.2.1 G) q = _
  rw [List.drop_drop, List.drop_drop, show n + ((hkEnd h).toNat - n) = (hkEnd h).toNat by omega, show n + (h.1.toNat - n) = h.1.toNat by omega]
theorem rc_step {X : List It} {h : Hk} {q : List Hk} {n i : Nat} (h1 : n ≤ h.1.toNat) : rconf i n (X.drop n) (h :: q) = if rbad (X.drop h.1.toNat) h.2.1 = true then some i else rconf (i + 1) (hkEnd h).toNat (X.drop (hkEnd h).toNat) q := by
  have := hkEnd_ge h
  show (if rbad ((X.drop n).drop (h.1.toNat - n)) h.2.1 = true then some i else rconf (i + 1) (hkEnd h).toNat ((X.drop n).drop ((hkEnd h).toNat - n)) q) = _
  rw [List.drop_drop, List.drop_drop, show n + ((hkEnd h).toNat - n) = (hkEnd h).toNat by omega, show n + (h.1.toNat - n) = h.1.toNat by omega]
theorem setL_neg {x : It} {Y : List It} {s : ByteArray} {l G : List ByteArray} (h : ¬ 0 ≤ x.1) : setL (x :: Y) (s :: l) G = setL Y l G := by
  show setL Y l (if 0 ≤ x.1 then _ else G) = _; rw [if_neg h]
theorem setL_pos {x : It} {Y : List It} {s : ByteArray} {l G : List ByteArray} (h : 0 ≤ x.1) : setL (x :: Y) (s :: l) G = setL Y l (G.set x.1.toNat s) := by
  show setL Y l (if 0 ≤ x.1 then _ else G) = _; rw [if_pos h]
theorem setL_nil (Y : List It) (G : List ByteArray) : setL Y [] G = G := by cases Y <;> rfl
theorem rbad_nil (Y : List It) : rbad Y [] = false := by cases Y <;> rfl
theorem rbad_eq {x : It} {Y : List It} {s : ByteArray} {l : List ByteArray} (e : x.2 = s) : rbad (x :: Y) (s :: l) = rbad Y l := by
  show (decide (x.1 < 0) && !decide (x.2 = s) || rbad Y l) = _
  rw [decide_eq_true e, Bool.not_true, Bool.and_false, Bool.false_or]
theorem rbad_old {x : It} {Y : List It} {s : ByteArray} {l : List ByteArray} (e : ¬ x.1 < 0) : rbad (x :: Y) (s :: l) = rbad Y l := by
  show (decide (x.1 < 0) && !decide (x.2 = s) || rbad Y l) = _
  rw [decide_eq_false e, Bool.false_and, Bool.false_or]
theorem rbad_bad {x : It} {Y : List It} {s : ByteArray} {l : List ByteArray} (h : x.1 < 0) (e : ¬ x.2 = s) : rbad (x :: Y) (s :: l) = true := by
  show (decide (x.1 < 0) && !decide (x.2 = s) || rbad Y l) = _
  rw [decide_eq_true h, decide_eq_false e]; rfl
theorem ro_neg {G : List ByteArray} {f : Nat} {fr : List ByteArray} {x : It} {L : List It} (h : x.1 < 0) : ro G f fr (x :: L) = ro G f (fr ++ [x.2]) L := if_pos h
theorem ro_pos {G : List ByteArray} {f : Nat} {fr : List ByteArray} {x : It} {L : List It} (h : 0 ≤ x.1) : ro G f fr (x :: L) = if f < x.1.toNat ∨ fr ≠ [] then ((f : Int), gap G f x.1.toNat, fr) :: ro G (x.1.toNat + 1) [] L else ro G (x.1.toNat + 1) [] L := if_neg (by omega)
def sp_RCompose : SpecF := pureSp false [tPat, tPat] (fun _ => True) (fun (p', q', _) => .tu [(true, [.d (.slice tHk) (coP p' q')]), (true, [.d (.int .i64) (coC p' q'), .d (.int .i64) (coI p' q')])])
set_option maxHeartbeats 4000000 in
theorem RCompose_sp : SpFact 24 sp_RCompose := by
  refine ⟨⟨Try.f24, rfl, rfl, rfl, pureSp_okF (env1_fine (sp := [(47, sp_RPair), (21, sp_At), (48, sp_REnd), (77, sp_PF)]) (eq := [])
    (inl := [(49, Try.f49)]) (cl := []) ⟨RPair_sp, At_sp, REnd_sp, PF_sp, True.intro⟩ True.intro ⟨⟨rfl, rfl, rfl⟩, True.intro⟩) rfl (fun ⟨_, _⟩ _ => rfl) ?_⟩, pureSp_loc _ _ _ _⟩
  rintro ⟨p, q, u⟩ - -
  change List Hk at p q
  by_cases hpq : pC p = 0 ∧ pC q = 0
  · obtain ⟨hp, hq⟩ := hpq
    have hv : rpC p q = 0 := by unfold rpC; rw [if_neg (by simp [hp])]; exact hq
    obtain ⟨c1, c2, c3, c4, c5, c6⟩ := rcom hp hq
    obtain ⟨p1, p2, p3⟩ := pC_iff.1 hp
    obtain ⟨q1, q2, q3⟩ := pC_iff.1 hq
    have okp := (pC_ok hp).2
    have okq := (pC_ok hq).2
    obtain ⟨x1, x2, x3, x4⟩ := rmid_facts p 0 p2 (fun h hh => ⟨(p3 h hh).2.2.2.2.2, (okp h hh).2.2.2⟩) (by omega)
    change 280 ≤ (rcX p).length at x1
    change (rcX p).length + 0 ≤ _ at x2
    change ∀ x ∈ rcX p, _ at x3
    replace hv := Lib.hid hv
    replace c1 := Lib.hid c1
    replace c2 := Lib.hid c2
    replace c3 := Lib.hid c3
    replace c4 := Lib.hid c4
    replace c5 := Lib.hid c5
    replace c6 := Lib.hid c6
    replace p2 := Lib.hid p2
    replace p3 := Lib.hid p3
    replace q2 := Lib.hid q2
    replace q3 := Lib.hid q3
    replace okp := Lib.hid okp
    replace okq := Lib.hid okq
    replace x3 := Lib.hid x3
    replace x4 := Lib.hid x4
    (refine fnM_of rfl rfl rfl rfl ?_; dsimp only [params, argAV, Ty.leaves, Ty.isSt])
    (repeat' (first | (with_reducible refine Cend.go ?_) | (with_reducible refine Step.mk True.intro ?_) | (with_reducible refine Step.mk ?_ ?_; focus (((try simp only [true_and, and_true, and_self, kmin, kmax, decide_eq_true_eq, decide_eq_false_iff_not, castD_self, castL_self, List.length_cons, List.length_nil, List.length_append, Int.natCast_add] at *) <;> omega))) | (with_reducible refine Step.mk ?_ ?_) | (with_reducible refine Way.t1 ?_) | (with_reducible refine Way.f1 ?_) | ((with_reducible refine Way.dec (fun zz => ?_) (fun zz => ?_)) <;> (try simp only [castD_self, castL_self] at zz) <;> try (exfalso; first | omega | contradiction)) | (with_reducible refine Way.nt ?_) | ((with_reducible refine Way.mk (fun _ => ?_) (fun _ => ?_)) <;> try (exfalso; rename_i hw; first | exact Bool.noConfusion ((Go.RowKit.Hid.out hv).symm.trans hw) | exact Bool.noConfusion (hw.symm.trans (Go.RowKit.Hid.out hv)))) | (with_reducible refine Drawn.mk (by kernel_rfl) ?_) | (refine Run.mk ?_)))
    all_goals try (rename_i zq; exact absurd hv.out zq)
    refine loop_by (X := Nat × Nat × List It × List ByteArray) (fun x => [.put 2 (.v false [.p 2 0]), .put 3 (.v false [.p 3 0]), .put 4 (.v false [.p 4 0]), .put 5 (.v false [.p 5 0]), .put 7 (.v false [.o 91]), .put 8 (.v false [.o 92]), .put 9 (.v false [.d (.int .i64) (x.1 : Int)]), .put 10 (.v false [.d (.int .i64) (x.2.1 : Int)])])
      (fun x => [.put 91 (.row 9 .str x.2.2.2), .put 92 (.row 83 tIt x.2.2.1), .put 2 (.box 41 [.d (.slice tHk) p]), .put 3 (.box 41 [.d (.slice tHk) q]), .put 4 (.box 41 [.nl]), .put 5 (.box 24 [.d (.int .i64) 0, .d (.int .i64) 0])])
      (fun x => x.1 ≤ p.length ∧ x.2.1 ≤ 400 ∧ rcX p = x.2.2.1 ++ rmid 400 x.2.1 (p.drop x.1) ∧ rg1 gone0 p = rg1 x.2.2.2 (p.drop x.1) ∧ x.2.2.2.length = 400 ∧ ch ((x.2.1 : Int) - 1) (p.drop x.1)) (fun x => 400 - x.2.1) (0, 0, [], gone0) ⟨Nat.zero_le _, Nat.zero_le _, rfl, rfl, List.length_replicate, p2.out⟩ ?_ ?_
    · refine (Wk.nilrow 8 92 83 tIt rfl).trans ?_
      (refine Wk.ren [(91, 33)] rfl ?_ ?_ <;> repeat' (first | exact True.intro | refine And.intro rfl ?_ | refine And.intro (congrArg (fun z : Int => AV.v false [Lf.d (.int .i64) z]) (by first | omega | (simp only [Int.natCast_add, List.length_cons, List.length_append, List.length_nil]; omega))) ?_ | refine And.intro ?_ ?_))
    rintro ⟨k, i, Mid, G⟩ ⟨hk, hi, hM, hG, hGl, hc⟩
    dsimp only at hk hi hM hG hGl hc ⊢
    have hMl : Mid.length ≤ (rcX p).length := by rw [hM, List.length_append]; omega
    by_cases hi4 : i < 400
    · by_cases hkl : k < p.length
      · have hg := getD_at (a := p) tHk.dflt hkl
        have hd : p.drop k = p[k] :: p.drop (k + 1) := List.drop_eq_getElem_cons hkl
        rw [← hg] at hd
        obtain ⟨o1, o2, o3, o4⟩ := okp.out _ (List.getElem_mem hkl)
        have o5 := (p3.out _ (List.getElem_mem hkl)).2.2.2.2.2
        rw [← hg] at o1 o2 o3 o4 o5
        rw [hd] at hM hG hc
        obtain ⟨hc1, hc2⟩ := hc
        have hE : hkEnd (p.getD ((k : Int)).toNat tHk.dflt) = (p.getD ((k : Int)).toNat tHk.dflt).1 + ((p.getD ((k : Int)).toNat tHk.dflt).2.1.length : Int) := rfl
        by_cases he : (p.getD ((k : Int)).toNat tHk.dflt).1 = (i : Int)
        · rw [rmid_hunk he] at hM
          have hset : setAt G (p.getD ((k : Int)).toNat tHk.dflt).1.toNat (p.getD ((k : Int)).toNat tHk.dflt).2.1 = setAt G i (p.getD ((k : Int)).toNat tHk.dflt).2.1 := by rw [he, Int.toNat_natCast]
          have hG : rg1 gone0 p = rg1 (setAt G i (p.getD ((k : Int)).toNat tHk.dflt).2.1) (p.drop (k + 1)) := by rw [← hset]; exact hG
          clear hset
          rw [rmid_step (a := (hkEnd (p.getD ((k : Int)).toNat tHk.dflt)).toNat) (by rw [show ((hkEnd (p.getD ((k : Int)).toNat tHk.dflt)).toNat : Int) = hkEnd (p.getD ((k : Int)).toNat tHk.dflt) by omega]; exact hc2) (by omega)] at hM
          have hnl : Mid.length + (p.getD ((k : Int)).toNat tHk.dflt).2.2.length ≤ (rcX p).length := by
            rw [hM, List.length_append, List.length_append]; unfold news; rw [List.length_map]; omega
          replace hg := Lib.hid hg
          replace hM := Lib.hid hM
          replace hG := Lib.hid hG
          replace hc2 := Lib.hid hc2
          (repeat' (first | (with_reducible refine Cend.go ?_) | (with_reducible refine Step.mk True.intro ?_) | (with_reducible refine Step.mk ?_ ?_; focus (((try simp only [true_and, and_true, and_self, kmin, kmax, decide_eq_true_eq, decide_eq_false_iff_not, castD_self, castL_self, List.length_cons, List.length_nil, List.length_append, Int.natCast_add] at *) <;> omega))) | (with_reducible refine Step.mk ?_ ?_) | (with_reducible refine Way.t1 ?_) | (with_reducible refine Way.f1 ?_) | ((with_reducible refine Way.dec (fun _ => ?_) (fun _ => ?_)) <;> try (exfalso; omega)) | (with_reducible refine Way.nt ?_) | (with_reducible refine Way.mk (fun _ => ?_) (fun _ => ?_)) | (with_reducible refine Drawn.mk (by kernel_rfl) ?_) | (refine Run.mk ?_)))
          refine loop_by (X := Nat × List It) (fun x => [.put 2 (.v false [.p 2 0]), .put 3 (.v false [.p 3 0]), .put 4 (.v false [.p 4 0]), .put 5 (.v false [.p 5 0]), .put 7 (.v false [.o 91]), .put 8 (.v false [.o 92]), .put 9 (.v false [.d (.int .i64) ((k : Int) + 1)]), .put 10 (.v false [.d (.int .i64) (i : Int)]), .put 11 (.v false [.p 11 0]), .put 12 (.v false [.d (.int .i64) (x.1 : Int)])])
            (fun x => [.put 91 (.row 9 .str G), .put 92 (.row 83 tIt x.2), .put 11 (.box 76 (tHk.leaves (p.getD ((k : Int)).toNat tHk.dflt))), .put 2 (.box 41 [.d (.slice tHk) p]), .put 3 (.box 41 [.d (.slice tHk) q]), .put 4 (.box 41 [.nl]), .put 5 (.box 24 [.d (.int .i64) 0, .d (.int .i64) 0])])
            (fun x => x.1 ≤ (p.getD ((k : Int)).toNat tHk.dflt).2.2.length ∧ x.2 = Mid ++ news ((p.getD ((k : Int)).toNat tHk.dflt).2.2.take x.1)) (fun x => (p.getD ((k : Int)).toNat tHk.dflt).2.2.length - x.1) (0, Mid) ⟨Nat.zero_le _, by simp [news]⟩ ?_ ?_
          · (refine Wk.keep ?_ ?_ <;> repeat' (first | exact True.intro | refine And.intro rfl ?_ | refine And.intro (congrArg (fun z : Int => AV.v false [Lf.d (.int .i64) z]) (by first | omega | (simp only [Int.natCast_add, List.length_cons, List.length_append, List.length_nil]; omega))) ?_ | refine And.intro ?_ ?_))
          rintro ⟨j, Mj⟩ ⟨hj, hMj⟩
          dsimp only at hj hMj ⊢
          have hMjl : Mj.length ≤ (rcX p).length := by rw [hMj, List.length_append]; unfold news; rw [List.length_map, List.length_take]; omega
          by_cases hjl : j < (p.getD ((k : Int)).toNat tHk.dflt).2.2.length
          · have hgj := getD_at (a := (p.getD ((k : Int)).toNat tHk.dflt).2.2) Ty.str.dflt hjl
            have htk : (p.getD ((k : Int)).toNat tHk.dflt).2.2.take (j + 1) = (p.getD ((k : Int)).toNat tHk.dflt).2.2.take j ++ [(p.getD ((k : Int)).toNat tHk.dflt).2.2.getD ((j : Int)).toNat Ty.str.dflt] := by rw [hgj, List.take_add_one, List.getElem?_eq_getElem hjl]; rfl
            replace hgj := Lib.hid hgj
            replace htk := Lib.hid htk
            replace hMj := Lib.hid hMj
            (repeat' (first | (with_reducible refine Cend.go ?_) | (with_reducible refine Step.mk True.intro ?_) | (with_reducible refine Step.mk ?_ ?_; focus (((try simp only [true_and, and_true, and_self, kmin, kmax, decide_eq_true_eq, decide_eq_false_iff_not, castD_self, castL_self, List.length_cons, List.length_nil, List.length_append, Int.natCast_add] at *) <;> omega))) | (with_reducible refine Step.mk ?_ ?_) | (with_reducible refine Way.t1 ?_) | (with_reducible refine Way.f1 ?_) | ((with_reducible refine Way.dec (fun _ => ?_) (fun _ => ?_)) <;> try (exfalso; omega)) | (with_reducible refine Way.nt ?_) | (with_reducible refine Way.mk (fun _ => ?_) (fun _ => ?_)) | (with_reducible refine Drawn.mk (by kernel_rfl) ?_) | (refine Run.mk ?_)))
            (apply Back.by ((j + 1, _)); focus (refine Wk.ren [(92, 75)] rfl ?_ ?_ <;> repeat' (first | exact True.intro | refine And.intro rfl ?_ | refine And.intro (congrArg (fun z : Int => AV.v false [Lf.d (.int .i64) z]) (by first | omega | (simp only [Int.natCast_add, List.length_cons, List.length_append, List.length_nil]; omega))) ?_ | refine And.intro ?_ ?_)))
            · refine ⟨hjl, ?_⟩
              dsimp only
              rw [htk.out, hMj.out]
              unfold news
              rw [List.map_append, ← List.append_assoc]; rfl
            · show (p.getD ((k : Int)).toNat tHk.dflt).2.2.length - (j + 1) < (p.getD ((k : Int)).toNat tHk.dflt).2.2.length - j; omega
          · rw [List.take_of_length_le (by omega)] at hMj
            replace hMj := Lib.hid hMj
            (repeat' (first | (with_reducible refine Cend.go ?_) | (with_reducible refine Step.mk True.intro ?_) | (with_reducible refine Step.mk ?_ ?_; focus (((try simp only [true_and, and_true, and_self, kmin, kmax, decide_eq_true_eq, decide_eq_false_iff_not, castD_self, castL_self, List.length_cons, List.length_nil, List.length_append, Int.natCast_add] at *) <;> omega))) | (with_reducible refine Step.mk ?_ ?_) | (with_reducible refine Way.t1 ?_) | (with_reducible refine Way.f1 ?_) | ((with_reducible refine Way.dec (fun _ => ?_) (fun _ => ?_)) <;> try (exfalso; omega)) | (with_reducible refine Way.nt ?_) | (with_reducible refine Way.mk (fun _ => ?_) (fun _ => ?_)) | (with_reducible refine Drawn.mk (by kernel_rfl) ?_) | (refine Run.mk ?_)))
            refine loop_by (X := Nat × List ByteArray) (fun x => [.put 2 (.v false [.p 2 0]), .put 3 (.v false [.p 3 0]), .put 4 (.v false [.p 4 0]), .put 5 (.v false [.p 5 0]), .put 7 (.v false [.o 91]), .put 8 (.v false [.o 92]), .put 9 (.v false [.d (.int .i64) ((k : Int) + 1)]), .put 10 (.v false [.d (.int .i64) (i : Int)]), .put 11 (.v false [.p 11 0]), .put 13 (.v false [.d (.int .i64) (x.1 : Int)])])
              (fun x => [.put 91 (.row 9 .str x.2), .put 92 (.row 83 tIt Mj), .put 11 (.box 76 (tHk.leaves (p.getD ((k : Int)).toNat tHk.dflt))), .put 2 (.box 41 [.d (.slice tHk) p]), .put 3 (.box 41 [.d (.slice tHk) q]), .put 4 (.box 41 [.nl]), .put 5 (.box 24 [.d (.int .i64) 0, .d (.int .i64) 0])])
              (fun x => x.1 ≤ (p.getD ((k : Int)).toNat tHk.dflt).2.1.length ∧ x.2.length = 400 ∧ setAt G i (p.getD ((k : Int)).toNat tHk.dflt).2.1 = setAt x.2 (i + x.1) ((p.getD ((k : Int)).toNat tHk.dflt).2.1.drop x.1)) (fun x => (p.getD ((k : Int)).toNat tHk.dflt).2.1.length - x.1) (0, G) ⟨Nat.zero_le _, hGl, rfl⟩ ?_ ?_
            · (refine Wk.keep ?_ ?_ <;> repeat' (first | exact True.intro | refine And.intro rfl ?_ | refine And.intro (congrArg (fun z : Int => AV.v false [Lf.d (.int .i64) z]) (by first | omega | (simp only [Int.natCast_add, List.length_cons, List.length_append, List.length_nil]; omega))) ?_ | refine And.intro ?_ ?_))
            rintro ⟨e, Ge⟩ ⟨he1, hGel, hGe⟩
            dsimp only at he1 hGel hGe ⊢
            by_cases hel : e < (p.getD ((k : Int)).toNat tHk.dflt).2.1.length
            · have hge := getD_at (a := (p.getD ((k : Int)).toNat tHk.dflt).2.1) Ty.str.dflt hel
              rw [List.drop_eq_getElem_cons hel, ← hge] at hGe
              replace hge := Lib.hid hge
              replace hGe := Lib.hid hGe
              (repeat' (first | (with_reducible refine Cend.go ?_) | (with_reducible refine Step.mk True.intro ?_) | (with_reducible refine Step.mk ?_ ?_; focus (((try simp only [true_and, and_true, and_self, kmin, kmax, decide_eq_true_eq, decide_eq_false_iff_not, castD_self, castL_self, List.length_cons, List.length_nil, List.length_append, Int.natCast_add] at *) <;> omega))) | (with_reducible refine Step.mk ?_ ?_) | (with_reducible refine Way.t1 ?_) | (with_reducible refine Way.f1 ?_) | ((with_reducible refine Way.dec (fun _ => ?_) (fun _ => ?_)) <;> try (exfalso; omega)) | (with_reducible refine Way.nt ?_) | (with_reducible refine Way.mk (fun _ => ?_) (fun _ => ?_)) | (with_reducible refine Drawn.mk (by kernel_rfl) ?_) | (refine Run.mk ?_)))
              (apply Back.by ((e + 1, _)); focus (refine Wk.keep ?_ ?_ <;> repeat' (first | exact True.intro | refine And.intro rfl ?_ | refine And.intro (congrArg (fun z : Int => AV.v false [Lf.d (.int .i64) z]) (by first | omega | (simp only [Int.natCast_add, List.length_cons, List.length_append, List.length_nil]; omega))) ?_ | refine And.intro ?_ ?_)))
              · refine ⟨hel, ?_, ?_⟩
                · dsimp only
                  rw [List.length_set]; exact hGel
                · dsimp only
                  rw [hGe.out]
                  show setAt (Ge.set (i + e) _) (i + e + 1) _ = setAt (Ge.set ((i : Int) + (e : Int)).toNat _) (i + (e + 1)) _
                  rw [show ((i : Int) + (e : Int)).toNat = i + e by omega]; rfl
              · show (p.getD ((k : Int)).toNat tHk.dflt).2.1.length - (e + 1) < (p.getD ((k : Int)).toNat tHk.dflt).2.1.length - e; omega
            · rw [List.drop_eq_nil_of_le (by omega)] at hGe
              replace hGe := Lib.hid hGe
              (repeat' (first | (with_reducible refine Cend.go ?_) | (with_reducible refine Step.mk True.intro ?_) | (with_reducible refine Step.mk ?_ ?_; focus (((try simp only [true_and, and_true, and_self, kmin, kmax, decide_eq_true_eq, decide_eq_false_iff_not, castD_self, castL_self, List.length_cons, List.length_nil, List.length_append, Int.natCast_add] at *) <;> omega))) | (with_reducible refine Step.mk ?_ ?_) | (with_reducible refine Way.t1 ?_) | (with_reducible refine Way.f1 ?_) | ((with_reducible refine Way.dec (fun _ => ?_) (fun _ => ?_)) <;> try (exfalso; omega)) | (with_reducible refine Way.nt ?_) | (with_reducible refine Way.mk (fun _ => ?_) (fun _ => ?_)) | (with_reducible refine Drawn.mk (by kernel_rfl) ?_) | (refine Run.mk ?_)))
              (apply Back.by ((k + 1, (hkEnd (p.getD ((k : Int)).toNat tHk.dflt)).toNat + 1, _, Ge)); focus (refine Wk.ren [(92, 102)] rfl ?_ ?_ <;> repeat' (first | exact True.intro | refine And.intro rfl ?_ | refine And.intro (congrArg (fun z : Int => AV.v false [Lf.d (.int .i64) z]) (by first | omega | (simp only [Int.natCast_add, List.length_cons, List.length_append, List.length_nil]; omega))) ?_ | refine And.intro ?_ ?_)))
              · refine ⟨hkl, by show (hkEnd (p.getD ((k : Int)).toNat tHk.dflt)).toNat + 1 ≤ 400; omega, ?_, ?_, hGel, ?_⟩
                · dsimp only
                  rw [hM.out, hMj.out]
                  show _ = Mid ++ news _ ++ [((i : Int) + ((p.getD ((k : Int)).toNat tHk.dflt).2.1.length : Int), ByteArray.empty)] ++ _
                  rw [show (i : Int) + ((p.getD ((k : Int)).toNat tHk.dflt).2.1.length : Int) = (((hkEnd (p.getD ((k : Int)).toNat tHk.dflt)).toNat : Nat) : Int) by omega, List.append_assoc, List.append_assoc]; rfl
                · dsimp only
                  rw [hG.out, hGe.out]; rfl
                · dsimp only
                  rw [show ((((hkEnd (p.getD ((k : Int)).toNat tHk.dflt)).toNat + 1 : Nat) : Int)) - 1 = hkEnd (p.getD ((k : Int)).toNat tHk.dflt) by omega]
                  exact hc2.out
              · show 400 - ((hkEnd (p.getD ((k : Int)).toNat tHk.dflt)).toNat + 1) < 400 - i; omega
        · have hcc : ch (i : Int) (p.drop k) := by rw [hd]; exact ⟨by omega, hc2⟩
          rw [← hd] at hM hG
          rw [rmid_step hcc hi4] at hM
          replace hg := Lib.hid hg
          replace hM := Lib.hid hM
          replace hG := Lib.hid hG
          replace hc2 := Lib.hid hc2
          replace hcc := Lib.hid hcc
          replace hd := Lib.hid hd
          (repeat' (first | (with_reducible refine Cend.go ?_) | (with_reducible refine Step.mk True.intro ?_) | (with_reducible refine Step.mk ?_ ?_; focus (((try simp only [true_and, and_true, and_self, kmin, kmax, decide_eq_true_eq, decide_eq_false_iff_not, castD_self, castL_self, List.length_cons, List.length_nil, List.length_append, Int.natCast_add] at *) <;> omega))) | (with_reducible refine Step.mk ?_ ?_) | (with_reducible refine Way.t1 ?_) | (with_reducible refine Way.f1 ?_) | ((with_reducible refine Way.dec (fun _ => ?_) (fun _ => ?_)) <;> try (exfalso; omega)) | (with_reducible refine Way.nt ?_) | (with_reducible refine Way.mk (fun _ => ?_) (fun _ => ?_)) | (with_reducible refine Drawn.mk (by kernel_rfl) ?_) | (refine Run.mk ?_)))
          (apply Back.by ((k, i + 1, _, G)); focus (refine Wk.ren [(92, 102)] rfl ?_ ?_ <;> repeat' (first | exact True.intro | refine And.intro rfl ?_ | refine And.intro (congrArg (fun z : Int => AV.v false [Lf.d (.int .i64) z]) (by first | omega | (simp only [Int.natCast_add, List.length_cons, List.length_append, List.length_nil]; omega))) ?_ | refine And.intro ?_ ?_)))
          · refine ⟨hk, hi4, ?_, hG.out, hGl, ?_⟩
            · dsimp only
              rw [hM.out, List.append_assoc]; rfl
            · dsimp only
              rw [show (((i + 1 : Nat) : Int)) - 1 = (i : Int) by omega]
              exact hcc.out
          · show 400 - (i + 1) < 400 - i; omega
      · have hd : p.drop k = [] := List.drop_eq_nil_of_le (by omega)
        rw [hd] at hM hG
        rw [rmid_step (p := []) True.intro hi4] at hM
        replace hM := Lib.hid hM
        replace hG := Lib.hid hG
        (repeat' (first | (with_reducible refine Cend.go ?_) | (with_reducible refine Step.mk True.intro ?_) | (with_reducible refine Step.mk ?_ ?_; focus (((try simp only [true_and, and_true, and_self, kmin, kmax, decide_eq_true_eq, decide_eq_false_iff_not, castD_self, castL_self, List.length_cons, List.length_nil, List.length_append, Int.natCast_add] at *) <;> omega))) | (with_reducible refine Step.mk ?_ ?_) | (with_reducible refine Way.t1 ?_) | (with_reducible refine Way.f1 ?_) | ((with_reducible refine Way.dec (fun _ => ?_) (fun _ => ?_)) <;> try (exfalso; omega)) | (with_reducible refine Way.nt ?_) | (with_reducible refine Way.mk (fun _ => ?_) (fun _ => ?_)) | (with_reducible refine Drawn.mk (by kernel_rfl) ?_) | (refine Run.mk ?_)))
        (apply Back.by ((k, i + 1, _, G)); focus (refine Wk.ren [(92, 102)] rfl ?_ ?_ <;> repeat' (first | exact True.intro | refine And.intro rfl ?_ | refine And.intro (congrArg (fun z : Int => AV.v false [Lf.d (.int .i64) z]) (by first | omega | (simp only [Int.natCast_add, List.length_cons, List.length_append, List.length_nil]; omega))) ?_ | refine And.intro ?_ ?_)))
        · refine ⟨hk, hi4, ?_, ?_, hGl, ?_⟩
          · dsimp only
            rw [hd, hM.out, List.append_assoc]; rfl
          · dsimp only
            rw [hd]; exact hG.out
          · dsimp only
            rw [hd]; exact True.intro
        · show 400 - (i + 1) < 400 - i; omega
    · obtain rfl : i = 400 := by omega
      have hd : p.drop k = [] := by
        cases hq' : p.drop k with
        | nil => rfl
        | cons h r =>
          rw [hq'] at hc
          have := (p3.out h (List.mem_of_mem_drop (show h ∈ p.drop k by rw [hq']; exact List.mem_cons_self))).2.1
          have h2 : ((400 : Nat) : Int) - 1 < h.1 := hc.1
          omega
      rw [hd] at hM hG
      have hM : rcX p = Mid := hM.trans (List.append_nil _)
      have hG : rg1 gone0 p = G := hG
      subst hM
      clear hc hk hd
      have hLl := rlastR_len q 0 (rcX p) (fun h hh => (okq.out h hh).2.2.2)
      have hcf := fun i => co_conf (i := i) hp hq
      rw [← c1.out] at hcf
      replace hcf := Lib.hid hcf
      change (rcL p q).length ≤ _ at hLl
      (repeat' (first | (with_reducible refine Cend.go ?_) | (with_reducible refine Step.mk True.intro ?_) | (with_reducible refine Step.mk ?_ ?_; focus (((try simp only [true_and, and_true, and_self, kmin, kmax, decide_eq_true_eq, decide_eq_false_iff_not, castD_self, castL_self, List.length_cons, List.length_nil, List.length_append, Int.natCast_add] at *) <;> omega))) | (with_reducible refine Step.mk ?_ ?_) | (with_reducible refine Way.t1 ?_) | (with_reducible refine Way.f1 ?_) | ((with_reducible refine Way.dec (fun _ => ?_) (fun _ => ?_)) <;> try (exfalso; omega)) | (with_reducible refine Way.nt ?_) | (with_reducible refine Way.mk (fun _ => ?_) (fun _ => ?_)) | (with_reducible refine Drawn.mk (by kernel_rfl) ?_) | (refine Run.mk ?_)))
      refine loop_by (X := Nat × Nat × List It × List ByteArray) (fun x => [.put 2 (.v false [.p 2 0]), .put 3 (.v false [.p 3 0]), .put 4 (.v false [.p 4 0]), .put 5 (.v false [.p 5 0]), .put 7 (.v false [.o 91]), .put 8 (.v false [.d (.slice tIt) (rcX p)]), .put 14 (.v false [.o 93]), .put 15 (.v false [.d (.int .i64) (x.2.1 : Int)]), .put 16 (.v false [.d (.int .i64) (x.1 : Int)])])
        (fun x => [.put 91 (.row 9 .str x.2.2.2), .put 93 (.row 83 tIt x.2.2.1), .put 2 (.box 41 [.d (.slice tHk) p]), .put 3 (.box 41 [.d (.slice tHk) q]), .put 4 (.box 41 [.nl]), .put 5 (.box 24 [.d (.int .i64) 0, .d (.int .i64) 0])])
        (fun x => x.1 ≤ q.length ∧ x.2.1 ≤ 120 ∧ rcL p q = x.2.2.1 ++ rlastR x.2.1 ((rcX p).drop x.2.1) (q.drop x.1) ∧ rcG p q = rgR x.2.1 ((rcX p).drop x.2.1) x.2.2.2 (q.drop x.1) ∧ rconf 0 0 (rcX p) q = rconf x.1 x.2.1 ((rcX p).drop x.2.1) (q.drop x.1) ∧ x.2.2.2.length = 400 ∧ ch ((x.2.1 : Int) - 1) (q.drop x.1)) (fun x => q.length - x.1) (0, 0, [], G) ⟨Nat.zero_le _, Nat.zero_le _, rfl, by unfold rcG; rw [hG]; rfl, rfl, hGl, q2.out⟩ ?_ ?_
      · refine (Wk.freeze 8 92 (E := 83) (ty := tIt) (l := rcX p) (hl' := [.put 91 (.row 9 .str G), .put 2 (.box 41 [.d (.slice tHk) p]), .put 3 (.box 41 [.d (.slice tHk) q]), .put 4 (.box 41 [.nl]), .put 5 (.box 24 [.d (.int .i64) 0, .d (.int .i64) 0])]) rfl rfl ⟨rfl, rfl, rfl, rfl, rfl, True.intro⟩ rfl).trans ((Wk.nilrow 14 93 83 tIt rfl).trans ?_)
        (refine Wk.keep ?_ ?_ <;> repeat' (first | exact True.intro | refine And.intro rfl ?_ | refine And.intro (congrArg (fun z : Int => AV.v false [Lf.d (.int .i64) z]) (by first | omega | (simp only [Int.natCast_add, List.length_cons, List.length_append, List.length_nil]; omega))) ?_ | refine And.intro ?_ ?_))
      clear hG hGl hMl
      rintro ⟨i, a, La, G⟩ ⟨hi, ha, hL, hG, hC, hGl, hc⟩
      dsimp only at hi ha hL hG hC hGl hc ⊢
      have hLal : La.length ≤ (rcL p q).length := by rw [hL, List.length_append]; omega
      by_cases hiq : i < q.length
      · have hg := getD_at (a := q) tHk.dflt hiq
        have hd : q.drop i = q[i] :: q.drop (i + 1) := List.drop_eq_getElem_cons hiq
        rw [← hg] at hd
        obtain ⟨o1, o2, o3, o4⟩ := okq.out _ (List.getElem_mem hiq)
        have o5 := (q3.out _ (List.getElem_mem hiq)).2.2.2.2.2
        rw [← hg] at o1 o2 o3 o4 o5
        rw [hd] at hL hG hC hc
        obtain ⟨hc1, hc2⟩ := hc
        have hE : hkEnd (q.getD ((i : Int)).toNat tHk.dflt) = (q.getD ((i : Int)).toNat tHk.dflt).1 + ((q.getD ((i : Int)).toNat tHk.dflt).2.1.length : Int) := rfl
        rw [rl_step (by omega)] at hL
        rw [rg_step (by omega)] at hG
        rw [rc_step (by omega)] at hC
        have hLb : La.length + ((q.getD ((i : Int)).toNat tHk.dflt).1.toNat - a) + (q.getD ((i : Int)).toNat tHk.dflt).2.2.length ≤ (rcL p q).length := by
          rw [hL, List.length_append, List.length_append, List.length_append, List.length_drop, List.length_take]; unfold news; rw [List.length_map]; omega
        replace hg := Lib.hid hg
        replace hd := Lib.hid hd
        replace hL := Lib.hid hL
        replace hG := Lib.hid hG
        replace hC := Lib.hid hC
        replace hc2 := Lib.hid hc2
        (repeat' (first | (with_reducible refine Cend.go ?_) | (with_reducible refine Step.mk True.intro ?_) | (with_reducible refine Step.mk ?_ ?_; focus (((try simp only [true_and, and_true, and_self, kmin, kmax, decide_eq_true_eq, decide_eq_false_iff_not, castD_self, castL_self, List.length_cons, List.length_nil, List.length_append, Int.natCast_add] at *) <;> omega))) | (with_reducible refine Step.mk ?_ ?_) | (with_reducible refine Way.t1 ?_) | (with_reducible refine Way.f1 ?_) | ((with_reducible refine Way.dec (fun _ => ?_) (fun _ => ?_)) <;> try (exfalso; omega)) | (with_reducible refine Way.nt ?_) | (with_reducible refine Way.mk (fun _ => ?_) (fun _ => ?_)) | (with_reducible refine Drawn.mk (by kernel_rfl) ?_) | (refine Run.mk ?_)))
        · show (La.length + (((rcX p).take (q.getD ((i : Int)).toNat tHk.dflt).1.toNat).drop ((a : Int)).toNat).length) * 24 ≤ 140737488355328 ∧ La.length + (((rcX p).take (q.getD ((i : Int)).toNat tHk.dflt).1.toNat).drop ((a : Int)).toNat).length ≤ 1000000000000
          rw [List.length_drop, List.length_take, Int.toNat_natCast]
          omega
        refine loop_by (X := Nat × List ByteArray) (fun x => [.put 2 (.v false [.p 2 0]), .put 3 (.v false [.p 3 0]), .put 4 (.v false [.p 4 0]), .put 5 (.v false [.p 5 0]), .put 7 (.v false [.o 91]), .put 8 (.v false [.d (.slice tIt) (rcX p)]), .put 14 (.v false [.o 93]), .put 15 (.v false [.d (.int .i64) (a : Int)]), .put 16 (.v false [.d (.int .i64) (i : Int)]), .put 17 (.v false [.p 17 0]), .put 18 (.v false [.d (.int .i64) (x.1 : Int)])])
          (fun x => [.put 91 (.row 9 .str x.2), .put 93 (.row 83 tIt (La ++ ((rcX p).take (q.getD ((i : Int)).toNat tHk.dflt).1.toNat).drop a)), .put 17 (.box 76 (tHk.leaves (q.getD ((i : Int)).toNat tHk.dflt))), .put 2 (.box 41 [.d (.slice tHk) p]), .put 3 (.box 41 [.d (.slice tHk) q]), .put 4 (.box 41 [.nl]), .put 5 (.box 24 [.d (.int .i64) 0, .d (.int .i64) 0])])
          (fun x => x.1 ≤ (q.getD ((i : Int)).toNat tHk.dflt).2.1.length ∧ x.2.length = 400 ∧ setL ((rcX p).drop (q.getD ((i : Int)).toNat tHk.dflt).1.toNat) (q.getD ((i : Int)).toNat tHk.dflt).2.1 G = setL ((rcX p).drop ((q.getD ((i : Int)).toNat tHk.dflt).1.toNat + x.1)) ((q.getD ((i : Int)).toNat tHk.dflt).2.1.drop x.1) x.2 ∧
            rbad ((rcX p).drop (q.getD ((i : Int)).toNat tHk.dflt).1.toNat) (q.getD ((i : Int)).toNat tHk.dflt).2.1 = rbad ((rcX p).drop ((q.getD ((i : Int)).toNat tHk.dflt).1.toNat + x.1)) ((q.getD ((i : Int)).toNat tHk.dflt).2.1.drop x.1)) (fun x => (q.getD ((i : Int)).toNat tHk.dflt).2.1.length - x.1) (0, G) ⟨Nat.zero_le _, hGl, rfl, rfl⟩ ?_ ?_
        · (refine Wk.ren [(93, 121)] rfl ?_ ?_ <;> repeat' (first | exact True.intro | refine And.intro rfl ?_ | refine And.intro (congrArg (fun z : Int => AV.v false [Lf.d (.int .i64) z]) (by first | omega | (simp only [Int.natCast_add, List.length_cons, List.length_append, List.length_nil]; omega))) ?_ | refine And.intro ?_ ?_))
        rintro ⟨j, Gj⟩ ⟨hj, hGjl, hGj, hbj⟩
        dsimp only at hj hGjl hGj hbj ⊢
        by_cases hjl : j < (q.getD ((i : Int)).toNat tHk.dflt).2.1.length
        · have hjx : (q.getD ((i : Int)).toNat tHk.dflt).1.toNat + j < (rcX p).length := by omega
          have hgj := getD_at (a := (q.getD ((i : Int)).toNat tHk.dflt).2.1) Ty.str.dflt hjl
          have hgx : (rcX p).getD ((q.getD ((i : Int)).toNat tHk.dflt).1 + (j : Int)).toNat tIt.dflt = (rcX p)[(q.getD ((i : Int)).toNat tHk.dflt).1.toNat + j] := by
            rw [show ((q.getD ((i : Int)).toNat tHk.dflt).1 + (j : Int)).toNat = (q.getD ((i : Int)).toNat tHk.dflt).1.toNat + j by omega, List.getD_eq_getElem?_getD, List.getElem?_eq_getElem hjx]; rfl
          have hx3 := x3.out _ (List.getElem_mem hjx)
          rw [← hgx] at hx3
          rw [List.drop_eq_getElem_cons hjl, List.drop_eq_getElem_cons hjx, ← hgj, ← hgx] at hGj hbj
          obtain ⟨x31, x32⟩ := hx3
          replace hgj := Lib.hid hgj
          replace hgx := Lib.hid hgx
          replace hGj := Lib.hid hGj
          replace hbj := Lib.hid hbj
          (repeat' (first | (with_reducible refine Cend.go ?_) | (with_reducible refine Step.mk True.intro ?_) | (with_reducible refine Step.mk ?_ ?_; focus (((try simp only [true_and, and_true, and_self, kmin, kmax, decide_eq_true_eq, decide_eq_false_iff_not, castD_self, castL_self, List.length_cons, List.length_nil, List.length_append, Int.natCast_add] at *) <;> omega))) | (with_reducible refine Step.mk ?_ ?_) | (with_reducible refine Way.t1 ?_) | (with_reducible refine Way.f1 ?_) | ((with_reducible refine Way.dec (fun _ => ?_) (fun _ => ?_)) <;> try (exfalso; omega)) | (with_reducible refine Way.nt ?_) | (with_reducible refine Way.mk (fun _ => ?_) (fun _ => ?_)) | (with_reducible refine Drawn.mk (by kernel_rfl) ?_) | (refine Run.mk ?_)))
          · rename_i z1 z2 z3 z4
            (apply Back.by ((j + 1, Gj)); focus (refine Wk.keep ?_ ?_ <;> repeat' (first | exact True.intro | refine And.intro rfl ?_ | refine And.intro (congrArg (fun z : Int => AV.v false [Lf.d (.int .i64) z]) (by first | omega | (simp only [Int.natCast_add, List.length_cons, List.length_append, List.length_nil]; omega))) ?_ | refine And.intro ?_ ?_)))
            · refine ⟨hjl, hGjl, ?_, ?_⟩
              · dsimp only
                rw [hGj.out, setL_neg z4]; rfl
              · dsimp only
                rw [hbj.out, rbad_eq z3]; rfl
            · show (q.getD ((i : Int)).toNat tHk.dflt).2.1.length - (j + 1) < (q.getD ((i : Int)).toNat tHk.dflt).2.1.length - j; omega
          · rename_i z1 z2 z3
            have hcf' := hcf.out i (by rw [hC.out, hbj.out, rbad_bad z2 z3, if_pos rfl])
            obtain ⟨f1, f2, f3⟩ := hcf'
            refine Ret.mk ?_
            rw [f1, f2, f3]
            exact ⟨⟨rfl, .frz rfl, True.intro⟩, ⟨rfl, .same, .same, True.intro⟩, True.intro⟩
          · rename_i z1 z2 z3
            (apply Back.by ((j + 1, _)); focus (refine Wk.keep ?_ ?_ <;> repeat' (first | exact True.intro | refine And.intro rfl ?_ | refine And.intro (congrArg (fun z : Int => AV.v false [Lf.d (.int .i64) z]) (by first | omega | (simp only [Int.natCast_add, List.length_cons, List.length_append, List.length_nil]; omega))) ?_ | refine And.intro ?_ ?_)))
            · refine ⟨hjl, ?_, ?_, ?_⟩
              · dsimp only
                rw [List.length_set]; exact hGjl
              · dsimp only
                rw [hGj.out, setL_pos z3]; rfl
              · dsimp only
                rw [hbj.out, rbad_old z2]; rfl
            · show (q.getD ((i : Int)).toNat tHk.dflt).2.1.length - (j + 1) < (q.getD ((i : Int)).toNat tHk.dflt).2.1.length - j; omega
        · have hod : (q.getD ((i : Int)).toNat tHk.dflt).2.1.drop j = [] := List.drop_eq_nil_of_le (by omega)
          rw [hod] at hGj hbj
          clear hod
          rw [setL_nil] at hGj
          rw [rbad_nil] at hbj
          have hC' : rconf 0 0 (rcX p) q = rconf (i + 1) (hkEnd (q.getD ((i : Int)).toNat tHk.dflt)).toNat ((rcX p).drop (hkEnd (q.getD ((i : Int)).toNat tHk.dflt)).toNat) (q.drop (i + 1)) := by
            rw [hC.out, hbj]; exact if_neg Bool.false_ne_true
          have hG' := hG.out
          rw [hGj] at hG'
          replace hC' := Lib.hid hC'
          replace hG' := Lib.hid hG'
          replace hGj := Lib.hid hGj
          replace hbj := Lib.hid hbj
          have hvl : ((rcX p).take (q.getD ((i : Int)).toNat tHk.dflt).1.toNat).drop a = ((rcX p).take (q.getD ((i : Int)).toNat tHk.dflt).1.toNat).drop a ∧ (((rcX p).take (q.getD ((i : Int)).toNat tHk.dflt).1.toNat).drop a).length ≤ (q.getD ((i : Int)).toNat tHk.dflt).1.toNat - a := ⟨rfl, by rw [List.length_drop, List.length_take]; omega⟩
          obtain ⟨-, hvl⟩ := hvl
          (repeat' (first | (with_reducible refine Cend.go ?_) | (with_reducible refine Step.mk True.intro ?_) | (with_reducible refine Step.mk ?_ ?_; focus (((try simp only [true_and, and_true, and_self, kmin, kmax, decide_eq_true_eq, decide_eq_false_iff_not, castD_self, castL_self, List.length_cons, List.length_nil, List.length_append, Int.natCast_add] at *) <;> omega))) | (with_reducible refine Step.mk ?_ ?_) | (with_reducible refine Way.t1 ?_) | (with_reducible refine Way.f1 ?_) | ((with_reducible refine Way.dec (fun _ => ?_) (fun _ => ?_)) <;> try (exfalso; omega)) | (with_reducible refine Way.nt ?_) | (with_reducible refine Way.mk (fun _ => ?_) (fun _ => ?_)) | (with_reducible refine Drawn.mk (by kernel_rfl) ?_) | (refine Run.mk ?_)))
          refine loop_by (X := Nat × List It) (fun x => [.put 2 (.v false [.p 2 0]), .put 3 (.v false [.p 3 0]), .put 4 (.v false [.p 4 0]), .put 5 (.v false [.p 5 0]), .put 7 (.v false [.o 91]), .put 8 (.v false [.d (.slice tIt) (rcX p)]), .put 14 (.v false [.o 93]), .put 15 (.v false [.d (.int .i64) (a : Int)]), .put 16 (.v false [.d (.int .i64) (i : Int)]), .put 17 (.v false [.p 17 0]), .put 20 (.v false [.d (.int .i64) (x.1 : Int)])])
            (fun x => [.put 91 (.row 9 .str Gj), .put 93 (.row 83 tIt x.2), .put 17 (.box 76 (tHk.leaves (q.getD ((i : Int)).toNat tHk.dflt))), .put 2 (.box 41 [.d (.slice tHk) p]), .put 3 (.box 41 [.d (.slice tHk) q]), .put 4 (.box 41 [.nl]), .put 5 (.box 24 [.d (.int .i64) 0, .d (.int .i64) 0])])
            (fun x => x.1 ≤ (q.getD ((i : Int)).toNat tHk.dflt).2.2.length ∧ x.2 = La ++ ((rcX p).take (q.getD ((i : Int)).toNat tHk.dflt).1.toNat).drop a ++ news ((q.getD ((i : Int)).toNat tHk.dflt).2.2.take x.1)) (fun x => (q.getD ((i : Int)).toNat tHk.dflt).2.2.length - x.1) (0, La ++ ((rcX p).take (q.getD ((i : Int)).toNat tHk.dflt).1.toNat).drop a) ⟨Nat.zero_le _, by simp [news]⟩ ?_ ?_
          · (refine Wk.keep ?_ ?_ <;> repeat' (first | exact True.intro | refine And.intro rfl ?_ | refine And.intro (congrArg (fun z : Int => AV.v false [Lf.d (.int .i64) z]) (by first | omega | (simp only [Int.natCast_add, List.length_cons, List.length_append, List.length_nil]; omega))) ?_ | refine And.intro ?_ ?_))
          rintro ⟨n, Ln⟩ ⟨hn, hLn⟩
          dsimp only at hn hLn ⊢
          have hLnl : Ln.length ≤ (rcL p q).length := by rw [hLn, List.length_append, List.length_append]; unfold news; rw [List.length_map, List.length_take]; omega
          by_cases hnl : n < (q.getD ((i : Int)).toNat tHk.dflt).2.2.length
          · have hgn := getD_at (a := (q.getD ((i : Int)).toNat tHk.dflt).2.2) Ty.str.dflt hnl
            have htk : (q.getD ((i : Int)).toNat tHk.dflt).2.2.take (n + 1) = (q.getD ((i : Int)).toNat tHk.dflt).2.2.take n ++ [(q.getD ((i : Int)).toNat tHk.dflt).2.2.getD ((n : Int)).toNat Ty.str.dflt] := by rw [hgn, List.take_add_one, List.getElem?_eq_getElem hnl]; rfl
            replace hgn := Lib.hid hgn
            replace htk := Lib.hid htk
            replace hLn := Lib.hid hLn
            (repeat' (first | (with_reducible refine Cend.go ?_) | (with_reducible refine Step.mk True.intro ?_) | (with_reducible refine Step.mk ?_ ?_; focus (((try simp only [true_and, and_true, and_self, kmin, kmax, decide_eq_true_eq, decide_eq_false_iff_not, castD_self, castL_self, List.length_cons, List.length_nil, List.length_append, Int.natCast_add] at *) <;> omega))) | (with_reducible refine Step.mk ?_ ?_) | (with_reducible refine Way.t1 ?_) | (with_reducible refine Way.f1 ?_) | ((with_reducible refine Way.dec (fun _ => ?_) (fun _ => ?_)) <;> try (exfalso; omega)) | (with_reducible refine Way.nt ?_) | (with_reducible refine Way.mk (fun _ => ?_) (fun _ => ?_)) | (with_reducible refine Drawn.mk (by kernel_rfl) ?_) | (refine Run.mk ?_)))
            (apply Back.by ((n + 1, _)); focus (refine Wk.ren [(93, 180)] rfl ?_ ?_ <;> repeat' (first | exact True.intro | refine And.intro rfl ?_ | refine And.intro (congrArg (fun z : Int => AV.v false [Lf.d (.int .i64) z]) (by first | omega | (simp only [Int.natCast_add, List.length_cons, List.length_append, List.length_nil]; omega))) ?_ | refine And.intro ?_ ?_)))
            · refine ⟨hnl, ?_⟩
              dsimp only
              rw [htk.out, hLn.out]
              unfold news
              rw [List.map_append, ← List.append_assoc]; rfl
            · show (q.getD ((i : Int)).toNat tHk.dflt).2.2.length - (n + 1) < (q.getD ((i : Int)).toNat tHk.dflt).2.2.length - n; omega
          · have hnd : (q.getD ((i : Int)).toNat tHk.dflt).2.2.take n = (q.getD ((i : Int)).toNat tHk.dflt).2.2 := List.take_of_length_le (by omega)
            rw [hnd] at hLn
            clear hnd
            replace hLn := Lib.hid hLn
            (repeat' (first | (with_reducible refine Cend.go ?_) | (with_reducible refine Step.mk True.intro ?_) | (with_reducible refine Step.mk ?_ ?_; focus (((try simp only [true_and, and_true, and_self, kmin, kmax, decide_eq_true_eq, decide_eq_false_iff_not, castD_self, castL_self, List.length_cons, List.length_nil, List.length_append, Int.natCast_add] at *) <;> omega))) | (with_reducible refine Step.mk ?_ ?_) | (with_reducible refine Way.t1 ?_) | (with_reducible refine Way.f1 ?_) | ((with_reducible refine Way.dec (fun _ => ?_) (fun _ => ?_)) <;> try (exfalso; omega)) | (with_reducible refine Way.nt ?_) | (with_reducible refine Way.mk (fun _ => ?_) (fun _ => ?_)) | (with_reducible refine Drawn.mk (by kernel_rfl) ?_) | (refine Run.mk ?_)))
            · exact ⟨show -1000000 ≤ (q.getD ((i : Int)).toNat tHk.dflt).1 by omega, show (q.getD ((i : Int)).toNat tHk.dflt).1 ≤ 1000000 by omega, o3, o4⟩
            have hEn : (((hkEnd (q.getD ((i : Int)).toNat tHk.dflt)).toNat : Nat) : Int) = hkEnd (q.getD ((i : Int)).toNat tHk.dflt) := by omega
            refine Back.by (i + 1, (hkEnd (q.getD ((i : Int)).toNat tHk.dflt)).toNat, Ln, Gj) ?_ ?_ ?_
            · dsimp only
              rw [hEn]
              (refine Wk.keep ?_ ?_ <;> repeat' (first | exact True.intro | refine And.intro rfl ?_ | refine And.intro (congrArg (fun z : Int => AV.v false [Lf.d (.int .i64) z]) (by first | omega | (simp only [Int.natCast_add, List.length_cons, List.length_append, List.length_nil]; omega))) ?_ | refine And.intro ?_ ?_))
            · refine ⟨hiq, by show (hkEnd (q.getD ((i : Int)).toNat tHk.dflt)).toNat ≤ 120; omega, ?_, hG'.out, hC'.out, hGjl, ?_⟩
              · dsimp only
                rw [hL.out, hLn.out, List.append_assoc, List.append_assoc, List.append_assoc]
              · dsimp only
                rw [hEn]; exact ch_le (by omega) hc2.out
            · show q.length - (i + 1) < q.length - i; omega
      · have hd : q.drop i = [] := List.drop_eq_nil_of_le (by omega)
        rw [hd] at hL hG hC
        have hL : rcL p q = La ++ (rcX p).drop a := hL
        have hG : rcG p q = G := hG
        have hC : rconf 0 0 (rcX p) q = none := hC
        subst hG
        have hcn : confI 0 (coM p) q = none := c1.out.symm.trans hC
        have hLb : (La ++ (rcX p).drop a).length ≤ 400 + 120 * 130 + 120 * 130 := by rw [← hL]; omega
        have hdl : ((rcX p).drop a).length ≤ (rcX p).length := by rw [List.length_drop]; omega
        clear hd hc hi
        replace hL := Lib.hid hL
        replace hC := Lib.hid hC
        replace hcn := Lib.hid hcn
        rw [List.length_append] at hLb
        (repeat' (first | (with_reducible refine Cend.go ?_) | (with_reducible refine Step.mk True.intro ?_) | (with_reducible refine Step.mk ?_ ?_; focus (((try simp only [true_and, and_true, and_self, kmin, kmax, decide_eq_true_eq, decide_eq_false_iff_not, castD_self, castL_self, List.length_cons, List.length_nil, List.length_append, Int.natCast_add] at *) <;> omega))) | (with_reducible refine Step.mk ?_ ?_) | (with_reducible refine Way.t1 ?_) | (with_reducible refine Way.f1 ?_) | ((with_reducible refine Way.dec (fun _ => ?_) (fun _ => ?_)) <;> try (exfalso; omega)) | (with_reducible refine Way.nt ?_) | (with_reducible refine Way.mk (fun _ => ?_) (fun _ => ?_)) | (with_reducible refine Drawn.mk (by kernel_rfl) ?_) | (refine Run.mk ?_)))
        · show (La.length + (((rcX p).take (((rcX p).length : Nat) : Int).toNat).drop ((a : Int)).toNat).length) * 24 ≤ 140737488355328 ∧ La.length + (((rcX p).take (((rcX p).length : Nat) : Int).toNat).drop ((a : Int)).toNat).length ≤ 1000000000000
          simp only [Int.toNat_natCast, List.take_length]
          omega
        have hLm : La ++ ((rcX p).take (((rcX p).length : Nat) : Int).toNat).drop ((a : Int)).toNat = rcL p q := by simp only [Int.toNat_natCast, List.take_length]; exact hL.out.symm
        have hLn : (rcL p q).length ≤ 32000 := by rw [hL.out, List.length_append]; omega
        have hcg : pC (coR p q) = 0 → coC p q = 0 ∧ coI p q = 0 ∧ coP p q = coR p q := fun h => by
          have e : coC p q = 0 := by unfold coC; rw [if_neg (by simp [hp]), if_neg (by simp [hq]), hcn.out]; exact if_neg (by simp [h])
          refine ⟨e, ?_, ?_⟩
          · unfold coI; rw [if_neg (by simp [hp]), if_neg (by simp [hq]), hcn.out]; exact if_neg (by simp [h])
          · unfold coP; rw [if_pos e]
        have hcb : pC (coR p q) ≠ 0 → coC p q = 10 ∧ coI p q = -1 ∧ coP p q = [] := fun h => by
          have e : coC p q = 10 := by unfold coC; rw [if_neg (by simp [hp]), if_neg (by simp [hq]), hcn.out]; exact if_pos h
          refine ⟨e, ?_, ?_⟩
          · unfold coI; rw [if_neg (by simp [hp]), if_neg (by simp [hq]), hcn.out]; exact if_pos h
          · unfold coP; rw [e]; rfl
        replace hcg := Lib.hid hcg
        replace hcb := Lib.hid hcb
        replace hLm := Lib.hid hLm
        clear hLal hLb hdl hLl
        refine loop_by (X := Nat × Nat × List ByteArray × List Hk) (fun x => [.put 4 (.v false [.p 4 0]), .put 5 (.v false [.p 5 0]), .put 7 (.v false [.d (.slice .str) (rcG p q)]), .put 14 (.v false [.d (.slice tIt) (rcL p q)]), .put 21 (.v false [.p 21 0]), .put 22 (.v false [.d (.int .i64) (x.2.1 : Int)]), .put 23 (.v false [.o 94]), .put 24 (.v false [.d (.int .i64) (x.1 : Int)])])
          (fun x => [.put 21 (.box 41 [.o 95]), .put 95 (.row 76 tHk x.2.2.2), .put 94 (.row 9 .str x.2.2.1), .put 4 (.box 41 [.nl]), .put 5 (.box 24 [.d (.int .i64) 0, .d (.int .i64) 0])])
          (fun x => x.1 ≤ (rcL p q).length ∧ x.2.1 ≤ 400 ∧ x.2.2.1.length ≤ x.1 ∧ x.2.2.2.length ≤ x.1 ∧ coR p q = x.2.2.2 ++ ro (rcG p q) x.2.1 x.2.2.1 ((rcL p q).drop x.1) ∧ inc x.2.1 ((rcL p q).drop x.1)) (fun x => (rcL p q).length - x.1) (0, 0, [], []) ⟨Nat.zero_le _, Nat.zero_le _, Nat.zero_le _, Nat.zero_le _, c2.out.symm, c5.out⟩ ?_ ?_
        · refine (Wk.freeze 7 91 (E := 9) (ty := .str) (l := rcG p q) (hl' := [.put 21 (.box 41 [.nl]), .put 187 (.row 83 tIt (La ++ ((rcX p).take (((rcX p).length : Nat) : Int).toNat).drop ((a : Int)).toNat)), .put 4 (.box 41 [.nl]), .put 5 (.box 24 [.d (.int .i64) 0, .d (.int .i64) 0])]) rfl rfl ⟨rfl, rfl, rfl, rfl, True.intro⟩ rfl).trans ?_
          refine (Wk.freeze 14 187 (E := 83) (ty := tIt) (l := rcL p q) (hl' := [.put 21 (.box 41 [.nl]), .put 4 (.box 41 [.nl]), .put 5 (.box 24 [.d (.int .i64) 0, .d (.int .i64) 0])]) rfl (by exact congrArg (fun z : List It => some (Ob.row 83 tIt z)) hLm.out) ⟨rfl, rfl, rfl, True.intro⟩ rfl).trans ?_
          refine (Wk.nilrow 23 94 9 .str rfl).trans ((Wk.nilbox 21 0 95 76 tHk (T := 41) (cs := [.nl]) rfl rfl rfl).trans ?_)
          (refine Wk.keep ?_ ?_ <;> repeat' (first | exact True.intro | refine And.intro rfl ?_ | refine And.intro (congrArg (fun z : Int => AV.v false [Lf.d (.int .i64) z]) (by first | omega | (simp only [Int.natCast_add, List.length_cons, List.length_append, List.length_nil]; omega))) ?_ | refine And.intro ?_ ?_))
        clear hLm
        rintro ⟨n, f, Fr, O⟩ ⟨hn, hf, hFr, hOl, hO, hin⟩
        dsimp only at hn hf hFr hOl hO hin ⊢
        by_cases hnl : n < (rcL p q).length
        · have hgn := getD_at (a := rcL p q) tIt.dflt hnl
          have hx4 := c6.out _ (List.getElem_mem hnl)
          rw [← hgn] at hx4
          rw [List.drop_eq_getElem_cons hnl, ← hgn] at hO hin
          replace hgn := Lib.hid hgn
          replace hO := Lib.hid hO
          rcases hin with ⟨hi1, hi2⟩ | ⟨hi1, hi2, hi3⟩
          · rw [ro_neg hi1] at hO
            replace hO := Lib.hid hO
            replace hi2 := Lib.hid hi2
            (repeat' (first | (with_reducible refine Cend.go ?_) | (with_reducible refine Step.mk True.intro ?_) | (with_reducible refine Step.mk ?_ ?_; focus (((try simp only [true_and, and_true, and_self, kmin, kmax, decide_eq_true_eq, decide_eq_false_iff_not, castD_self, castL_self, List.length_cons, List.length_nil, List.length_append, Int.natCast_add] at *) <;> omega))) | (with_reducible refine Step.mk ?_ ?_) | (with_reducible refine Way.t1 ?_) | (with_reducible refine Way.f1 ?_) | ((with_reducible refine Way.dec (fun _ => ?_) (fun _ => ?_)) <;> try (exfalso; omega)) | (with_reducible refine Way.nt ?_) | (with_reducible refine Way.mk (fun _ => ?_) (fun _ => ?_)) | (with_reducible refine Drawn.mk (by kernel_rfl) ?_) | (refine Run.mk ?_)))
            (apply Back.by ((n + 1, f, _, O)); focus (refine Wk.ren [(94, 207)] rfl ?_ ?_ <;> repeat' (first | exact True.intro | refine And.intro rfl ?_ | refine And.intro (congrArg (fun z : Int => AV.v false [Lf.d (.int .i64) z]) (by first | omega | (simp only [Int.natCast_add, List.length_cons, List.length_append, List.length_nil]; omega))) ?_ | refine And.intro ?_ ?_)))
            · refine ⟨hnl, hf, ?_, by show O.length ≤ n + 1; omega, hO.out, hi2.out⟩
              show (Fr ++ [_]).length ≤ n + 1
              rw [List.length_append, List.length_singleton]; omega
            · show (rcL p q).length - (n + 1) < (rcL p q).length - n; omega
          · rw [ro_pos hi1] at hO
            replace hi3 := Lib.hid hi3
            by_cases hem : f < ((rcL p q).getD ((n : Int)).toNat tIt.dflt).1.toNat ∨ Fr ≠ []
            · rw [if_pos hem] at hO
              have hem' : ((f : Int) < ((rcL p q).getD ((n : Int)).toNat tIt.dflt).1) ∨ ¬ Fr.length = 0 := by
                rcases hem with h | h
                · exact .inl (by omega)
                · exact .inr fun e => h (List.eq_nil_of_length_eq_zero e)
              clear hem
              replace hO := Lib.hid hO
              (repeat' (first | (with_reducible refine Cend.go ?_) | (with_reducible refine Step.mk True.intro ?_) | (with_reducible refine Step.mk ?_ ?_; focus (((try simp only [true_and, and_true, and_self, kmin, kmax, decide_eq_true_eq, decide_eq_false_iff_not, castD_self, castL_self, List.length_cons, List.length_nil, List.length_append, Int.natCast_add] at *) <;> omega))) | (with_reducible refine Step.mk ?_ ?_) | (with_reducible refine Way.t1 ?_) | (with_reducible refine Way.f1 ?_) | ((with_reducible refine Way.dec (fun _ => ?_) (fun _ => ?_)) <;> try (exfalso; omega)) | (with_reducible refine Way.nt ?_) | (with_reducible refine Way.mk (fun _ => ?_) (fun _ => ?_)) | (with_reducible refine Drawn.mk (by kernel_rfl) ?_) | (refine Run.mk ?_)))
              all_goals try (refine Back.by (n + 1, ((rcL p q).getD ((n : Int)).toNat tIt.dflt).1.toNat + 1, [], O ++ [((f : Int), gap (rcG p q) f ((rcL p q).getD ((n : Int)).toNat tIt.dflt).1.toNat, Fr)]) ?_ ?_ ?_)
              all_goals first
                | (show (rcL p q).length - (n + 1) < (rcL p q).length - n; omega)
                | (refine ⟨hnl, by show ((rcL p q).getD ((n : Int)).toNat tIt.dflt).1.toNat + 1 ≤ 400; omega, Nat.zero_le _, ?_, ?_, hi3.out⟩
                   · show (O ++ [_]).length ≤ n + 1
                     rw [List.length_append, List.length_singleton]; omega
                   · dsimp only
                     rw [hO.out, List.append_assoc]; rfl)
                | (refine (Wk.pack 234 (t := tHk) (x := ((f : Int), gap (rcG p q) f ((rcL p q).getD ((n : Int)).toNat tIt.dflt).1.toNat, Fr)) (l2 := []) (hl' := [.put 21 (.box 41 [.o 234]), .put 4 (.box 41 [.nl]), .put 5 (.box 24 [.d (.int .i64) 0, .d (.int .i64) 0])]) rfl rfl ⟨rfl, rfl, rfl, True.intro⟩ rfl rfl).trans ((Wk.nilrow 23 94 9 .str rfl).trans ?_)
                   (refine Wk.ren [(95, 234)] rfl ?_ ?_ <;> repeat' (first | exact True.intro | refine And.intro rfl ?_ | refine And.intro (congrArg (fun z : Int => AV.v false [Lf.d (.int .i64) z]) (by first | omega | (simp only [Int.natCast_add, List.length_cons, List.length_append, List.length_nil]; omega))) ?_ | refine And.intro ?_ ?_)))
                | skip
            · rw [if_neg hem] at hO
              have hem1 : f = ((rcL p q).getD ((n : Int)).toNat tIt.dflt).1.toNat := by
                rcases Nat.lt_or_ge f ((rcL p q).getD ((n : Int)).toNat tIt.dflt).1.toNat with h | h
                · exact absurd (.inl h) hem
                · omega
              have hem2 : Fr.length = 0 := by
                cases Fr with
                | nil => rfl
                | cons s l => exact absurd (.inr (by simp)) hem
              clear hem
              replace hO := Lib.hid hO
              (repeat' (first | (with_reducible refine Cend.go ?_) | (with_reducible refine Step.mk True.intro ?_) | (with_reducible refine Step.mk ?_ ?_; focus (((try simp only [true_and, and_true, and_self, kmin, kmax, decide_eq_true_eq, decide_eq_false_iff_not, castD_self, castL_self, List.length_cons, List.length_nil, List.length_append, Int.natCast_add] at *) <;> omega))) | (with_reducible refine Step.mk ?_ ?_) | (with_reducible refine Way.t1 ?_) | (with_reducible refine Way.f1 ?_) | ((with_reducible refine Way.dec (fun _ => ?_) (fun _ => ?_)) <;> try (exfalso; omega)) | (with_reducible refine Way.nt ?_) | (with_reducible refine Way.mk (fun _ => ?_) (fun _ => ?_)) | (with_reducible refine Drawn.mk (by kernel_rfl) ?_) | (refine Run.mk ?_)))
              refine Back.by (n + 1, ((rcL p q).getD ((n : Int)).toNat tIt.dflt).1.toNat + 1, [], O) ?_ ?_ ?_
              · refine (Wk.nilrow 23 94 9 .str rfl).trans ?_
                (refine Wk.keep ?_ ?_ <;> repeat' (first | exact True.intro | refine And.intro rfl ?_ | refine And.intro (congrArg (fun z : Int => AV.v false [Lf.d (.int .i64) z]) (by first | omega | (simp only [Int.natCast_add, List.length_cons, List.length_append, List.length_nil]; omega))) ?_ | refine And.intro ?_ ?_))
              · exact ⟨hnl, by show ((rcL p q).getD ((n : Int)).toNat tIt.dflt).1.toNat + 1 ≤ 400; omega, Nat.zero_le _, by show O.length ≤ n + 1; omega, hO.out, hi3.out⟩
              · show (rcL p q).length - (n + 1) < (rcL p q).length - n; omega
        · have hd : (rcL p q).drop n = [] := List.drop_eq_nil_of_le (by omega)
          rw [hd] at hO
          have hO : coR p q = O := hO.trans (List.append_nil O)
          subst hO
          (repeat' (first | (with_reducible refine Cend.go ?_) | (with_reducible refine Step.mk True.intro ?_) | (with_reducible refine Step.mk ?_ ?_; focus (((try simp only [true_and, and_true, and_self, kmin, kmax, decide_eq_true_eq, decide_eq_false_iff_not, castD_self, castL_self, List.length_cons, List.length_nil, List.length_append, Int.natCast_add] at *) <;> omega))) | (with_reducible refine Step.mk ?_ ?_) | (with_reducible refine Way.t1 ?_) | (with_reducible refine Way.f1 ?_) | ((with_reducible refine Way.dec (fun _ => ?_) (fun _ => ?_)) <;> try (exfalso; omega)) | (with_reducible refine Way.nt ?_) | (with_reducible refine Way.mk (fun _ => ?_) (fun _ => ?_)) | (with_reducible refine Drawn.mk (by kernel_rfl) ?_) | (refine Run.mk ?_)))
          · rename_i zq
            have zq : pC (coR p q) = 0 := zq
            obtain ⟨f1, f2, f3⟩ := hcg.out zq
            refine Ret.mk ?_
            rw [f1, f2, f3]
            exact ⟨⟨rfl, .frz rfl, True.intro⟩, ⟨rfl, .same, .same, True.intro⟩, True.intro⟩
          · rename_i zq
            have zq : ¬ pC (coR p q) = 0 := zq
            obtain ⟨f1, f2, f3⟩ := hcb.out zq
            refine Ret.mk ?_
            rw [f1, f2, f3]
            exact ⟨⟨rfl, .frz rfl, True.intro⟩, ⟨rfl, .same, .same, True.intro⟩, True.intro⟩
  · have hv : ¬ rpC p q = 0 := by
      unfold rpC
      by_cases h : pC p = 0
      · rw [if_neg (by simp [h])]; exact fun e => hpq ⟨h, e⟩
      · rw [if_pos h]; exact h
    have f1 : coC p q = rpC p q := by
      unfold coC rpC
      by_cases h : pC p = 0
      · have h1 : ¬ (pC p ≠ 0) := fun z => z h
        have h2 : pC q ≠ 0 := fun e => hpq ⟨h, e⟩
        rw [if_neg h1, if_neg h1, if_pos h2]
      · rw [if_pos h, if_pos h]
    have f2 : coI p q = rpI p q := by
      unfold coI rpI
      by_cases h : pC p = 0
      · have h1 : ¬ (pC p ≠ 0) := fun z => z h
        have h2 : pC q ≠ 0 := fun e => hpq ⟨h, e⟩
        rw [if_neg h1, if_neg h1, if_pos h2, if_neg h2]
      · rw [if_pos h, if_pos h]
    have f3 : coP p q = [] := by unfold coP; rw [f1]; exact if_neg hv
    replace hv := Lib.hid hv
    (refine fnM_of rfl rfl rfl rfl ?_; dsimp only [params, argAV, Ty.leaves, Ty.isSt])
    (repeat' (first | (with_reducible refine Cend.go ?_) | (with_reducible refine Step.mk True.intro ?_) | (with_reducible refine Step.mk ?_ ?_; focus (((try simp only [true_and, and_true, and_self, kmin, kmax, decide_eq_true_eq, decide_eq_false_iff_not, castD_self, castL_self, List.length_cons, List.length_nil, List.length_append, Int.natCast_add] at *) <;> omega))) | (with_reducible refine Step.mk ?_ ?_) | (with_reducible refine Way.t1 ?_) | (with_reducible refine Way.f1 ?_) | ((with_reducible refine Way.dec (fun zz => ?_) (fun zz => ?_)) <;> (try simp only [castD_self, castL_self] at zz) <;> try (exfalso; first | omega | contradiction)) | (with_reducible refine Way.nt ?_) | ((with_reducible refine Way.mk (fun _ => ?_) (fun _ => ?_)) <;> try (exfalso; rename_i hw; first | exact Bool.noConfusion ((Go.RowKit.Hid.out hv).symm.trans hw) | exact Bool.noConfusion (hw.symm.trans (Go.RowKit.Hid.out hv)))) | (with_reducible refine Drawn.mk (by kernel_rfl) ?_) | (refine Run.mk ?_)))
    all_goals try (rename_i zq; exact absurd zq hv.out)
    refine Ret.mk ?_
    rw [f1, f2, f3]
    exact ⟨⟨rfl, .frz rfl, True.intro⟩, ⟨rfl, .same, .same, True.intro⟩, True.intro⟩
end Go.Proofs.Ythacjpemeaekdaa
