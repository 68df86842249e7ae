/- The walk of the reference's Format. -/
import Derived.Test.YtppmhjaooiameaaDoorWxRFmt
namespace Go.Proofs.YtppmhjaooiameaaDoor
open Go.RowKit
set_option maxRecDepth 20000
set_option linter.unusedSimpArgs false

theorem rawOk_hi {t : List ByteArray} {hi : Int} : ∀ (q : List Hk) (k : Int), rawOk t hi k q → 0 ≤ k ∧ k ≤ hi ∧ hi ≤ t.length
  | [], k, h => h
  | h :: q, k, hr => by
    obtain ⟨r1, r2, r3, r4, r5, r6⟩ := hr
    have := rawOk_hi q (hkEnd h) r6
    have := hkEnd_ge h
    exact ⟨r1, by omega, by omega⟩
theorem LoopG.wk {C : CallH} {E : Env} {n : Nat} {c : Code} {sl sl' : List SEnt} {hl hl' : List HEnt} {B : List SEnt → List HEnt → KX → Prop} {Q : KX} (h : Wk n sl hl sl' hl') (k : LoopG C E n c sl' hl' B Q) : LoopG C E n c sl hl B Q := by
  obtain ⟨⟨R, ⟨m, s, t, w, r⟩, h2⟩⟩ := k
  exact ⟨⟨R, ⟨m, s, t, h.trans w, r⟩, h2⟩⟩
/-- one proof for several goals -/
theorem once {G : Prop} (T : Prop) (f : (Nat → Hid T) → G) (x : T) : G := f fun _ => Lib.hid x
/-- where the next hunk begins, or the end -/
def nxA (hi : Int) : List Hk → Int
  | [] => hi
  | h :: _ => h.1
theorem gb_line {t : List ByteArray} {hi k : Int} (h0 : 0 ≤ k) (q : List Hk) (hq : k < nxA hi q) (hl : k < t.length) (hh : nxA hi q ≤ t.length) : gb t hi k q = 32 :: ((t.getD k.toNat ByteArray.empty).data.toList ++ [10]) ++ gb t hi (k + 1) q := by
  have e : ∀ b : Int, k < b → b ≤ t.length → sub t k b = t.getD k.toNat ByteArray.empty :: sub t (k + 1) b := fun b hb hbl => by
    unfold sub
    have h1 : k.toNat < (t.take b.toNat).length := by rw [List.length_take]; omega
    rw [List.drop_eq_getElem_cons h1, List.getElem_take, List.getD_eq_getElem?_getD, List.getElem?_eq_getElem (by omega), show k.toNat + 1 = (k + 1).toNat by omega]; rfl
  cases q with
  | nil =>
    show pfx 32 (sub t k hi) = _ ++ pfx 32 (sub t (k + 1) hi)
    rw [e hi hq hh]; rfl
  | cons h q =>
    show pfx 32 (sub t k h.1) ++ pfx 45 h.2.1 ++ pfx 43 h.2.2 ++ gb t hi (hkEnd h) q = _ ++ (pfx 32 (sub t (k + 1) h.1) ++ pfx 45 h.2.1 ++ pfx 43 h.2.2 ++ gb t hi (hkEnd h) q)
    rw [e h.1 hq hh]
    simp only [pfx, List.flatMap_cons, List.append_assoc]
theorem gb_hunk {t : List ByteArray} {hi k : Int} {h : Hk} {q : List Hk} (e : h.1 = k) : gb t hi k (h :: q) = pfx 45 h.2.1 ++ pfx 43 h.2.2 ++ gb t hi (hkEnd h) q := by
  show pfx 32 (sub t k h.1) ++ pfx 45 h.2.1 ++ pfx 43 h.2.2 ++ gb t hi (hkEnd h) q = _
  have : sub t k h.1 = [] := by
    unfold sub
    rw [e, List.drop_eq_nil_of_le (by rw [List.length_take]; omega)]
  rw [this]; rfl
theorem gb_end {t : List ByteArray} {k : Int} : gb t k k [] = [] := by
  show pfx 32 (sub t k k) = []
  have : sub t k k = [] := by
    unfold sub
    rw [List.drop_eq_nil_of_le (by rw [List.length_take]; omega)]
  rw [this]; rfl
/-- the end of a group in the new text -/
theorem grow_end {t : List ByteArray} {hi : Int} : ∀ (q : List Hk) (k : Int), 0 < q.length → rawOk t hi k q → (q.getD 0 (0, [], [])).1 ≤ hkEnd (q.getD (q.length - 1) (0, [], [])) + pGrow q
  | [], _, h, _ => absurd h (by simp)
  | [h], k, _, _ => by
    show h.1 ≤ hkEnd h + (hkGrow h + 0)
    unfold hkEnd hkGrow; omega
  | h :: g :: q, k, _, hr => by
    obtain ⟨r1, r2, r3, r4, r5, r6⟩ := hr
    have ih := grow_end (g :: q) (hkEnd h) (by simp) r6
    obtain ⟨s1, s2, -⟩ := r6
    have ih : g.1 ≤ hkEnd ((g :: q).getD ((g :: q).length - 1) (0, [], [])) + pGrow (g :: q) := ih
    have e : (h :: g :: q).getD ((h :: g :: q).length - 1) (0, [], []) = (g :: q).getD ((g :: q).length - 1) (0, [], []) := rfl
    rw [e]
    show h.1 ≤ _ + (hkGrow h + pGrow (g :: q))
    have s2 : hkEnd h ≤ g.1 := s2
    unfold hkEnd at s2
    unfold hkGrow
    omega
def sp_RFormat : SpecF := pureSp false [.slice .str, tPat, .int .i64] (fun _ => True) (fun (t', p', c', _) => .tu [(false, [.d .str (fmS t' p' c')]), (true, [.d (.int .i64) (fmC t' p' c').1, .d (.int .i64) (fmC t' p' c').2])])
set_option maxHeartbeats 4000000 in
theorem RFormat_sp : SpFact 8 sp_RFormat := by
  refine ⟨⟨Tryd.f8, rfl, rfl, rfl, pureSp_okF (env_fine (sp := [(21, sp_RApply), (23, sp_REnd), (24, sp_RShown), (22, sp_At)]) (eq := [])
    ⟨RApply_sp, REnd_sp, RShown_sp, At_sp, True.intro⟩ True.intro) rfl (fun _ _ => rfl) ?_⟩, pureSp_loc _ _ _ _⟩
  rintro ⟨t, p, c, u⟩ - -
  change List Hk at p
  change List ByteArray at t
  change Int at c
  by_cases ha : (apF p t).1 = 0
  · have hv := Lib.hid ha
    have ha2 := ap_zero ha
    by_cases hc : c < 0 ∨ 120 < c
    · have eC : fmC t p c = (3, -3) := by unfold fmC; rw [if_neg (fun z => z ha), if_pos hc]
      have eS : fmS t p c = ⟨#[]⟩ := by unfold fmS; rw [eC]; rfl
      (refine fnM_of rfl rfl rfl rfl ?_; dsimp only [params, argAV, Ty.leaves, Ty.isSt])
      (repeat' (first | (with_reducible refine Cend.go ?_) | (with_reducible refine Step.mk True.intro ?_) | (with_reducible refine Step.mk ?_ ?_; focus (((try simp only [true_and, and_true, and_self, kmin, kmax, decide_eq_true_eq, decide_eq_false_iff_not, castD_self, castL_self, List.length_cons, List.length_nil, List.length_append, Int.natCast_add] at *) <;> omega))) | (with_reducible refine Step.mk ?_ ?_) | (with_reducible refine Way.t1 ?_) | (with_reducible refine Way.f1 ?_) | ((with_reducible refine Way.dec (fun zz => ?_) (fun zz => ?_)) <;> (try simp only [castD_self, castL_self] at zz) <;> try (exfalso; first | omega | contradiction)) | (with_reducible refine Way.nt ?_) | ((with_reducible refine Way.mk (fun _ => ?_) (fun _ => ?_)) <;> try (exfalso; rename_i hw; first | exact Bool.noConfusion ((Go.RowKit.Hid.out hv).symm.trans hw) | exact Bool.noConfusion (hw.symm.trans (Go.RowKit.Hid.out hv)))) | (with_reducible refine Drawn.mk (by kernel_rfl) ?_) | (refine Run.mk ?_)))
      all_goals refine Ret.mk ?_
      all_goals rw [eC, eS]
      all_goals exact ⟨⟨rfl, .same, True.intro⟩, ⟨rfl, .same, .same, True.intro⟩, True.intro⟩
    · have hC : fmC t p c = if 4096 < (fmL t p c).length then (10, -1) else (0, 0) := by unfold fmC; rw [if_neg (fun z => z ha), if_neg hc]
      have hc0 : 0 ≤ c := by omega
      have hc1 : c ≤ 120 := by omega
      obtain ⟨a1, a2, a3, a4⟩ := apF_good ha
      obtain ⟨p1, p2, p3⟩ := pC_iff.1 a1
      have okp := (pC_ok a1).2
      have hraw := ap_rawOk ha
      have htl := vC_len t a2
      have hts := line_small a2
      have hocc : ∀ h ∈ p, hkEnd h ≤ t.length := fun h hh => by
        have := (occ_iff.1 (missI_none p 0 a3 h hh)).2.2.1
        show h.1 + (h.2.1.length : Int) ≤ _
        omega
      clear hc
      replace hocc := Lib.hid hocc
      replace p2 := Lib.hid p2
      replace p3 := Lib.hid p3
      replace okp := Lib.hid okp
      replace hraw := Lib.hid hraw
      replace hts := Lib.hid hts
      replace hC := Lib.hid hC
      (refine fnM_of rfl rfl rfl rfl ?_; dsimp only [params, argAV, Ty.leaves, Ty.isSt])
      (repeat' (first | (with_reducible refine Cend.go ?_) | (with_reducible refine Step.mk True.intro ?_) | (with_reducible refine Step.mk ?_ ?_; focus (((try simp only [true_and, and_true, and_self, kmin, kmax, decide_eq_true_eq, decide_eq_false_iff_not, castD_self, castL_self, List.length_cons, List.length_nil, List.length_append, Int.natCast_add] at *) <;> omega))) | (with_reducible refine Step.mk ?_ ?_) | (with_reducible refine Way.t1 ?_) | (with_reducible refine Way.f1 ?_) | ((with_reducible refine Way.dec (fun zz => ?_) (fun zz => ?_)) <;> (try simp only [castD_self, castL_self] at zz) <;> try (exfalso; first | omega | contradiction)) | (with_reducible refine Way.nt ?_) | ((with_reducible refine Way.mk (fun _ => ?_) (fun _ => ?_)) <;> try (exfalso; rename_i hw; first | exact Bool.noConfusion ((Go.RowKit.Hid.out hv).symm.trans hw) | exact Bool.noConfusion (hw.symm.trans (Go.RowKit.Hid.out hv)))) | (with_reducible refine Drawn.mk (by kernel_rfl) ?_) | (refine Run.mk ?_)))
      refine loop_by (X := Nat × Int × ByteArray) (fun x => [.put 0 (.v false [.d (.slice .str) t]), .put 2 (.v false [.d (.int .i64) c]), .put 4 (.v false [.p 4 0]), .put 7 (.v false [.p 7 0]), .put 10 (.v false [.d .str x.2.2]), .put 11 (.v false [.d (.int .i64) x.2.1]), .put 12 (.v false [.d (.int .i64) (x.1 : Int)])])
        (fun x => [.put 7 (.box 27 [.d (.int .i64) 0, .d (.int .i64) 0]), .put 4 (.box 25 [.d (.slice tHk) p])])
        (fun x => x.1 ≤ p.length ∧ fmL t p c = x.2.2.data.toList ++ fm t c p.length x.2.1 (p.drop x.1) ∧ x.2.2.size ≤ 40000 * x.1 ∧ -(120 * (x.1 : Int)) ≤ x.2.1 ∧ x.2.1 ≤ 120 * (x.1 : Int) ∧ (x.1 < p.length → 0 ≤ gLow c (p.getD ((x.1 : Nat) : Int).toNat (0, [], [])) + x.2.1)) (fun x => p.length - x.1) (0, 0, ⟨#[]⟩)
        ⟨Nat.zero_le _, rfl, Nat.zero_le _, by show -(120 * ((0 : Nat) : Int)) ≤ 0; omega, by show (0 : Int) ≤ 120 * ((0 : Nat) : Int); omega, fun _ => by show 0 ≤ gLow c _ + 0; unfold gLow; omega⟩ ?_ ?_
      · (refine Wk.keep ?_ ?_ <;> repeat' (first | exact True.intro | refine And.intro rfl ?_ | refine And.intro (congrArg (fun z : Int => AV.v false [Lf.d (.int .i64) z]) (by first | omega | (simp only [Int.natCast_add, List.length_cons, List.length_append, List.length_nil]; omega))) ?_ | refine And.intro ?_ ?_))
      rintro ⟨i, g, B⟩ ⟨hi, hB, hBl, hg0, hg1, hgn⟩
      dsimp only at hi hB hBl hg0 hg1 hgn ⊢
      by_cases hip : i < p.length
      · replace hgn := hgn hip
        have hg := getD_at (a := p) tHk.dflt hip
        have hdi : p.drop i = p[i] :: p.drop (i + 1) := List.drop_eq_getElem_cons hip
        rw [← hg] at hdi
        rw [hdi, fm_step (by rw [← hdi, List.length_drop]; omega)] at hB
        have hKp := gn_pos c (p.drop (i + 1)) (p.getD ((i : Int)).toNat tHk.dflt)
        have hKl := gn_le c (p.drop (i + 1)) (p.getD ((i : Int)).toNat tHk.dflt)
        rw [List.length_drop] at hKl
        obtain ⟨K, hKg⟩ : ∃ K, K = gn c (p.getD ((i : Int)).toNat tHk.dflt) (p.drop (i + 1)) := ⟨_, rfl⟩
        rw [← hKg] at hB hKp hKl
        rw [← hdi] at hB
        replace hg := Lib.hid hg
        replace hdi := Lib.hid hdi
        replace hB := Lib.hid hB
        (repeat' (first | (with_reducible refine Cend.go ?_) | (with_reducible refine Step.mk True.intro ?_) | (with_reducible refine Step.mk ?_ ?_; focus (((try simp only [true_and, and_true, and_self, kmin, kmax, decide_eq_true_eq, decide_eq_false_iff_not, castD_self, castL_self, List.length_cons, List.length_nil, List.length_append, Int.natCast_add] at *) <;> omega))) | (with_reducible refine Step.mk ?_ ?_) | (with_reducible refine Way.t1 ?_) | (with_reducible refine Way.f1 ?_) | ((with_reducible refine Way.dec (fun zz => ?_) (fun zz => ?_)) <;> (try simp only [castD_self, castL_self] at zz) <;> try (exfalso; first | omega | contradiction)) | (with_reducible refine Way.nt ?_) | ((with_reducible refine Way.mk (fun _ => ?_) (fun _ => ?_)) <;> try (exfalso; rename_i hw; first | exact Bool.noConfusion ((Go.RowKit.Hid.out hv).symm.trans hw) | exact Bool.noConfusion (hw.symm.trans (Go.RowKit.Hid.out hv)))) | (with_reducible refine Drawn.mk (by kernel_rfl) ?_) | (refine Run.mk ?_)))
        refine loop_by (X := Nat) (fun x => [.put 0 (.v false [.d (.slice .str) t]), .put 2 (.v false [.d (.int .i64) c]), .put 4 (.v false [.p 4 0]), .put 7 (.v false [.p 7 0]), .put 10 (.v false [.d .str B]), .put 11 (.v false [.d (.int .i64) g]), .put 12 (.v false [.d (.int .i64) (i : Int)]), .put 13 (.v false [.d (.int .i64) (x : Int)])])
          (fun _ => [.put 7 (.box 27 [.d (.int .i64) 0, .d (.int .i64) 0]), .put 4 (.box 25 [.d (.slice tHk) p])])
          (fun x => i ≤ x ∧ x < p.length ∧ K = (x - i) + gn c (p.getD ((x : Int)).toNat tHk.dflt) (p.drop (x + 1))) (fun x => p.length - x) i ⟨Nat.le_refl _, hip, by rw [Nat.sub_self, Nat.zero_add]; exact hKg⟩ ?_ ?_
        · (refine Wk.keep ?_ ?_ <;> repeat' (first | exact True.intro | refine And.intro rfl ?_ | refine And.intro (congrArg (fun z : Int => AV.v false [Lf.d (.int .i64) z]) (by first | omega | (simp only [Int.natCast_add, List.length_cons, List.length_append, List.length_nil]; omega))) ?_ | refine And.intro ?_ ?_))
        clear hKg
        rintro x ⟨hx0, hx1, hxK⟩
        (try dsimp only)
        have hgy := getD_at (a := p) tHk.dflt hx1
        have hoky := okp.out _ (List.getElem_mem hx1)
        have hoby := hocc.out _ (List.getElem_mem hx1)
        rw [← hgy] at hoky hoby
        have hE2 : hkEnd ((p.getD ((x : Int)).toNat tHk.dflt).1, (p.getD ((x : Int)).toNat tHk.dflt).2.1, (p.getD ((x : Int)).toNat tHk.dflt).2.2) = (p.getD ((x : Int)).toNat tHk.dflt).1 + ((p.getD ((x : Int)).toNat tHk.dflt).2.1.length : Int) := rfl
        have hE3 : hkEnd (p.getD ((x : Int)).toNat tHk.dflt) = (p.getD ((x : Int)).toNat tHk.dflt).1 + ((p.getD ((x : Int)).toNat tHk.dflt).2.1.length : Int) := rfl
        have hoky' := hoky.b
        obtain ⟨y1, y2, y3, y4⟩ := hoky
        replace hoky' := Lib.hid hoky'
        replace hgy := Lib.hid hgy
        by_cases hA : (x + 1 < p.length ∧ (p.getD ((x : Int) + 1).toNat tHk.dflt).1 - ((p.getD ((x : Int)).toNat tHk.dflt).1 + ((p.getD ((x : Int)).toNat tHk.dflt).2.1.length : Int)) ≤ 2 * c)
        · obtain ⟨hA1, hA2⟩ := hA
          have hgx := getD_at (a := p) tHk.dflt hA1
          rw [show ((x + 1 : Nat) : Int) = (x : Int) + 1 by omega] at hgx
          obtain ⟨x1, x2, x3, x4⟩ := okp.out _ (List.getElem_mem hA1)
          rw [← hgx] at x1 x2 x3 x4
          have hdx : p.drop (x + 1) = p[x + 1] :: p.drop (x + 1 + 1) := List.drop_eq_getElem_cons hA1
          rw [hdx, ← hgx, gn_cons, if_pos (by rw [hE3]; exact hA2)] at hxK
          replace hgx := Lib.hid hgx
          replace hdx := Lib.hid hdx
          (repeat' (first | (with_reducible refine Cend.go ?_) | (with_reducible refine Step.mk True.intro ?_) | (with_reducible refine Step.mk ?_ ?_; focus (((try simp only [true_and, and_true, and_self, kmin, kmax, decide_eq_true_eq, decide_eq_false_iff_not, castD_self, castL_self, List.length_cons, List.length_nil, List.length_append, Int.natCast_add] at *) <;> omega))) | (with_reducible refine Step.mk ?_ ?_) | (with_reducible refine Way.t1 ?_) | (with_reducible refine Way.f1 ?_) | ((with_reducible refine Way.dec (fun zz => ?_) (fun zz => ?_)) <;> (try simp only [castD_self, castL_self] at zz) <;> try (exfalso; first | omega | contradiction)) | (with_reducible refine Way.nt ?_) | ((with_reducible refine Way.mk (fun _ => ?_) (fun _ => ?_)) <;> try (exfalso; rename_i hw; first | exact Bool.noConfusion ((Go.RowKit.Hid.out hv).symm.trans hw) | exact Bool.noConfusion (hw.symm.trans (Go.RowKit.Hid.out hv)))) | (with_reducible refine Drawn.mk (by kernel_rfl) ?_) | (refine Run.mk ?_)))
          · exact hoky'.out
          refine Back.by (x + 1) ?_ ?_ ?_
          · (refine Wk.keep ?_ ?_ <;> repeat' (first | exact True.intro | refine And.intro rfl ?_ | refine And.intro (congrArg (fun z : Int => AV.v false [Lf.d (.int .i64) z]) (by first | omega | (simp only [Int.natCast_add, List.length_cons, List.length_append, List.length_nil]; omega))) ?_ | refine And.intro ?_ ?_))
          · refine ⟨by omega, hA1, ?_⟩
            rw [show ((x + 1 : Nat) : Int) = (x : Int) + 1 by omega]
            omega
          · show p.length - (x + 1) < p.length - x; omega
        · have hKx : K = x + 1 - i := by
            by_cases hA1 : x + 1 < p.length
            · have hdx : p.drop (x + 1) = p[x + 1] :: p.drop (x + 1 + 1) := List.drop_eq_getElem_cons hA1
              have hgx := getD_at (a := p) tHk.dflt hA1
              rw [show ((x + 1 : Nat) : Int) = (x : Int) + 1 by omega] at hgx
              rw [hdx, ← hgx, gn_cons, if_neg (by rw [hE3]; exact fun z => hA ⟨hA1, z⟩)] at hxK
              omega
            · rw [List.drop_eq_nil_of_le (by omega)] at hxK
              have : gn c (p.getD ((x : Int)).toNat tHk.dflt) [] = 1 := rfl
              omega
          have hgetx : x + 1 < p.length → (0 ≤ (p.getD ((x : Int) + 1).toNat tHk.dflt).1 ∧ (p.getD ((x : Int) + 1).toNat tHk.dflt).1 ≤ 120) := fun h => by
            have hgx := getD_at (a := p) tHk.dflt h
            rw [show ((x + 1 : Nat) : Int) = (x : Int) + 1 by omega] at hgx
            obtain ⟨x1, x2, x3, x4⟩ := okp.out _ (List.getElem_mem h)
            rw [← hgx] at x1 x2
            exact ⟨x1, x2⟩
          have hA' : x + 1 < p.length → 2 * c < (p.getD ((x : Int) + 1).toNat tHk.dflt).1 - ((p.getD ((x : Int)).toNat tHk.dflt).1 + ((p.getD ((x : Int)).toNat tHk.dflt).2.1.length : Int)) := fun h => by
            have : ¬ _ := fun z => hA ⟨h, z⟩
            omega
          have hQl : ((p.take (x + 1)).drop i).length = x + 1 - i := by rw [List.length_drop, List.length_take]; omega
          have hQm : ∀ h ∈ (p.take (x + 1)).drop i, h ∈ p := fun h hh => List.mem_of_mem_take (List.mem_of_mem_drop hh)
          have hQK : (p.drop i).take K = (p.take (x + 1)).drop i := by rw [hKx, List.drop_take]
          have hQr : p.drop i = (p.take (x + 1)).drop i ++ p.drop (x + 1) := by
            rw [← List.drop_append_of_le_length (by rw [List.length_take]; omega), List.take_append_drop]
          have hQd : (p.drop i).drop K = p.drop (x + 1) := by rw [List.drop_drop, hKx, show i + (x + 1 - i) = x + 1 by omega]
          have hB2 := hB.out
          rw [hQK, hQd] at hB2
          have e0 : ((p.take (x + 1)).drop i).getD 0 (0, [], []) = p.getD ((i : Int)).toNat (0, [], []) := by
            rw [Int.toNat_natCast, List.getD_eq_getElem?_getD, List.getD_eq_getElem?_getD, List.getElem?_drop, List.getElem?_take_of_lt (by omega), Nat.add_zero]
          have e1 : ((p.take (x + 1)).drop i).getD (((p.take (x + 1)).drop i).length - 1) (0, [], []) = p.getD ((x : Int)).toNat (0, [], []) := by
            rw [hQl, Int.toNat_natCast, List.getD_eq_getElem?_getD, List.getD_eq_getElem?_getD, List.getElem?_drop, show i + (x + 1 - i - 1) = x by omega, List.getElem?_take_of_lt (by omega)]
          have hG : gOk t ((p.take (x + 1)).drop i) c g := by
            refine ⟨htl, hts.out, by omega, by omega, fun h hh => p3.out h (hQm h hh), ⟨hc0, hc1⟩, ⟨by omega, by omega⟩, ?_⟩
            obtain ⟨lo', hr⟩ := rawOk_tail i p 0 hraw.out hip
            rw [hQr] at hr
            have z0 := (p3.out _ (List.getElem_mem hip)).1
            rw [← hg.out] at z0
            have z0 : 0 ≤ (p.getD ((i : Int)).toNat (0, [], [])).1 := z0
            have z1 : hkEnd (p.getD ((x : Int)).toNat (0, [], [])) ≤ t.length := hoby
            rw [e0, e1]
            refine rawOk_sub ?_ _ _ lo' _ (by omega) hr ?_ ?_ ?_
            · unfold gHigh; omega
            · unfold gLow; omega
            · rw [e0]; unfold gLow; omega
            · rw [e1]; unfold gHigh; omega
          have hGl := grp_len hG
          have hgb := pGrow_bd ((p.take (x + 1)).drop i) fun h hh => okp.out h (hQm h hh)
          rw [hQl] at hGl hgb
          have hr0 := hG.2.2.2.2.2.2.2
          have hge := grow_end _ _ (by omega) hr0
          have hrh := rawOk_hi _ _ hr0
          rw [e0, e1] at hge
          rw [e0, e1] at hr0 hrh
          have eg : grp t c g ((p.take (x + 1)).drop i) = [64, 64, 32, 45] ++ side (gLow c (p.getD ((i : Int)).toNat (0, [], []))) (gHigh t c (p.getD ((x : Int)).toNat (0, [], [])) - gLow c (p.getD ((i : Int)).toNat (0, [], []))) ++ [32, 43] ++ side (gLow c (p.getD ((i : Int)).toNat (0, [], [])) + g) (gHigh t c (p.getD ((x : Int)).toNat (0, [], [])) - gLow c (p.getD ((i : Int)).toNat (0, [], [])) + pGrow ((p.take (x + 1)).drop i)) ++ [32, 64, 64, 10] ++ gb t (gHigh t c (p.getD ((x : Int)).toNat (0, [], []))) (gLow c (p.getD ((i : Int)).toNat (0, [], []))) ((p.take (x + 1)).drop i) := by
            unfold grp
            dsimp only
            rw [e0, e1]
          obtain ⟨o1, o2, o3, o4⟩ := okp.out _ (List.getElem_mem hip)
          rw [← hg.out] at o1 o2 o3 o4
          have hlo : gLow c (p.getD ((i : Int)).toNat (0, [], [])) = max ((p.getD ((i : Int)).toNat tHk.dflt).1 - c) 0 := rfl
          have hhi : gHigh t c (p.getD ((x : Int)).toNat (0, [], [])) = min (hkEnd (p.getD ((x : Int)).toNat tHk.dflt) + c) t.length := rfl
          generalize gLow c (p.getD ((i : Int)).toNat (0, [], [])) = lo at *
          generalize gHigh t c (p.getD ((x : Int)).toNat (0, [], [])) = hi' at *
          have hge : (p.getD ((i : Int)).toNat tHk.dflt).1 ≤ hkEnd (p.getD ((x : Int)).toNat tHk.dflt) + pGrow ((p.take (x + 1)).drop i) := hge
          clear hA hQm hQr hQd hQK e0 e1 hxK
          replace hG := Lib.hid hG
          replace hB2 := Lib.hid hB2
          replace hr0 := Lib.hid hr0
          replace eg := Lib.hid eg
          obtain ⟨rh1, rh2, rh3⟩ := hrh
          apply once
          · intro key
            rcases (show (p.getD ((i : Int)).toNat tHk.dflt).1 - c < 0 ∨ ¬ ((p.getD ((i : Int)).toNat tHk.dflt).1 - c < 0) by omega) with hb1 | hb1 <;> rcases (show (t.length : Int) < hkEnd (p.getD ((x : Int)).toNat tHk.dflt) + c ∨ ¬ ((t.length : Int) < hkEnd (p.getD ((x : Int)).toNat tHk.dflt) + c) by omega) with hb2 | hb2
            all_goals
              (repeat' (first | (with_reducible refine Cend.go ?_) | (with_reducible refine Step.mk True.intro ?_) | (with_reducible refine Step.mk ?_ ?_; focus (((try simp only [true_and, and_true, and_self, kmin, kmax, decide_eq_true_eq, decide_eq_false_iff_not, castD_self, castL_self, List.length_cons, List.length_nil, List.length_append, Int.natCast_add] at *) <;> omega))) | (with_reducible refine Step.mk ?_ ?_) | (with_reducible refine Way.t1 ?_) | (with_reducible refine Way.f1 ?_) | ((with_reducible refine Way.dec (fun zz => ?_) (fun zz => ?_)) <;> (try simp only [castD_self, castL_self] at zz) <;> try (exfalso; first | omega | contradiction)) | (with_reducible refine Way.nt ?_) | ((with_reducible refine Way.mk (fun _ => ?_) (fun _ => ?_)) <;> try (exfalso; rename_i hw; first | exact Bool.noConfusion ((Go.RowKit.Hid.out hv).symm.trans hw) | exact Bool.noConfusion (hw.symm.trans (Go.RowKit.Hid.out hv)))) | (with_reducible refine Drawn.mk (by kernel_rfl) ?_) | (refine Run.mk ?_)))
            all_goals first
              | exact hoky'.out
              | (refine LoopG.wk (sl' := [.put 0 (.v false [.d (.slice .str) t]), .put 2 (.v false [.d (.int .i64) c]), .put 4 (.v false [.p 4 0]), .put 7 (.v false [.p 7 0]), .put 10 (.v false [.d .str B]), .put 11 (.v false [.d (.int .i64) g]), .put 12 (.v false [.d (.int .i64) (i : Int)]), .put 13 (.v false [.d (.int .i64) (x : Int)]), .put 14 (.v false [.d (.int .i64) lo]), .put 15 (.v false [.d (.int .i64) hi']), .put 16 (.v false [.d .str ⟨#[]⟩]), .put 17 (.v false [.d (.int .i64) 0]), .put 18 (.v false [.d (.int .i64) 0]), .put 19 (.v false [.d (.int .i64) lo])])
                   (hl' := [.put 7 (.box 27 [.d (.int .i64) 0, .d (.int .i64) 0]), .put 4 (.box 25 [.d (.slice tHk) p])]) ?_ (key 0).out
                 simp only [castD_self]
                 (refine Wk.keep ?_ ?_ <;> repeat' (first | exact True.intro | refine And.intro rfl ?_ | refine And.intro (congrArg (fun z : Int => AV.v false [Lf.d (.int .i64) z]) (by first | omega | (simp only [Int.natCast_add, List.length_cons, List.length_append, List.length_nil]; omega))) ?_ | refine And.intro ?_ ?_)))
          · skip
            have hgbl := gb_len (hi := hi') htl hts.out ((p.take (x + 1)).drop i) lo hG.out.2.2.2.2.1
            rw [hQl] at hgbl
            refine loop_by (X := Nat × Int × ByteArray × Int × Int) (fun y => [.put 0 (.v false [.d (.slice .str) t]), .put 2 (.v false [.d (.int .i64) c]), .put 4 (.v false [.p 4 0]), .put 7 (.v false [.p 7 0]), .put 10 (.v false [.d .str B]), .put 11 (.v false [.d (.int .i64) g]), .put 12 (.v false [.d (.int .i64) (y.1 : Int)]), .put 13 (.v false [.d (.int .i64) (x : Int)]), .put 14 (.v false [.d (.int .i64) lo]), .put 15 (.v false [.d (.int .i64) hi']), .put 16 (.v false [.d .str y.2.2.1]), .put 17 (.v false [.d (.int .i64) y.2.2.2.1]), .put 18 (.v false [.d (.int .i64) y.2.2.2.2]), .put 19 (.v false [.d (.int .i64) y.2.1])]) (fun _ => [.put 7 (.box 27 [.d (.int .i64) 0, .d (.int .i64) 0]), .put 4 (.box 25 [.d (.slice tHk) p])])
              (fun y => i ≤ y.1 ∧ y.1 ≤ x + 1 ∧ rawOk t hi' y.2.1 ((p.take (x + 1)).drop y.1) ∧ gb t hi' lo ((p.take (x + 1)).drop i) = y.2.2.1.data.toList ++ gb t hi' y.2.1 ((p.take (x + 1)).drop y.1) ∧ y.2.2.2.1 = y.2.1 - lo ∧ y.2.2.2.2 = y.2.1 - lo + pGrow ((p.take (x + 1)).drop i) - pGrow ((p.take (x + 1)).drop y.1) ∧ lo ≤ y.2.1)
              (fun y => (hi' - y.2.1).toNat + (x + 1 - y.1)) (i, lo, ⟨#[]⟩, 0, 0) ⟨Nat.le_refl _, by omega, hr0.out, rfl, by show (0 : Int) = lo - lo; omega, by show (0 : Int) = lo - lo + pGrow ((p.take (x + 1)).drop i) - pGrow ((p.take (x + 1)).drop i); omega, Int.le_refl _⟩ ?_ ?_
            · (refine Wk.keep ?_ ?_ <;> repeat' (first | exact True.intro | refine And.intro rfl ?_ | refine And.intro (congrArg (fun z : Int => AV.v false [Lf.d (.int .i64) z]) (by first | omega | (simp only [Int.natCast_add, List.length_cons, List.length_append, List.length_nil]; omega))) ?_ | refine And.intro ?_ ?_))
            rintro ⟨m, k, b, old, fr⟩ ⟨hm0, hm1, hr, hb, hold, hfr, hkl⟩
            dsimp only at hm0 hm1 hr hb hold hfr hkl ⊢
            have hbsz : b.size ≤ 4500000 := by
              have e := congrArg List.length hb
              rw [List.length_append] at e
              have e2 : b.data.toList.length = b.size := rfl
              omega
            obtain ⟨rk0, rk1, -⟩ := rawOk_hi _ _ hr
            have hpg : ∀ n, -15600 ≤ pGrow ((p.take (x + 1)).drop n) ∧ pGrow ((p.take (x + 1)).drop n) ≤ 15600 := fun n => by
              have := pGrow_bd ((p.take (x + 1)).drop n) fun h hh => okp.out h (List.mem_of_mem_take (List.mem_of_mem_drop hh))
              rw [List.length_drop, List.length_take] at this
              omega
            have hpg0 := hpg m
            have hpg1 := hpg (m + 1)
            clear hpg
            have hfr0 := hfr
            by_cases hmx : m ≤ x
            · have hmp : m < p.length := by omega
              have hgm := getD_at (a := p) tHk.dflt hmp
              have hdm : (p.take (x + 1)).drop m = (p.getD ((m : Int)).toNat tHk.dflt) :: (p.take (x + 1)).drop (m + 1) := by
                rw [List.drop_eq_getElem_cons (show m < (p.take (x + 1)).length by rw [List.length_take]; omega), List.getElem_take, hgm]
              obtain ⟨m1, m2, m3, m4⟩ := okp.out _ (List.getElem_mem hmp)
              have mb := (okp.out _ (List.getElem_mem hmp)).b
              have mg := p3.out _ (List.getElem_mem hmp)
              rw [← hgm] at m1 m2 m3 m4 mb mg
              have l801 := line_small mg.2.2.1
              have l802 := line_small mg.2.2.2.1
              rw [hdm] at hr hfr
              obtain ⟨r1, r2, r3, r4, r5, r6⟩ := hr
              have hEh : hkEnd (p.getD ((m : Int)).toNat tHk.dflt) = (p.getD ((m : Int)).toNat tHk.dflt).1 + ((p.getD ((m : Int)).toNat tHk.dflt).2.1.length : Int) := rfl
              obtain ⟨s0, s1, -⟩ := rawOk_hi _ _ r6
              have hfr : fr = k - lo + pGrow ((p.take (x + 1)).drop i) - (((((p.getD ((m : Int)).toNat tHk.dflt).2.2.length : Int) - ((p.getD ((m : Int)).toNat tHk.dflt).2.1.length : Int))) + pGrow ((p.take (x + 1)).drop (m + 1))) := hfr
              have hpf1 := pfx_len 45 (p.getD ((m : Int)).toNat tHk.dflt).2.1 l801
              have hpf2 := pfx_len 43 (p.getD ((m : Int)).toNat tHk.dflt).2.2 l802
              replace hgm := Lib.hid hgm
              replace mb := Lib.hid mb
              replace mg := Lib.hid mg
              replace l801 := Lib.hid l801
              replace l802 := Lib.hid l802
              by_cases he : (p.getD ((m : Int)).toNat tHk.dflt).1 = k
              · rw [hdm, gb_hunk he] at hb
                replace hb := Lib.hid hb
                replace hdm := Lib.hid hdm
                replace r6 := Lib.hid r6
                apply once
                · intro key
                  (repeat' (first | (with_reducible refine Cend.go ?_) | (with_reducible refine Step.mk True.intro ?_) | (with_reducible refine Step.mk ?_ ?_; focus (((try simp only [true_and, and_true, and_self, kmin, kmax, decide_eq_true_eq, decide_eq_false_iff_not, castD_self, castL_self, List.length_cons, List.length_nil, List.length_append, Int.natCast_add] at *) <;> omega))) | (with_reducible refine Step.mk ?_ ?_) | (with_reducible refine Way.t1 ?_) | (with_reducible refine Way.f1 ?_) | ((with_reducible refine Way.dec (fun zz => ?_) (fun zz => ?_)) <;> (try simp only [castD_self, castL_self] at zz) <;> try (exfalso; first | omega | contradiction)) | (with_reducible refine Way.nt ?_) | ((with_reducible refine Way.mk (fun _ => ?_) (fun _ => ?_)) <;> try (exfalso; rename_i hw; first | exact Bool.noConfusion ((Go.RowKit.Hid.out hv).symm.trans hw) | exact Bool.noConfusion (hw.symm.trans (Go.RowKit.Hid.out hv)))) | (with_reducible refine Drawn.mk (by kernel_rfl) ?_) | (refine Run.mk ?_)))
                  all_goals
                    refine LoopG.wk (sl' := [.put 0 (.v false [.d (.slice .str) t]), .put 2 (.v false [.d (.int .i64) c]), .put 4 (.v false [.p 4 0]), .put 7 (.v false [.p 7 0]), .put 10 (.v false [.d .str B]), .put 11 (.v false [.d (.int .i64) g]), .put 12 (.v false [.d (.int .i64) (m : Int)]), .put 13 (.v false [.d (.int .i64) (x : Int)]), .put 14 (.v false [.d (.int .i64) lo]), .put 15 (.v false [.d (.int .i64) hi']), .put 16 (.v false [.d .str b]), .put 17 (.v false [.d (.int .i64) old]), .put 18 (.v false [.d (.int .i64) fr]), .put 19 (.v false [.d (.int .i64) k]), .put 20 (.v false [.p 20 0]), .put 21 (.v false [.d (.int .i64) 0])])
                      (hl' := [.put 20 (.box 41 (tHk.leaves (p.getD ((m : Int)).toNat tHk.dflt))), .put 7 (.box 27 [.d (.int .i64) 0, .d (.int .i64) 0]), .put 4 (.box 25 [.d (.slice tHk) p])]) ?_ (key 0).out
                    (refine Wk.keep ?_ ?_ <;> repeat' (first | exact True.intro | refine And.intro rfl ?_ | refine And.intro (congrArg (fun z : Int => AV.v false [Lf.d (.int .i64) z]) (by first | omega | (simp only [Int.natCast_add, List.length_cons, List.length_append, List.length_nil]; omega))) ?_ | refine And.intro ?_ ?_))
                refine loop_by (X := Nat × ByteArray) (fun y => [.put 0 (.v false [.d (.slice .str) t]), .put 2 (.v false [.d (.int .i64) c]), .put 4 (.v false [.p 4 0]), .put 7 (.v false [.p 7 0]), .put 10 (.v false [.d .str B]), .put 11 (.v false [.d (.int .i64) g]), .put 12 (.v false [.d (.int .i64) (m : Int)]), .put 13 (.v false [.d (.int .i64) (x : Int)]), .put 14 (.v false [.d (.int .i64) lo]), .put 15 (.v false [.d (.int .i64) hi']), .put 16 (.v false [.d .str y.2]), .put 17 (.v false [.d (.int .i64) old]), .put 18 (.v false [.d (.int .i64) fr]), .put 19 (.v false [.d (.int .i64) k]), .put 20 (.v false [.p 20 0]), .put 21 (.v false [.d (.int .i64) (y.1 : Int)])]) (fun _ => [.put 20 (.box 41 (tHk.leaves (p.getD ((m : Int)).toNat tHk.dflt))), .put 7 (.box 27 [.d (.int .i64) 0, .d (.int .i64) 0]), .put 4 (.box 25 [.d (.slice tHk) p])])
                  (fun y => y.1 ≤ (p.getD ((m : Int)).toNat tHk.dflt).2.1.length ∧ y.2.data.toList = b.data.toList ++ pfx 45 ((p.getD ((m : Int)).toNat tHk.dflt).2.1.take y.1)) (fun y => (p.getD ((m : Int)).toNat tHk.dflt).2.1.length - y.1) (0, b) ⟨Nat.zero_le _, (List.append_nil _).symm⟩ ?_ ?_
                · (refine Wk.keep ?_ ?_ <;> repeat' (first | exact True.intro | refine And.intro rfl ?_ | refine And.intro (congrArg (fun z : Int => AV.v false [Lf.d (.int .i64) z]) (by first | omega | (simp only [Int.natCast_add, List.length_cons, List.length_append, List.length_nil]; omega))) ?_ | refine And.intro ?_ ?_))
                rintro ⟨j, b1⟩ ⟨hj, hb1⟩
                dsimp only at hj hb1 ⊢
                have hsb1 : b1.size ≤ 4600000 := by
                  have e := congrArg List.length hb1
                  rw [List.length_append] at e
                  have := pfx_mono 45 (p.getD ((m : Int)).toNat tHk.dflt).2.1 j
                  have e2 : b1.data.toList.length = b1.size := rfl
                  have e3 : b.data.toList.length = b.size := rfl
                  omega
                by_cases hjl : j < (p.getD ((m : Int)).toNat tHk.dflt).2.1.length
                · have hgj := getD_at (a := (p.getD ((m : Int)).toNat tHk.dflt).2.1) Ty.str.dflt hjl
                  have hpt := pfx_take 45 hjl
                  rw [← hgj] at hpt
                  have hjs := l801.out _ (List.getElem_mem hjl)
                  rw [← hgj] at hjs
                  replace hgj := Lib.hid hgj
                  replace hpt := Lib.hid hpt
                  replace hb1 := Lib.hid hb1
                  (repeat' (first | (with_reducible refine Cend.go ?_) | (with_reducible refine Step.mk True.intro ?_) | (with_reducible refine Step.mk ?_ ?_; focus (((try simp only [true_and, and_true, and_self, kmin, kmax, decide_eq_true_eq, decide_eq_false_iff_not, castD_self, castL_self, List.length_cons, List.length_nil, List.length_append, Int.natCast_add] at *) <;> omega))) | (with_reducible refine Step.mk ?_ ?_) | (with_reducible refine Way.t1 ?_) | (with_reducible refine Way.f1 ?_) | ((with_reducible refine Way.dec (fun _ => ?_) (fun _ => ?_)) <;> try (exfalso; omega)) | (with_reducible refine Way.nt ?_) | (with_reducible refine Way.mk (fun _ => ?_) (fun _ => ?_)) | (with_reducible refine Drawn.mk (by kernel_rfl) ?_) | (refine Run.mk ?_)))
                  all_goals try ((try simp only [ByteArray.size_append, (show (⟨#[45]⟩ : ByteArray).size = 1 from rfl), (show (⟨#[43]⟩ : ByteArray).size = 1 from rfl), (show (⟨#[10]⟩ : ByteArray).size = 1 from rfl), (show (⟨#[32]⟩ : ByteArray).size = 1 from rfl)]) <;> omega)
                  (apply Back.by ((j + 1, _)); focus (refine Wk.keep ?_ ?_ <;> repeat' (first | exact True.intro | refine And.intro rfl ?_ | refine And.intro (congrArg (fun z : Int => AV.v false [Lf.d (.int .i64) z]) (by first | omega | (simp only [Int.natCast_add, List.length_cons, List.length_append, List.length_nil]; omega))) ?_ | refine And.intro ?_ ?_)))
                  · refine ⟨hjl, ?_⟩
                    dsimp only
                    rw [ba_list, ba_list, ba_list, hb1.out, hpt.out]
                    simp only [List.append_assoc] <;> rfl
                  · show (p.getD ((m : Int)).toNat tHk.dflt).2.1.length - (j + 1) < (p.getD ((m : Int)).toNat tHk.dflt).2.1.length - j; omega
                have ejb1 : (p.getD ((m : Int)).toNat tHk.dflt).2.1.take j = (p.getD ((m : Int)).toNat tHk.dflt).2.1 := List.take_of_length_le (by omega)
                rw [ejb1] at hb1
                clear ejb1
                replace hb1 := Lib.hid hb1
                (repeat' (first | (with_reducible refine Cend.go ?_) | (with_reducible refine Step.mk True.intro ?_) | (with_reducible refine Step.mk ?_ ?_; focus (((try simp only [true_and, and_true, and_self, kmin, kmax, decide_eq_true_eq, decide_eq_false_iff_not, castD_self, castL_self, List.length_cons, List.length_nil, List.length_append, Int.natCast_add] at *) <;> omega))) | (with_reducible refine Step.mk ?_ ?_) | (with_reducible refine Way.t1 ?_) | (with_reducible refine Way.f1 ?_) | ((with_reducible refine Way.dec (fun zz => ?_) (fun zz => ?_)) <;> (try simp only [castD_self, castL_self] at zz) <;> try (exfalso; first | omega | contradiction)) | (with_reducible refine Way.nt ?_) | ((with_reducible refine Way.mk (fun _ => ?_) (fun _ => ?_)) <;> try (exfalso; rename_i hw; first | exact Bool.noConfusion ((Go.RowKit.Hid.out hv).symm.trans hw) | exact Bool.noConfusion (hw.symm.trans (Go.RowKit.Hid.out hv)))) | (with_reducible refine Drawn.mk (by kernel_rfl) ?_) | (refine Run.mk ?_)))
                refine loop_by (X := Nat × ByteArray) (fun y => [.put 0 (.v false [.d (.slice .str) t]), .put 2 (.v false [.d (.int .i64) c]), .put 4 (.v false [.p 4 0]), .put 7 (.v false [.p 7 0]), .put 10 (.v false [.d .str B]), .put 11 (.v false [.d (.int .i64) g]), .put 12 (.v false [.d (.int .i64) (m : Int)]), .put 13 (.v false [.d (.int .i64) (x : Int)]), .put 14 (.v false [.d (.int .i64) lo]), .put 15 (.v false [.d (.int .i64) hi']), .put 16 (.v false [.d .str y.2]), .put 17 (.v false [.d (.int .i64) old]), .put 18 (.v false [.d (.int .i64) fr]), .put 19 (.v false [.d (.int .i64) k]), .put 20 (.v false [.p 20 0]), .put 22 (.v false [.d (.int .i64) (y.1 : Int)])]) (fun _ => [.put 20 (.box 41 (tHk.leaves (p.getD ((m : Int)).toNat tHk.dflt))), .put 7 (.box 27 [.d (.int .i64) 0, .d (.int .i64) 0]), .put 4 (.box 25 [.d (.slice tHk) p])])
                  (fun y => y.1 ≤ (p.getD ((m : Int)).toNat tHk.dflt).2.2.length ∧ y.2.data.toList = b1.data.toList ++ pfx 43 ((p.getD ((m : Int)).toNat tHk.dflt).2.2.take y.1)) (fun y => (p.getD ((m : Int)).toNat tHk.dflt).2.2.length - y.1) (0, b1) ⟨Nat.zero_le _, (List.append_nil _).symm⟩ ?_ ?_
                · (refine Wk.keep ?_ ?_ <;> repeat' (first | exact True.intro | refine And.intro rfl ?_ | refine And.intro (congrArg (fun z : Int => AV.v false [Lf.d (.int .i64) z]) (by first | omega | (simp only [Int.natCast_add, List.length_cons, List.length_append, List.length_nil]; omega))) ?_ | refine And.intro ?_ ?_))
                rintro ⟨j, b2⟩ ⟨hj, hb2⟩
                dsimp only at hj hb2 ⊢
                have hsb2 : b2.size ≤ 4700000 := by
                  have e := congrArg List.length hb2
                  rw [List.length_append] at e
                  have := pfx_mono 43 (p.getD ((m : Int)).toNat tHk.dflt).2.2 j
                  have e2 : b2.data.toList.length = b2.size := rfl
                  have e3 : b1.data.toList.length = b1.size := rfl
                  omega
                by_cases hjl : j < (p.getD ((m : Int)).toNat tHk.dflt).2.2.length
                · have hgj := getD_at (a := (p.getD ((m : Int)).toNat tHk.dflt).2.2) Ty.str.dflt hjl
                  have hpt := pfx_take 43 hjl
                  rw [← hgj] at hpt
                  have hjs := l802.out _ (List.getElem_mem hjl)
                  rw [← hgj] at hjs
                  replace hgj := Lib.hid hgj
                  replace hpt := Lib.hid hpt
                  replace hb2 := Lib.hid hb2
                  (repeat' (first | (with_reducible refine Cend.go ?_) | (with_reducible refine Step.mk True.intro ?_) | (with_reducible refine Step.mk ?_ ?_; focus (((try simp only [true_and, and_true, and_self, kmin, kmax, decide_eq_true_eq, decide_eq_false_iff_not, castD_self, castL_self, List.length_cons, List.length_nil, List.length_append, Int.natCast_add] at *) <;> omega))) | (with_reducible refine Step.mk ?_ ?_) | (with_reducible refine Way.t1 ?_) | (with_reducible refine Way.f1 ?_) | ((with_reducible refine Way.dec (fun _ => ?_) (fun _ => ?_)) <;> try (exfalso; omega)) | (with_reducible refine Way.nt ?_) | (with_reducible refine Way.mk (fun _ => ?_) (fun _ => ?_)) | (with_reducible refine Drawn.mk (by kernel_rfl) ?_) | (refine Run.mk ?_)))
                  all_goals try ((try simp only [ByteArray.size_append, (show (⟨#[45]⟩ : ByteArray).size = 1 from rfl), (show (⟨#[43]⟩ : ByteArray).size = 1 from rfl), (show (⟨#[10]⟩ : ByteArray).size = 1 from rfl), (show (⟨#[32]⟩ : ByteArray).size = 1 from rfl)]) <;> omega)
                  (apply Back.by ((j + 1, _)); focus (refine Wk.keep ?_ ?_ <;> repeat' (first | exact True.intro | refine And.intro rfl ?_ | refine And.intro (congrArg (fun z : Int => AV.v false [Lf.d (.int .i64) z]) (by first | omega | (simp only [Int.natCast_add, List.length_cons, List.length_append, List.length_nil]; omega))) ?_ | refine And.intro ?_ ?_)))
                  · refine ⟨hjl, ?_⟩
                    dsimp only
                    rw [ba_list, ba_list, ba_list, hb2.out, hpt.out]
                    simp only [List.append_assoc] <;> rfl
                  · show (p.getD ((m : Int)).toNat tHk.dflt).2.2.length - (j + 1) < (p.getD ((m : Int)).toNat tHk.dflt).2.2.length - j; omega
                have ejb2 : (p.getD ((m : Int)).toNat tHk.dflt).2.2.take j = (p.getD ((m : Int)).toNat tHk.dflt).2.2 := List.take_of_length_le (by omega)
                rw [ejb2] at hb2
                clear ejb2
                replace hb2 := Lib.hid hb2
                (repeat' (first | (with_reducible refine Cend.go ?_) | (with_reducible refine Step.mk True.intro ?_) | (with_reducible refine Step.mk ?_ ?_; focus (((try simp only [true_and, and_true, and_self, kmin, kmax, decide_eq_true_eq, decide_eq_false_iff_not, castD_self, castL_self, List.length_cons, List.length_nil, List.length_append, Int.natCast_add] at *) <;> omega))) | (with_reducible refine Step.mk ?_ ?_) | (with_reducible refine Way.t1 ?_) | (with_reducible refine Way.f1 ?_) | ((with_reducible refine Way.dec (fun zz => ?_) (fun zz => ?_)) <;> (try simp only [castD_self, castL_self] at zz) <;> try (exfalso; first | omega | contradiction)) | (with_reducible refine Way.nt ?_) | ((with_reducible refine Way.mk (fun _ => ?_) (fun _ => ?_)) <;> try (exfalso; rename_i hw; first | exact Bool.noConfusion ((Go.RowKit.Hid.out hv).symm.trans hw) | exact Bool.noConfusion (hw.symm.trans (Go.RowKit.Hid.out hv)))) | (with_reducible refine Drawn.mk (by kernel_rfl) ?_) | (refine Run.mk ?_)))
                · exact mb.out
                refine Back.by (m + 1, hkEnd (p.getD ((m : Int)).toNat tHk.dflt), b2, hkEnd (p.getD ((m : Int)).toNat tHk.dflt) - lo, fr + ((p.getD ((m : Int)).toNat tHk.dflt).2.2.length : Int)) ?_ ?_ ?_
                · (refine Wk.keep ?_ ?_ <;> repeat' (first | exact True.intro | refine And.intro rfl ?_ | refine And.intro (congrArg (fun z : Int => AV.v false [Lf.d (.int .i64) z]) (by first | omega | (simp only [Int.natCast_add, List.length_cons, List.length_append, List.length_nil]; omega))) ?_ | refine And.intro ?_ ?_))
                · refine ⟨by omega, by omega, r6.out, ?_, rfl, ?_, by show lo ≤ hkEnd (p.getD ((m : Int)).toNat tHk.dflt); omega⟩
                  · dsimp only
                    rw [hb.out, hb2.out, hb1.out]
                    simp only [List.append_assoc]
                  · show fr + ((p.getD ((m : Int)).toNat tHk.dflt).2.2.length : Int) = hkEnd (p.getD ((m : Int)).toNat tHk.dflt) - lo + pGrow ((p.take (x + 1)).drop i) - pGrow ((p.take (x + 1)).drop (m + 1))
                    omega
                · show (hi' - hkEnd (p.getD ((m : Int)).toNat tHk.dflt)).toNat + (x + 1 - (m + 1)) < (hi' - k).toNat + (x + 1 - m); omega
              · have hnx : k < nxA hi' ((p.take (x + 1)).drop m) := by rw [hdm]; show k < (p.getD ((m : Int)).toNat tHk.dflt).1; omega
                have hkt : k < t.length := by omega
                have hbs : b.size ≤ 5000000 := by omega
                have hkk := gb_line rk0 ((p.take (x + 1)).drop m) hnx hkt (by rw [hdm]; exact r3)
                have htk : (t.getD k.toNat Ty.str.dflt).size ≤ 80 := hts.out _ (by
                  have : k.toNat < t.length := by omega
                  rw [List.getD_eq_getElem?_getD, List.getElem?_eq_getElem this]; exact List.getElem_mem _)
                rw [hkk] at hb
                replace hkk := Lib.hid hkk
                replace hb := Lib.hid hb
                (repeat' (first | (with_reducible refine Cend.go ?_) | (with_reducible refine Step.mk True.intro ?_) | (with_reducible refine Step.mk ?_ ?_; focus (((try simp only [true_and, and_true, and_self, kmin, kmax, decide_eq_true_eq, decide_eq_false_iff_not, castD_self, castL_self, List.length_cons, List.length_nil, List.length_append, Int.natCast_add] at *) <;> omega))) | (with_reducible refine Step.mk ?_ ?_) | (with_reducible refine Way.t1 ?_) | (with_reducible refine Way.f1 ?_) | ((with_reducible refine Way.dec (fun zz => ?_) (fun zz => ?_)) <;> (try simp only [castD_self, castL_self] at zz) <;> try (exfalso; first | omega | contradiction)) | (with_reducible refine Way.nt ?_) | ((with_reducible refine Way.mk (fun _ => ?_) (fun _ => ?_)) <;> try (exfalso; rename_i hw; first | exact Bool.noConfusion ((Go.RowKit.Hid.out hv).symm.trans hw) | exact Bool.noConfusion (hw.symm.trans (Go.RowKit.Hid.out hv)))) | (with_reducible refine Drawn.mk (by kernel_rfl) ?_) | (refine Run.mk ?_)))
                all_goals try ((try simp only [ByteArray.size_append, (show (⟨#[45]⟩ : ByteArray).size = 1 from rfl), (show (⟨#[43]⟩ : ByteArray).size = 1 from rfl), (show (⟨#[10]⟩ : ByteArray).size = 1 from rfl), (show (⟨#[32]⟩ : ByteArray).size = 1 from rfl)]) <;> omega)
                refine Back.by (m, k + 1, b ++ ⟨#[32]⟩ ++ t.getD k.toNat Ty.str.dflt ++ ⟨#[10]⟩, k + 1 - lo, fr + 1) ?_ ?_ ?_
                rotate_left
                · refine ⟨hm0, hm1, ?_, ?_, rfl, ?_, by show lo ≤ k + 1; omega⟩
                  · show rawOk t hi' (k + 1) _
                    rw [hdm]; exact ⟨by omega, by show k + 1 ≤ (p.getD ((m : Int)).toNat tHk.dflt).1; omega, r3, r4, r5, r6⟩
                  · dsimp only
                    rw [hb.out, ba_list, ba_list, ba_list]
                    simp only [List.append_assoc, List.cons_append, List.nil_append]; rfl
                  · dsimp only
                    omega
                · show (hi' - (k + 1)).toNat + (x + 1 - m) < (hi' - k).toNat + (x + 1 - m); omega
                · (refine Wk.keep ?_ ?_ <;> repeat' (first | exact True.intro | refine And.intro rfl ?_ | refine And.intro (congrArg (fun z : Int => AV.v false [Lf.d (.int .i64) z]) (by first | omega | (simp only [Int.natCast_add, List.length_cons, List.length_append, List.length_nil]; omega))) ?_ | refine And.intro ?_ ?_))
            · obtain rfl : m = x + 1 := by omega
              have hdm : (p.take (x + 1)).drop (x + 1) = [] := List.drop_eq_nil_of_le (by rw [List.length_take]; omega)
              by_cases hkh : k < hi'
              · have hnx : k < nxA hi' ((p.take (x + 1)).drop (x + 1)) := by rw [hdm]; exact hkh
                have hkt : k < t.length := by omega
                have hbs : b.size ≤ 5000000 := by omega
                have hkk := gb_line rk0 ((p.take (x + 1)).drop (x + 1)) hnx hkt (by rw [hdm]; exact rh3)
                have htk : (t.getD k.toNat Ty.str.dflt).size ≤ 80 := hts.out _ (by
                  have : k.toNat < t.length := by omega
                  rw [List.getD_eq_getElem?_getD, List.getElem?_eq_getElem this]; exact List.getElem_mem _)
                rw [hkk] at hb
                replace hkk := Lib.hid hkk
                replace hb := Lib.hid hb
                (repeat' (first | (with_reducible refine Cend.go ?_) | (with_reducible refine Step.mk True.intro ?_) | (with_reducible refine Step.mk ?_ ?_; focus (((try simp only [true_and, and_true, and_self, kmin, kmax, decide_eq_true_eq, decide_eq_false_iff_not, castD_self, castL_self, List.length_cons, List.length_nil, List.length_append, Int.natCast_add] at *) <;> omega))) | (with_reducible refine Step.mk ?_ ?_) | (with_reducible refine Way.t1 ?_) | (with_reducible refine Way.f1 ?_) | ((with_reducible refine Way.dec (fun zz => ?_) (fun zz => ?_)) <;> (try simp only [castD_self, castL_self] at zz) <;> try (exfalso; first | omega | contradiction)) | (with_reducible refine Way.nt ?_) | ((with_reducible refine Way.mk (fun _ => ?_) (fun _ => ?_)) <;> try (exfalso; rename_i hw; first | exact Bool.noConfusion ((Go.RowKit.Hid.out hv).symm.trans hw) | exact Bool.noConfusion (hw.symm.trans (Go.RowKit.Hid.out hv)))) | (with_reducible refine Drawn.mk (by kernel_rfl) ?_) | (refine Run.mk ?_)))
                all_goals try ((try simp only [ByteArray.size_append, (show (⟨#[45]⟩ : ByteArray).size = 1 from rfl), (show (⟨#[43]⟩ : ByteArray).size = 1 from rfl), (show (⟨#[10]⟩ : ByteArray).size = 1 from rfl), (show (⟨#[32]⟩ : ByteArray).size = 1 from rfl)]) <;> omega)
                refine Back.by (x + 1, k + 1, b ++ ⟨#[32]⟩ ++ t.getD k.toNat Ty.str.dflt ++ ⟨#[10]⟩, k + 1 - lo, fr + 1) ?_ ?_ ?_
                rotate_left
                · refine ⟨hm0, hm1, ?_, ?_, rfl, ?_, by show lo ≤ k + 1; omega⟩
                  · show rawOk t hi' (k + 1) _
                    rw [hdm]; exact ⟨by omega, by omega, rh3⟩
                  · dsimp only
                    rw [hb.out, ba_list, ba_list, ba_list]
                    simp only [List.append_assoc, List.cons_append, List.nil_append]; rfl
                  · dsimp only
                    omega
                · show (hi' - (k + 1)).toNat + (x + 1 - (x + 1)) < (hi' - k).toNat + (x + 1 - (x + 1)); omega
                · (refine Wk.keep ?_ ?_ <;> repeat' (first | exact True.intro | refine And.intro rfl ?_ | refine And.intro (congrArg (fun z : Int => AV.v false [Lf.d (.int .i64) z]) (by first | omega | (simp only [Int.natCast_add, List.length_cons, List.length_append, List.length_nil]; omega))) ?_ | refine And.intro ?_ ?_))
              · obtain rfl : k = hi' := by omega
                rw [hdm] at hb hfr
                have hb : gb t k lo ((p.take (x + 1)).drop i) = b.data.toList := by rw [hb, gb_end, List.append_nil]
                have hfr : fr = k - lo + pGrow ((p.take (x + 1)).drop i) - 0 := hfr
                have hBs := congrArg List.length eg.out
                have sl1 := side_len lo old (by omega) (by omega) (by omega) (by omega)
                have sl2 := side_len (lo + g) fr (by omega) (by omega) (by omega) (by omega)
                have ho2 : k - lo = old := by omega
                have hf2 : old + pGrow ((p.take (x + 1)).drop i) = fr := by omega
                have eg2 := eg.out
                rw [ho2, hf2, hb] at eg2
                have egl := congrArg List.length eg2
                simp only [List.length_append, List.length_cons, List.length_nil] at egl
                have ebl : b.data.toList.length = b.size := rfl
                replace hb := Lib.hid hb
                replace eg2 := Lib.hid eg2
                clear hBs
                (repeat' (first | (with_reducible refine Cend.go ?_) | (with_reducible refine Step.mk True.intro ?_) | (with_reducible refine Step.mk ?_ ?_; focus (((try simp only [true_and, and_true, and_self, kmin, kmax, decide_eq_true_eq, decide_eq_false_iff_not, castD_self, castL_self, List.length_cons, List.length_nil, List.length_append, Int.natCast_add] at *) <;> omega))) | (with_reducible refine Step.mk ?_ ?_) | (with_reducible refine Way.t1 ?_) | (with_reducible refine Way.f1 ?_) | ((with_reducible refine Way.dec (fun zz => ?_) (fun zz => ?_)) <;> (try simp only [castD_self, castL_self] at zz) <;> try (exfalso; first | omega | contradiction)) | (with_reducible refine Way.nt ?_) | ((with_reducible refine Way.mk (fun _ => ?_) (fun _ => ?_)) <;> try (exfalso; rename_i hw; first | exact Bool.noConfusion ((Go.RowKit.Hid.out hv).symm.trans hw) | exact Bool.noConfusion (hw.symm.trans (Go.RowKit.Hid.out hv)))) | (with_reducible refine Drawn.mk (by kernel_rfl) ?_) | (refine Run.mk ?_)))
                all_goals try ((try simp only [ByteArray.size_append, bs_size, (show (⟨#[64, 64, 32, 45]⟩ : ByteArray).size = 4 from rfl), (show (⟨#[32, 64, 64, 10]⟩ : ByteArray).size = 4 from rfl), (show (⟨#[32, 43]⟩ : ByteArray).size = 2 from rfl)]) <;> omega)
                refine Back.by (x + 1, g + pGrow ((p.take (x + 1)).drop i), B ++ ⟨#[64, 64, 32, 45]⟩ ++ bs (side lo old) ++ ⟨#[32, 43]⟩ ++ bs (side (lo + g) fr) ++ ⟨#[32, 64, 64, 10]⟩ ++ b) ?_ ?_ ?_
                rotate_left
                · refine ⟨by omega, ?_, ?_, ?_, ?_, fun hx2 => ?_⟩
                  · dsimp only
                    rw [hB2.out, eg2.out]
                    simp only [ba_list, bs_list, List.append_assoc] <;> rfl
                  · dsimp only
                    simp only [ByteArray.size_append, bs_size, (show (⟨#[64, 64, 32, 45]⟩ : ByteArray).size = 4 from rfl), (show (⟨#[32, 64, 64, 10]⟩ : ByteArray).size = 4 from rfl), (show (⟨#[32, 43]⟩ : ByteArray).size = 2 from rfl)]
                    omega
                  · show -(120 * ((x + 1 : Nat) : Int)) ≤ g + pGrow ((p.take (x + 1)).drop i)
                    omega
                  · show g + pGrow ((p.take (x + 1)).drop i) ≤ 120 * ((x + 1 : Nat) : Int)
                    omega
                  · have q1 := hA' hx2
                    rw [show ((x + 1 : Nat) : Int) = (x : Int) + 1 by omega]
                    show 0 ≤ gLow c (p.getD ((x : Int) + 1).toNat tHk.dflt) + (g + pGrow ((p.take (x + 1)).drop i))
                    unfold gLow
                    omega
                · show p.length - (x + 1) < p.length - i; omega
                · (refine Wk.keep ?_ ?_ <;> repeat' (first | exact True.intro | refine And.intro rfl ?_ | refine And.intro (congrArg (fun z : Int => AV.v false [Lf.d (.int .i64) z]) (by first | omega | (simp only [Int.natCast_add, List.length_cons, List.length_append, List.length_nil]; omega))) ?_ | refine And.intro ?_ ?_))
      · have hdi : p.drop i = [] := List.drop_eq_nil_of_le (by omega)
        rw [hdi] at hB
        have hB : fmL t p c = B.data.toList := hB.trans (by cases p.length <;> exact List.append_nil _)
        have hBs : (fmL t p c).length = B.size := by rw [hB]; rfl
        rw [hBs] at hC
        by_cases h4 : 4096 < B.size
        · have eC : fmC t p c = (10, -1) := hC.out.trans (if_pos h4)
          have eS : fmS t p c = ⟨#[]⟩ := by unfold fmS; rw [eC]; rfl
          (repeat' (first | (with_reducible refine Cend.go ?_) | (with_reducible refine Step.mk True.intro ?_) | (with_reducible refine Step.mk ?_ ?_; focus (((try simp only [true_and, and_true, and_self, kmin, kmax, decide_eq_true_eq, decide_eq_false_iff_not, castD_self, castL_self, List.length_cons, List.length_nil, List.length_append, Int.natCast_add] at *) <;> omega))) | (with_reducible refine Step.mk ?_ ?_) | (with_reducible refine Way.t1 ?_) | (with_reducible refine Way.f1 ?_) | ((with_reducible refine Way.dec (fun zz => ?_) (fun zz => ?_)) <;> (try simp only [castD_self, castL_self] at zz) <;> try (exfalso; first | omega | contradiction)) | (with_reducible refine Way.nt ?_) | ((with_reducible refine Way.mk (fun _ => ?_) (fun _ => ?_)) <;> try (exfalso; rename_i hw; first | exact Bool.noConfusion ((Go.RowKit.Hid.out hv).symm.trans hw) | exact Bool.noConfusion (hw.symm.trans (Go.RowKit.Hid.out hv)))) | (with_reducible refine Drawn.mk (by kernel_rfl) ?_) | (refine Run.mk ?_)))
          all_goals refine Ret.mk ?_
          all_goals rw [eC, eS]
          all_goals exact ⟨⟨rfl, .same, True.intro⟩, ⟨rfl, .same, .same, True.intro⟩, True.intro⟩
        · have eC : fmC t p c = (0, 0) := hC.out.trans (if_neg h4)
          have eS : fmS t p c = B := by unfold fmS; rw [eC, hB]; rfl
          (repeat' (first | (with_reducible refine Cend.go ?_) | (with_reducible refine Step.mk True.intro ?_) | (with_reducible refine Step.mk ?_ ?_; focus (((try simp only [true_and, and_true, and_self, kmin, kmax, decide_eq_true_eq, decide_eq_false_iff_not, castD_self, castL_self, List.length_cons, List.length_nil, List.length_append, Int.natCast_add] at *) <;> omega))) | (with_reducible refine Step.mk ?_ ?_) | (with_reducible refine Way.t1 ?_) | (with_reducible refine Way.f1 ?_) | ((with_reducible refine Way.dec (fun zz => ?_) (fun zz => ?_)) <;> (try simp only [castD_self, castL_self] at zz) <;> try (exfalso; first | omega | contradiction)) | (with_reducible refine Way.nt ?_) | ((with_reducible refine Way.mk (fun _ => ?_) (fun _ => ?_)) <;> try (exfalso; rename_i hw; first | exact Bool.noConfusion ((Go.RowKit.Hid.out hv).symm.trans hw) | exact Bool.noConfusion (hw.symm.trans (Go.RowKit.Hid.out hv)))) | (with_reducible refine Drawn.mk (by kernel_rfl) ?_) | (refine Run.mk ?_)))
          all_goals refine Ret.mk ?_
          all_goals rw [eC, eS]
          all_goals exact ⟨⟨rfl, .same, True.intro⟩, ⟨rfl, .same, .same, True.intro⟩, True.intro⟩
  · have hv := Lib.hid ha
    have eC : fmC t p c = apF p t := if_pos ha
    have eS : fmS t p c = ⟨#[]⟩ := by unfold fmS; rw [eC]; exact if_neg ha
    (refine fnM_of rfl rfl rfl rfl ?_; dsimp only [params, argAV, Ty.leaves, Ty.isSt])
    (repeat' (first | (with_reducible refine Cend.go ?_) | (with_reducible refine Step.mk True.intro ?_) | (with_reducible refine Step.mk ?_ ?_; focus (((try simp only [true_and, and_true, and_self, kmin, kmax, decide_eq_true_eq, decide_eq_false_iff_not, castD_self, castL_self, List.length_cons, List.length_nil, List.length_append, Int.natCast_add] at *) <;> omega))) | (with_reducible refine Step.mk ?_ ?_) | (with_reducible refine Way.t1 ?_) | (with_reducible refine Way.f1 ?_) | ((with_reducible refine Way.dec (fun zz => ?_) (fun zz => ?_)) <;> (try simp only [castD_self, castL_self] at zz) <;> try (exfalso; first | omega | contradiction)) | (with_reducible refine Way.nt ?_) | ((with_reducible refine Way.mk (fun _ => ?_) (fun _ => ?_)) <;> try (exfalso; rename_i hw; first | exact Bool.noConfusion ((Go.RowKit.Hid.out hv).symm.trans hw) | exact Bool.noConfusion (hw.symm.trans (Go.RowKit.Hid.out hv)))) | (with_reducible refine Drawn.mk (by kernel_rfl) ?_) | (refine Run.mk ?_)))
    all_goals refine Ret.mk ?_
    all_goals rw [eC, eS]
    all_goals exact ⟨⟨rfl, .same, True.intro⟩, ⟨rfl, .same, .same, True.intro⟩, True.intro⟩
end Go.Proofs.YtppmhjaooiameaaDoor
