/- Texts: the walks of Second, Both; the reference's LinesFault, LinesCode, TwoFault, One. -/
import Derived.Test.YtdpcbffmmndhcaaLinWalks
import Derived.Test.YtdpcbffmmndhcaaRefAt
import Derived.Test.YtdpcbffmmndhcaaMemStrs
namespace Go.Proofs.Ytdpcbffmmndhcaa
open Go.RowKit

theorem Second_any (w : World) (v : Value) (l : List ByteArray) (i : Int) (h : Strs w v l) :
    Calls Try.prog 36 #[v, .int .i64 i] w fun e w' => e = .returned (.agg #[.int .i64 (vC l), .int .i64 (if vC l = 0 then 0 else i)]) ∧ Below w.heap.size w w' := by
  replace h := Lib.hid h
  by_cases hz : vC l = 0
  · have hI := vI_good l ((vC_good l).1 hz)
    rw [hz, if_pos rfl]
    replace hz := Lib.hid hz
    replace hI := Lib.hid hI
    go_enter Try.func36, Try.ntmps36
    go_wp2_with (go_at_call 54; with_reducible refine Calls.mono (Validate_any _ _ l (h.out.mono (by exact (by repeat (first | exact Below.refl _ _ | assumption | apply extAlloc | apply extDrewN | apply extDrew | (refine extStep ?_ (by assumption) (by first | (simp; done) | (simp; omega) | omega)) | (refine extCall ?_ (by assumption)) | (refine extSet ?_ (by first | (simp; done) | (simp; omega) | omega) _)))))) ?_; rintro e w1 ⟨rfl, b1⟩; rw [hz.out, hI.out]; have B := (Blk.new w #[.int .i64 0, .int .i64 0] 24).call b1; have c0 := B.cell 0; have c1 := B.cell 1; have f0 := B.fr 0; have f1 := B.fr 1; have y := B.lt)
    refine bodyPost_ret (v := .agg #[.int .i64 0, .int .i64 0]) (by simp [results, Try.results36, go_sem, c0, c1, y]) rfl ?_
    exact ⟨rfl, (by repeat (first | exact Below.refl _ _ | assumption | apply extAlloc | apply extDrewN | apply extDrew | (refine extStep ?_ (by assumption) (by first | (simp; done) | (simp; omega) | omega)) | (refine extCall ?_ (by assumption)) | (refine extSet ?_ (by first | (simp; done) | (simp; omega) | omega) _)))⟩
  · rw [if_neg hz]
    generalize hq : vC l = q at hz
    have hz' : (q == 0) = false := by simpa using hz
    replace hq := Lib.hid hq
    go_enter Try.func36, Try.ntmps36
    go_wp2_with (go_at_call 54; with_reducible refine Calls.mono (Validate_any _ _ l (h.out.mono (by exact (by repeat (first | exact Below.refl _ _ | assumption | apply extAlloc | apply extDrewN | apply extDrew | (refine extStep ?_ (by assumption) (by first | (simp; done) | (simp; omega) | omega)) | (refine extCall ?_ (by assumption)) | (refine extSet ?_ (by first | (simp; done) | (simp; omega) | omega) _)))))) ?_; rintro e w1 ⟨rfl, b1⟩; rw [hq.out]; have B := (Blk.new w #[.int .i64 0, .int .i64 0] 24).call b1; have c0 := B.cell 0; have c1 := B.cell 1; have f0 := B.fr 0; have f1 := B.fr 1; have y := B.lt)
    refine bodyPost_ret (v := .agg #[.int .i64 q, .int .i64 i]) (by simp [results, Try.results36, go_sem, c0, c1, y]) rfl ?_
    exact ⟨rfl, (by repeat (first | exact Below.refl _ _ | assumption | apply extAlloc | apply extDrewN | apply extDrew | (refine extStep ?_ (by assumption) (by first | (simp; done) | (simp; omega) | omega)) | (refine extCall ?_ (by assumption)) | (refine extSet ?_ (by first | (simp; done) | (simp; omega) | omega) _)))⟩

theorem Both_any (w : World) (v u : Value) (l m : List ByteArray) (h : Strs w v l) (h2 : Strs w u m) :
    Calls Try.prog 38 #[v, u] w fun e w' => e = .returned (.agg #[.int .i64 (bC l m), .int .i64 (bI l m)]) ∧ Below w.heap.size w w' := by
  replace h := Lib.hid h
  replace h2 := Lib.hid h2
  by_cases hz : vC l = 0
  · have hI := vI_good l ((vC_good l).1 hz)
    rw [show bC l m = vC m from if_pos hz, show bI l m = (if vC m = 0 then 0 else -2) from if_pos hz]
    generalize hJ : (if vC m = 0 then (0 : Int) else -2) = J
    replace hJ := Lib.hid hJ
    replace hz := Lib.hid hz
    replace hI := Lib.hid hI
    go_enter Try.func38, Try.ntmps38
    go_wp2_with (first | (go_at_call 54; with_reducible refine Calls.mono (Validate_any _ _ l (h.out.mono (by exact (by repeat (first | exact Below.refl _ _ | assumption | apply extAlloc | apply extDrewN | apply extDrew | (refine extStep ?_ (by assumption) (by first | (simp; done) | (simp; omega) | omega)) | (refine extCall ?_ (by assumption)) | (refine extSet ?_ (by first | (simp; done) | (simp; omega) | omega) _)))))) ?_; rintro e w1 ⟨rfl, b1⟩; rw [hz.out, hI.out]; have z1 := b1.size; simp at z1; have B := (Blk.new w #[.int .i64 0, .int .i64 0] 24).call b1) | (go_at_call 36; with_reducible refine Calls.mono (Second_any _ _ m _ (h2.out.mono (by exact (by repeat (first | exact Below.refl _ _ | assumption | apply extAlloc | apply extDrewN | apply extDrew | (refine extStep ?_ (by assumption) (by first | (simp; done) | (simp; omega) | omega)) | (refine extCall ?_ (by assumption)) | (refine extSet ?_ (by first | (simp; done) | (simp; omega) | omega) _)))))) ?_; rintro e w2 ⟨rfl, b2⟩; rw [hJ.out]; have B2 := (B.alloc (.cells #[.int .i64 0, .int .i64 0] 24)).call b2; have c0 := B2.cell 0; have c1 := B2.cell 1; have f0 := B2.fr 0; have f1 := B2.fr 1))
    refine bodyPost_ret (v := .agg #[.int .i64 (vC m), .int .i64 J]) (by simp [results, Try.results38, go_sem, c0, c1]) rfl ?_
    exact ⟨rfl, (by repeat (first | exact Below.refl _ _ | assumption | apply extAlloc | apply extDrewN | apply extDrew | (refine extStep ?_ (by assumption) (by first | (simp; done) | (simp; omega) | omega)) | (refine extCall ?_ (by assumption)) | (refine extSet ?_ (by first | (simp; done) | (simp; omega) | omega) _)))⟩
  · rw [show bC l m = vC l from if_neg hz, show bI l m = vI l from if_neg hz]
    generalize hq : vC l = q at hz
    have hz' : (q == 0) = false := by simpa using hz
    replace hq := Lib.hid hq
    go_enter Try.func38, Try.ntmps38
    go_wp2_with (go_at_call 54; with_reducible refine Calls.mono (Validate_any _ _ l (h.out.mono (by exact (by repeat (first | exact Below.refl _ _ | assumption | apply extAlloc | apply extDrewN | apply extDrew | (refine extStep ?_ (by assumption) (by first | (simp; done) | (simp; omega) | omega)) | (refine extCall ?_ (by assumption)) | (refine extSet ?_ (by first | (simp; done) | (simp; omega) | omega) _)))))) ?_; rintro e w1 ⟨rfl, b1⟩; rw [hq.out]; have B := (Blk.new w #[.int .i64 0, .int .i64 0] 24).call b1; have c0 := B.cell 0; have c1 := B.cell 1; have f0 := B.fr 0; have f1 := B.fr 1; have y := B.lt)
    refine bodyPost_ret (v := .agg #[.int .i64 q, .int .i64 (vI l)]) (by simp [results, Try.results38, go_sem, c0, c1, y]) rfl ?_
    exact ⟨rfl, (by repeat (first | exact Below.refl _ _ | assumption | apply extAlloc | apply extDrewN | apply extDrew | (refine extStep ?_ (by assumption) (by first | (simp; done) | (simp; omega) | omega)) | (refine extCall ?_ (by assumption)) | (refine extSet ?_ (by first | (simp; done) | (simp; omega) | omega) _)))⟩

theorem RefLinesFault_many (w : World) (v : Value) (l : List ByteArray) (h : Strs w v l) (hl : 120 < l.length) :
    Calls Try.prog 49 #[v] w fun e w' => e = .returned (.agg #[.int .i64 2, .int .i64 (-1)]) ∧ Below w.heap.size w w' := by
  obtain ⟨ao, cap, rfl, h1, h2, h3, h4⟩ := h.sl
  rw [maxLen_eq] at h2
  clear h
  go_enter Try.func49, Try.ntmps49
  go_wp2_with (go_at_call 24; with_reducible refine Calls.mono (At_any _ _ _) ?_; rintro e w1 ⟨rfl, b1⟩; have B := (Blk.new w #[.int .i64 0, .int .i64 0] 24).call b1; have c0 := B.cell 0; have c1 := B.cell 1; have f0 := B.fr 0; have f1 := B.fr 1)
  refine bodyPost_ret (v := .agg #[.int .i64 2, .int .i64 (-1)]) (by simp [results, Try.results49, go_sem, c0, c1]) rfl ?_
  exact ⟨rfl, (by repeat (first | exact Below.refl _ _ | assumption | apply extAlloc | apply extDrewN | apply extDrew | (refine extStep ?_ (by assumption) (by first | (simp; done) | (simp; omega) | omega)) | (refine extCall ?_ (by assumption)) | (refine extSet ?_ (by first | (simp; done) | (simp; omega) | omega) _)))⟩

theorem mem_nl (s : ByteArray) (j : Nat) (h : j < s.size) (e : (s[j]'h).toNat = 10) : (10 : UInt8) ∈ s.data.toList := by
  have : s[j]'h = 10 := UInt8.toNat_inj.1 e
  rw [← this]
  exact Array.mem_toList_iff.2 (Array.getElem_mem _)

set_option maxHeartbeats 2000000 in
theorem RefLinesFault_few (w : World) (v : Value) (l : List ByteArray) (h : Strs w v l) (hl : l.length ≤ 120) (C I : Int) (hC : C = vC l) (hI : I = vI l) :
    Calls Try.prog 49 #[v] w fun e w' => e = .returned (.agg #[.int .i64 C, .int .i64 I]) ∧ Below w.heap.size w w' := by
  have hs := h.2
  obtain ⟨ao, cap, rfl, h1, h2, h3, h4⟩ := h.sl
  rw [maxLen_eq] at h2
  clear h
  replace h4 := Lib.hid h4
  replace h3 := Lib.hid h3
  replace hs := Lib.hid hs
  have hvl := vIdx_le l
  replace hC := Lib.hid hC
  replace hI := Lib.hid hI
  go_enter Try.func49, Try.ntmps49
  go_wp2
  go_loopw [3, 4] (fun i _ wr => ∃ k : Nat, k ≤ vIdx l ∧ i = .int .i64 k ∧ Below w.heap.size w wr ∧ Blk wr w.heap.size #[.int .i64 0, .int .i64 0] 24) (fun i _ _ => l.length - (intOf i).toNat)
  case atStart => exact ⟨0, Nat.zero_le _, rfl, (by repeat (first | exact Below.refl _ _ | assumption | apply extAlloc | apply extDrewN | apply extDrew | (refine extStep ?_ (by assumption) (by first | (simp; done) | (simp; omega) | omega)) | (refine extCall ?_ (by assumption)) | (refine extSet ?_ (by first | (simp; done) | (simp; omega) | omega) _))), Blk.new _ _ _⟩
  case round =>
    obtain ⟨k, hk, rfl, hb, hB⟩ := hrel
    obtain ⟨wo, rfl⟩ : ∃ wo : World, wo = wr := ⟨_, rfl⟩
    have zB := hB.lt
    have c0 := hB.cell 0
    have c1 := hB.cell 1
    have f0 := hB.fr 0
    have f1 := hB.fr 1
    by_cases hlt : k < l.length
    · obtain ⟨b, off, e, hlt2, hc0⟩ := h3.out.at k (by simpa using hlt)
      obtain ⟨s, es⟩ : ∃ s, s = l[k] := ⟨_, rfl⟩
      have hcell : wo.cell? ⟨b, off + k, none⟩ = some (.string s) := by
        rw [hb.cell (p := ⟨b, off + k, none⟩) hlt2, hc0, es]
        simp
      have hm : s.size ≤ maxLen := by rw [es]; exact hs.out _ (List.getElem_mem hlt)
      rw [maxLen_eq] at hm
      subst e
      clear hc0
      by_cases hbad : k = vIdx l
      · have hlt' : vIdx l < l.length := by omega
        have hbd := line_bad l hlt'
        have eI : I = (k : Int) := by rw [hI.out, hbad]; unfold vI; rw [if_neg (by omega), if_pos hlt']
        have eC : C = lineC s := by rw [hC.out, es]; unfold vC; rw [if_neg (by omega), dif_pos hlt']; simp only [hbad]
        have hne : lineC s ≠ 0 := by rw [es]; simp only [hbad]; exact hbd
        replace es := Lib.hid es
        replace hbad := Lib.hid hbad
        clear hbd
        by_cases hbig : 80 < s.size
        · rw [lineC_long s hbig] at eC
          subst eC eI
          clear hne
          go_wp2_with (go_at_call 24; with_reducible refine Calls.mono (At_any _ _ _) ?_; rintro e w1 ⟨rfl, b1⟩; have B := hB.call b1; have c0 := B.cell 0; have c1 := B.cell 1; have f0 := B.fr 0; have f1 := B.fr 1)
          refine bodyPost_ret (v := .agg #[.int .i64 2, .int .i64 k]) (by simp [results, Try.results49, go_sem, c0, c1]) rfl ?_
          exact ⟨rfl, (by repeat (first | exact Below.refl _ _ | assumption | apply extAlloc | apply extDrewN | apply extDrew | (refine extStep ?_ (by assumption) (by first | (simp; done) | (simp; omega) | omega)) | (refine extCall ?_ (by assumption)) | (refine extSet ?_ (by first | (simp; done) | (simp; omega) | omega) _)))⟩
        · have hmem : (10 : UInt8) ∈ s.data.toList := by
            rcases Classical.em ((10 : UInt8) ∈ s.data.toList) with h | h
            · exact h
            · exact absurd ((lineC_ok s).2 ⟨by omega, h⟩) hne
          rw [lineC_nl s hbig hmem] at eC
          subst eC eI
          clear hne
          replace hmem := Lib.hid hmem
          go_wp2
          go_loopw [4] (fun j wi => ∃ m : Nat, m ≤ s.size ∧ j = .int .i64 m ∧ Hid (wi = wo) ∧ Hid (∀ j (h : j < s.size), j < m → (s[j]'h).toNat ≠ 10)) (fun j _ => s.size - (intOf j).toNat)
          case atStart => exact ⟨0, Nat.zero_le _, rfl, (by first | exact rfl | exact True.intro), fun _ _ h => absurd h (Nat.not_lt_zero _)⟩
          case round =>
            obtain ⟨m, hm1, rfl, hwi, hno⟩ := hrel
            obtain rfl := hwi.out
            clear hwi
            by_cases hml : m < s.size
            · by_cases hten : (s[m]'hml).toNat = 10
              · have hten' : (((s[m]'hml).toNat : Int) == 10) = true := by simp [hten]
                replace hten := Lib.hid hten
                go_wp2_with (go_at_call 24; with_reducible refine Calls.mono (At_any _ _ _) ?_; rintro e w1 ⟨rfl, b1⟩; have B := hB.call b1; have c0 := B.cell 0; have c1 := B.cell 1; have f0 := B.fr 0; have f1 := B.fr 1)
                refine bodyPost_ret (v := .agg #[.int .i64 5, .int .i64 k]) (by simp [results, Try.results49, go_sem, c0, c1]) rfl ?_
                exact ⟨rfl, (by repeat (first | exact Below.refl _ _ | assumption | apply extAlloc | apply extDrewN | apply extDrew | (refine extStep ?_ (by assumption) (by first | (simp; done) | (simp; omega) | omega)) | (refine extCall ?_ (by assumption)) | (refine extSet ?_ (by first | (simp; done) | (simp; omega) | omega) _)))⟩
              · have hten' : (((s[m]'hml).toNat : Int) == 10) = false := by rw [beq_eq_false_iff_ne]; omega
                have hno' : Hid (∀ j (h : j < s.size), j < m + 1 → (s[j]'h).toNat ≠ 10) := by
                  intro j h hj
                  rcases Nat.lt_or_ge j m with h1 | h1
                  · exact hno.out j h h1
                  · obtain rfl : j = m := by omega
                    exact hten
                clear hten hno
                go_wp2
                go_roundw
                case rel => exact ⟨m + 1, hml, by go_num, (by first | exact rfl | exact True.intro), hno'⟩
                case measure => simp [intOf]; omega
            · exfalso
              obtain ⟨j, hj, e⟩ := List.getElem_of_mem hmem.out
              have hj' : j < s.size := by simpa using hj
              exact hno.out j hj' (by omega) (by
                have : s[j]'hj' = 10 := by rw [← e]; simp [ByteArray.getElem_eq_getElem_data]
                rw [this]; rfl)
      · have hok := (lineC_ok _).1 (line_ok l k (by omega) hlt)
        rw [← es] at hok
        obtain ⟨hsm, hnm⟩ := hok
        have hk1 : k + 1 ≤ vIdx l := by omega
        replace es := Lib.hid es
        replace hnm := Lib.hid hnm
        clear hbad hk
        go_wp2
        go_loopw [4] (fun j wi => ∃ m : Nat, m ≤ s.size ∧ j = .int .i64 m ∧ Hid (wi = wo)) (fun j _ => s.size - (intOf j).toNat)
        case atStart => exact ⟨0, Nat.zero_le _, rfl, (by first | exact rfl | exact True.intro)⟩
        case round =>
          obtain ⟨m, hm1, rfl, hwi⟩ := hrel
          obtain rfl := hwi.out
          clear hwi
          by_cases hml : m < s.size
          · have hten : ¬ (s[m]'hml).toNat = 10 := fun e => hnm.out (mem_nl s m hml e)
            have hten' : (((s[m]'hml).toNat : Int) == 10) = false := by rw [beq_eq_false_iff_ne]; omega
            clear hten
            go_wp2
            go_roundw
            case rel => exact ⟨m + 1, hml, by go_num, (by first | exact rfl | exact True.intro)⟩
            case measure => simp [intOf]; omega
          · go_wp2
            go_roundw
            case rel => exact ⟨k + 1, hk1, by go_num, hb, hB⟩
            case measure => simp [intOf]; omega
    · have hnb : ¬ vIdx l < l.length := by omega
      have eI : I = 0 := by rw [hI.out]; unfold vI; rw [if_neg (by omega), if_neg hnb]
      have eC : C = 0 := by rw [hC.out]; unfold vC; rw [if_neg (by omega), dif_neg hnb]
      subst eC eI
      go_wp2
      refine bodyPost_ret (v := .agg #[.int .i64 0, .int .i64 0]) (by simp [results, Try.results49, go_sem, c0, c1]) rfl ?_
      exact ⟨rfl, (by repeat (first | exact Below.refl _ _ | assumption | apply extAlloc | apply extDrewN | apply extDrew | (refine extStep ?_ (by assumption) (by first | (simp; done) | (simp; omega) | omega)) | (refine extCall ?_ (by assumption)) | (refine extSet ?_ (by first | (simp; done) | (simp; omega) | omega) _)))⟩

theorem RefLinesFault_any (w : World) (v : Value) (l : List ByteArray) (h : Strs w v l) :
    Calls Try.prog 49 #[v] w fun e w' => e = .returned (.agg #[.int .i64 (vC l), .int .i64 (vI l)]) ∧ Below w.heap.size w w' := by
  by_cases hl : 120 < l.length
  · rw [show vC l = 2 from if_pos hl, show vI l = -1 from if_pos hl]
    exact RefLinesFault_many w v l h hl
  · exact RefLinesFault_few w v l h (by omega) _ _ rfl rfl

theorem field_code (a b : Int) (w : World) : (Instr.field 24 (.agg #[.int .i64 a, .int .i64 b]) 0).run Try.prog w = .ok (.int .i64 a) w := by kernel_rfl

theorem LinesCode_any (w : World) (v : Value) (l : List ByteArray) (h : Strs w v l) :
    Calls Try.prog 41 #[v] w fun e w' => e = .returned (.int .i64 (vC l)) ∧ Below w.heap.size w w' := by
  replace h := Lib.hid h
  have hf := field_code
  go_enter Try.func41, Try.ntmps41
  go_wp2_with fail
  with_reducible refine Calls.mono (RefLinesFault_any _ _ l h.out) ?_
  rintro e w1 ⟨rfl, b1⟩
  go_wp2_with fail
  go_ret
  exact ⟨rfl, (by repeat (first | exact Below.refl _ _ | assumption | apply extAlloc | apply extDrewN | apply extDrew | (refine extStep ?_ (by assumption) (by first | (simp; done) | (simp; omega) | omega)) | (refine extCall ?_ (by assumption)) | (refine extSet ?_ (by first | (simp; done) | (simp; omega) | omega) _)))⟩

theorem One_any (w : World) (s : ByteArray) (hm : s.size ≤ maxLen) :
    Calls Try.prog 23 #[.string s] w fun e w' => e = .returned (.int .i64 (vC [s])) ∧ Below w.heap.size w w' := by
  replace hm := Lib.hid hm
  go_enter Try.func23, Try.ntmps23
  go_wp2_with fail
  with_reducible refine Calls.mono (LinesCode_any _ _ [s] (strs_one s (by simp) hm.out)) ?_
  rintro e w1 ⟨rfl, b1⟩
  go_wp2_with fail
  go_ret
  exact ⟨rfl, (by repeat (first | exact Below.refl _ _ | assumption | apply extAlloc | apply extDrewN | apply extDrew | (refine extStep ?_ (by assumption) (by first | (simp; done) | (simp; omega) | omega)) | (refine extCall ?_ (by assumption)) | (refine extSet ?_ (by first | (simp; done) | (simp; omega) | omega) _)))⟩

theorem TwoFault_any (w : World) (v u : Value) (l m : List ByteArray) (h : Strs w v l) (h2 : Strs w u m) :
    Calls Try.prog 30 #[v, u] w fun e w' => e = .returned (.agg #[.int .i64 (bC l m), .int .i64 (bI l m)]) ∧ Below w.heap.size w w' := by
  replace h := Lib.hid h
  replace h2 := Lib.hid h2
  by_cases hz : vC l = 0
  · have hI := vI_good l ((vC_good l).1 hz)
    by_cases hy : vC m = 0
    · rw [show bC l m = 0 from (if_pos hz).trans hy, show bI l m = 0 from (if_pos hz).trans (if_pos hy)]
      replace hz := Lib.hid hz
      replace hy := Lib.hid hy
      replace hI := Lib.hid hI
      go_enter Try.func30, Try.ntmps30
      go_wp2_with (first | (go_at_call 49; with_reducible refine Calls.mono (RefLinesFault_any _ _ l (h.out.mono (by exact (by repeat (first | exact Below.refl _ _ | assumption | apply extAlloc | apply extDrewN | apply extDrew | (refine extStep ?_ (by assumption) (by first | (simp; done) | (simp; omega) | omega)) | (refine extCall ?_ (by assumption)) | (refine extSet ?_ (by first | (simp; done) | (simp; omega) | omega) _)))))) ?_; rintro e w1 ⟨rfl, b1⟩; rw [hz.out, hI.out]; have z1 := b1.size; simp at z1; have B := (Blk.new w #[.int .i64 0, .int .i64 0] 24).call b1) | (go_at_call 41; with_reducible refine Calls.mono (LinesCode_any _ _ m (h2.out.mono (by exact (by repeat (first | exact Below.refl _ _ | assumption | apply extAlloc | apply extDrewN | apply extDrew | (refine extStep ?_ (by assumption) (by first | (simp; done) | (simp; omega) | omega)) | (refine extCall ?_ (by assumption)) | (refine extSet ?_ (by first | (simp; done) | (simp; omega) | omega) _)))))) ?_; rintro e w2 ⟨rfl, b2⟩; rw [hy.out]; have z2 := b2.size; simp at z2; have B2 := (B.alloc (.cells #[.int .i64 0, .int .i64 0] 24)).call b2; have D := (Blk.new w1 #[.int .i64 0, .int .i64 0] 24).call b2; have c0 := B2.cell 0; have c1 := B2.cell 1; have f0 := B2.fr 0; have f1 := B2.fr 1; have d0 := D.cell 0; have d1 := D.cell 1))
      refine bodyPost_ret (v := .agg #[.int .i64 0, .int .i64 0]) (by simp [results, Try.results30, go_sem, c0, c1]) rfl ?_
      exact ⟨rfl, (by repeat (first | exact Below.refl _ _ | assumption | apply extAlloc | apply extDrewN | apply extDrew | (refine extStep ?_ (by assumption) (by first | (simp; done) | (simp; omega) | omega)) | (refine extCall ?_ (by assumption)) | (refine extSet ?_ (by first | (simp; done) | (simp; omega) | omega) _)))⟩
    · rw [show bC l m = vC m from if_pos hz, show bI l m = -2 from (if_pos hz).trans (if_neg hy)]
      generalize hq : vC m = q at hy
      have hy' : (q != 0) = true := by simpa using hy
      replace hz := Lib.hid hz
      replace hq := Lib.hid hq
      replace hI := Lib.hid hI
      clear hy
      go_enter Try.func30, Try.ntmps30
      go_wp2_with (go_at_call 49; with_reducible refine Calls.mono (RefLinesFault_any _ _ l (h.out.mono (by exact (by repeat (first | exact Below.refl _ _ | assumption | apply extAlloc | apply extDrewN | apply extDrew | (refine extStep ?_ (by assumption) (by first | (simp; done) | (simp; omega) | omega)) | (refine extCall ?_ (by assumption)) | (refine extSet ?_ (by first | (simp; done) | (simp; omega) | omega) _)))))) ?_; rintro e w1 ⟨rfl, b1⟩; rw [hz.out, hI.out]; have z1 := b1.size; simp at z1; have B := (Blk.new w #[.int .i64 0, .int .i64 0] 24).call b1)
      with_reducible refine Calls.mono (LinesCode_any _ _ m (h2.out.mono (by exact (by repeat (first | exact Below.refl _ _ | assumption | apply extAlloc | apply extDrewN | apply extDrew | (refine extStep ?_ (by assumption) (by first | (simp; done) | (simp; omega) | omega)) | (refine extCall ?_ (by assumption)) | (refine extSet ?_ (by first | (simp; done) | (simp; omega) | omega) _)))))) ?_
      rintro e w2 ⟨rfl, b2⟩
      rw [hq.out]
      have z2 := b2.size
      simp at z2
      have B2 := (B.alloc (.cells #[.int .i64 0, .int .i64 0] 24)).call b2
      have D2 := (Blk.new w1 #[.int .i64 0, .int .i64 0] 24).call b2
      have e2 : Below w.heap.size w w2 := (by repeat (first | exact Below.refl _ _ | assumption | apply extAlloc | apply extDrewN | apply extDrew | (refine extStep ?_ (by assumption) (by first | (simp; done) | (simp; omega) | omega)) | (refine extCall ?_ (by assumption)) | (refine extSet ?_ (by first | (simp; done) | (simp; omega) | omega) _)))
      go_wp2_with fail
      with_reducible refine Calls.mono (LinesCode_any _ _ m (h2.out.mono (by exact (by repeat (first | exact Below.refl _ _ | assumption | apply extAlloc | apply extDrewN | apply extDrew | (refine extStep ?_ (by assumption) (by first | (simp; done) | (simp; omega) | omega)) | (refine extCall ?_ (by assumption)) | (refine extSet ?_ (by first | (simp; done) | (simp; omega) | omega) _)))))) ?_
      rintro e w3 ⟨rfl, b3⟩
      rw [hq.out]
      go_wp2_with fail
      with_reducible refine Calls.mono (At_any _ _ _) ?_
      rintro e w4 ⟨rfl, b4⟩
      have B4 := (B2.call b3).call b4
      have D4 := (D2.call b3).call b4
      have c0 := B4.cell 0
      have c1 := B4.cell 1
      have f0 := B4.fr 0
      have f1 := B4.fr 1
      have d0 := D4.cell 0
      have d1 := D4.cell 1
      have g0 := D4.fr 0
      have g1 := D4.fr 1
      go_wp2_with fail
      refine bodyPost_ret (v := .agg #[.int .i64 q, .int .i64 (-2)]) (by simp [results, Try.results30, go_sem, c0, c1]) rfl ?_
      exact ⟨rfl, (by repeat (first | exact Below.refl _ _ | assumption | apply extAlloc | apply extDrewN | apply extDrew | (refine extStep ?_ (by assumption) (by first | (simp; done) | (simp; omega) | omega)) | (refine extCall ?_ (by assumption)) | (refine extSet ?_ (by first | (simp; done) | (simp; omega) | omega) _)))⟩
  · rw [show bC l m = vC l from if_neg hz, show bI l m = vI l from if_neg hz]
    generalize hq : vC l = q at hz
    have hz' : (q == 0) = false := by simpa using hz
    replace hq := Lib.hid hq
    clear hz
    go_enter Try.func30, Try.ntmps30
    go_wp2_with (go_at_call 49; with_reducible refine Calls.mono (RefLinesFault_any _ _ l (h.out.mono (by exact (by repeat (first | exact Below.refl _ _ | assumption | apply extAlloc | apply extDrewN | apply extDrew | (refine extStep ?_ (by assumption) (by first | (simp; done) | (simp; omega) | omega)) | (refine extCall ?_ (by assumption)) | (refine extSet ?_ (by first | (simp; done) | (simp; omega) | omega) _)))))) ?_; rintro e w1 ⟨rfl, b1⟩; rw [hq.out]; have z1 := b1.size; simp at z1; have B := (Blk.new w #[.int .i64 0, .int .i64 0] 24).call b1; have c0 := B.cell 0; have c1 := B.cell 1; have f0 := B.fr 0; have f1 := B.fr 1; have y := B.lt)
    refine bodyPost_ret (v := .agg #[.int .i64 q, .int .i64 (vI l)]) (by simp [results, Try.results30, go_sem, c0, c1, y]) rfl ?_
    exact ⟨rfl, (by repeat (first | exact Below.refl _ _ | assumption | apply extAlloc | apply extDrewN | apply extDrew | (refine extStep ?_ (by assumption) (by first | (simp; done) | (simp; omega) | omega)) | (refine extCall ?_ (by assumption)) | (refine extSet ?_ (by first | (simp; done) | (simp; omega) | omega) _)))⟩
end Go.Proofs.Ytdpcbffmmndhcaa
