/- Texts: the walks of Validate, Second, Both. -/
import Derived.Test.YtdpcbffmmndhcaaRows
import Derived.Test.YtdpcbffmmndhcaaLinPure
import Derived.Test.YtdpcbffmmndhcaaShelf
namespace Go.Proofs.Ytdpcbffmmndhcaa
open Go.RowKit

theorem Validate_many (w : World) (v : Value) (l : List ByteArray) (h : Strs w v l) (hl : 120 < l.length) :
    Calls Try.prog 54 #[v] w fun e w' => e = .returned (.agg #[.int .i64 2, .int .i64 (-1)]) ∧ Below w.heap.size w w' := by
  obtain ⟨ao, cap, rfl, h1, h2, h3, h4⟩ := h.sl
  rw [maxLen_eq] at h2
  clear h
  go_enter Try.func54, Try.ntmps54
  go_wp2
  refine bodyPost_ret (v := .agg #[.int .i64 2, .int .i64 (-1)]) (by simp [results, Try.results54, go_sem]) rfl ?_
  exact ⟨rfl, (by repeat (first | exact Below.refl _ _ | assumption | apply extAlloc | apply extDrewN | apply extDrew | (refine extStep ?_ (by assumption) (by first | (simp; done) | (simp; omega) | omega)) | (refine extCall ?_ (by assumption)) | (refine extSet ?_ (by first | (simp; done) | (simp; omega) | omega) _)))⟩

set_option maxHeartbeats 1000000 in
theorem Validate_few (w : World) (v : Value) (l : List ByteArray) (h : Strs w v l) (hl : l.length ≤ 120) (C I : Int) (hC : C = vC l) (hI : I = vI l) :
    Calls Try.prog 54 #[v] w fun e w' => e = .returned (.agg #[.int .i64 C, .int .i64 I]) ∧ Below w.heap.size w w' := by
  have hs := h.2
  obtain ⟨ao, cap, rfl, h1, h2, h3, h4⟩ := h.sl
  rw [maxLen_eq] at h2
  clear h
  replace h4 := Lib.hid h4
  replace h3 := Lib.hid h3
  replace hs := Lib.hid hs
  have hvl := vIdx_le l
  replace hC := Lib.hid hC
  replace hI := Lib.hid hI
  go_enter Try.func54, Try.ntmps54
  go_wp2
  go_loopw [11] (fun i wr => ∃ k : Nat, k ≤ vIdx l ∧ i = .int .i64 k ∧ Below w.heap.size w wr ∧ Blk wr w.heap.size #[.int .i64 0, .int .i64 0] 24) (fun i _ => l.length - (intOf i).toNat)
  case atStart => exact ⟨0, Nat.zero_le _, rfl, (by repeat (first | exact Below.refl _ _ | assumption | apply extAlloc | apply extDrewN | apply extDrew | (refine extStep ?_ (by assumption) (by first | (simp; done) | (simp; omega) | omega)) | (refine extCall ?_ (by assumption)) | (refine extSet ?_ (by first | (simp; done) | (simp; omega) | omega) _))), Blk.new _ _ _⟩
  case round =>
    obtain ⟨k, hk, rfl, hb, hB⟩ := hrel
    have zB := hB.lt
    have c0 := hB.cell 0
    have c1 := hB.cell 1
    have f0 := hB.fr 0
    have f1 := hB.fr 1
    by_cases hlt : k < l.length
    · obtain ⟨b, off, e, hlt2, hc0⟩ := h3.out.at k (by simpa using hlt)
      obtain ⟨s, es⟩ : ∃ s, s = l[k] := ⟨_, rfl⟩
      have hcell : wr.cell? ⟨b, off + k, none⟩ = some (.string s) := by
        rw [hb.cell (p := ⟨b, off + k, none⟩) hlt2, hc0, es]
        simp
      have hm : s.size ≤ maxLen := by rw [es]; exact hs.out _ (List.getElem_mem hlt)
      rw [maxLen_eq] at hm
      subst e
      clear hc0
      have hib := indexByte_mem s.data.toList 10
      replace hib := Lib.hid hib
      by_cases hbad : k = vIdx l
      · have hlt' : vIdx l < l.length := by omega
        have hbd := line_bad l hlt'
        have eI : I = (k : Int) := by rw [hI.out, hbad]; unfold vI; rw [if_neg (by omega), if_pos hlt']
        have eC : C = lineC s := by rw [hC.out, es]; unfold vC; rw [if_neg (by omega), dif_pos hlt']; simp only [hbad]
        have hne : lineC s ≠ 0 := by rw [es]; simp only [hbad]; exact hbd
        replace es := Lib.hid es
        replace hbad := Lib.hid hbad
        clear hbd
        by_cases hbig : 80 < s.size
        · rw [lineC_long s hbig] at eC
          subst eC eI
          go_wp2
          refine bodyPost_ret (v := .agg #[.int .i64 2, .int .i64 k]) (by simp [results, Try.results54, go_sem, c0, c1]) rfl ?_
          exact ⟨rfl, (by repeat (first | exact Below.refl _ _ | assumption | apply extAlloc | apply extDrewN | apply extDrew | (refine extStep ?_ (by assumption) (by first | (simp; done) | (simp; omega) | omega)) | (refine extCall ?_ (by assumption)) | (refine extSet ?_ (by first | (simp; done) | (simp; omega) | omega) _)))⟩
        · have hmem : (10 : UInt8) ∈ s.data.toList := by
            rcases Classical.em ((10 : UInt8) ∈ s.data.toList) with h | h
            · exact h
            · exact absurd ((lineC_ok s).2 ⟨by omega, h⟩) hne
          rw [lineC_nl s hbig hmem] at eC
          have hge := hib.out.2 hmem
          subst eC eI
          clear hne
          generalize hq : Lib.indexByte s.data.toList 10 = q at hge
          replace hq := Lib.hid hq
          go_wp2_with (go_at_call 62; with_reducible refine Calls.mono (Try.strings_IndexByte _ _ _) ?_; rintro e w1 ⟨rfl, rfl⟩; rw [show (10 : Int).toNat.toUInt8 = 10 from rfl, hq.out])
          refine bodyPost_ret (v := .agg #[.int .i64 5, .int .i64 k]) (by simp [results, Try.results54, go_sem, c0, c1]) rfl ?_
          exact ⟨rfl, (by repeat (first | exact Below.refl _ _ | assumption | apply extAlloc | apply extDrewN | apply extDrew | (refine extStep ?_ (by assumption) (by first | (simp; done) | (simp; omega) | omega)) | (refine extCall ?_ (by assumption)) | (refine extSet ?_ (by first | (simp; done) | (simp; omega) | omega) _)))⟩
      · have hok := (lineC_ok _).1 (line_ok l k (by omega) hlt)
        rw [← es] at hok
        obtain ⟨hsm, hnm⟩ := hok
        have hk1 : k + 1 ≤ vIdx l := by omega
        have hlt0 : Lib.indexByte s.data.toList 10 < 0 := by
          rcases Int.lt_or_le (Lib.indexByte s.data.toList 10) 0 with h | h
          · exact h
          · exact absurd (hib.out.1 h) hnm
        replace es := Lib.hid es
        replace hnm := Lib.hid hnm
        clear hbad hk
        generalize hq : Lib.indexByte s.data.toList 10 = q at hlt0
        replace hq := Lib.hid hq
        go_wp2_with (go_at_call 62; with_reducible refine Calls.mono (Try.strings_IndexByte _ _ _) ?_; rintro e w1 ⟨rfl, rfl⟩; rw [show (10 : Int).toNat.toUInt8 = 10 from rfl, hq.out])
        go_roundw
        case rel => exact ⟨k + 1, hk1, by go_num, hb, hB⟩
        case measure => simp [intOf]; omega
    · have hnb : ¬ vIdx l < l.length := by omega
      have eI : I = 0 := by rw [hI.out]; unfold vI; rw [if_neg (by omega), if_neg hnb]
      have eC : C = 0 := by rw [hC.out]; unfold vC; rw [if_neg (by omega), dif_neg hnb]
      subst eC eI
      go_wp2
      refine bodyPost_ret (v := .agg #[.int .i64 0, .int .i64 0]) (by simp [results, Try.results54, go_sem, c0, c1]) rfl ?_
      exact ⟨rfl, (by repeat (first | exact Below.refl _ _ | assumption | apply extAlloc | apply extDrewN | apply extDrew | (refine extStep ?_ (by assumption) (by first | (simp; done) | (simp; omega) | omega)) | (refine extCall ?_ (by assumption)) | (refine extSet ?_ (by first | (simp; done) | (simp; omega) | omega) _)))⟩

theorem Validate_any (w : World) (v : Value) (l : List ByteArray) (h : Strs w v l) :
    Calls Try.prog 54 #[v] w fun e w' => e = .returned (.agg #[.int .i64 (vC l), .int .i64 (vI l)]) ∧ Below w.heap.size w w' := by
  by_cases hl : 120 < l.length
  · rw [show vC l = 2 from if_pos hl, show vI l = -1 from if_pos hl]
    exact Validate_many w v l h hl
  · exact Validate_few w v l h (by omega) _ _ rfl rfl
end Go.Proofs.Ytdpcbffmmndhcaa
