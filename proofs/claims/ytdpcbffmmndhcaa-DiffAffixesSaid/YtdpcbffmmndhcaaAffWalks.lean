/- The walk of lines.Common. -/
import Derived.Test.YtdpcbffmmndhcaaAffPure
import Derived.Deep.CutBlock
namespace Go.Proofs.Ytdpcbffmmndhcaa
open Go.RowKit

theorem row_str {w : World} {ao : Option Addr} {l : List ByteArray} (h : Row w ao (l.map Value.string)) (i : Nat) (hi : i < l.length) : ∃ b off, ao = some ⟨b, off, none⟩ ∧ b < w.heap.size ∧ w.cell? ⟨b, off + i, none⟩ = some (.string l[i]) := by
  obtain ⟨b, off, e, hl, hc⟩ := h.at i (by simpa using hi)
  exact ⟨b, off, e, hl, by rw [hc]; simp⟩

theorem aff_rev {α : Type} {l : List α} {k j : Nat} (h : k < l.length) (hj : j = l.length - 1 - k) : ∃ (h1 : k < l.reverse.length) (h2 : j < l.length), l.reverse[k] = l[j] := by
  subst hj
  exact ⟨by simpa using h, by omega, by rw [List.getElem_reverse]⟩

set_option maxHeartbeats 1000000 in
theorem LinCommon_good (w : World) (v u : Value) (a b : List ByteArray) (h : Strs w v a) (h' : Strs w u b) (ga : Good a) (gb : Good b) :
    Calls Try.prog 19 #[v, u] w fun e w' => ∃ p s : Nat, IsAff a b p s ∧ e = .returned (.tuple #[.int .i64 p, .int .i64 s, .agg #[.int .i64 0, .int .i64 0]]) ∧ Below w.heap.size w w' := by
  have hz : bC a b = 0 := (bC_good a b).2 ⟨ga, gb⟩
  have hI := bI_good a b ga gb
  have la := ga.1
  have lb := gb.1
  obtain ⟨ao, cap, rfl, h1, h2, h3, h4⟩ := h.sl
  obtain ⟨bo, cap', rfl, k1, k2, k3, k4⟩ := h'.sl
  rw [maxLen_eq] at h2 k2
  replace h3 := Lib.hid h3
  replace k3 := Lib.hid k3
  replace h := Lib.hid h
  replace h' := Lib.hid h'
  clear h4 k4
  replace hz := Lib.hid hz
  replace hI := Lib.hid hI
  clear ga gb
  go_enter Try.func19, Try.ntmps19

  go_upto_block 0 with (go_at_call 38; with_reducible refine Calls.mono (Both_any _ _ _ a b (h.out.mono (by exact (by repeat (first | exact Below.refl _ _ | assumption | apply extAlloc | apply extDrewN | apply extDrew | (refine extStep ?_ (by assumption) (by first | (simp; done) | (simp; omega) | omega)) | (refine extCall ?_ (by assumption)) | (refine extSet ?_ (by first | (simp; done) | (simp; omega) | omega) _))))) (h'.out.mono (by exact (by repeat (first | exact Below.refl _ _ | assumption | apply extAlloc | apply extDrewN | apply extDrew | (refine extStep ?_ (by assumption) (by first | (simp; done) | (simp; omega) | omega)) | (refine extCall ?_ (by assumption)) | (refine extSet ?_ (by first | (simp; done) | (simp; omega) | omega) _)))))) ?_; rintro e w1 ⟨rfl, b1⟩; rw [hz.out, hI.out])
  have e1 : Below w.heap.size w w1 := (by repeat (first | exact Below.refl _ _ | assumption | apply extAlloc | apply extDrewN | apply extDrew | (refine extStep ?_ (by assumption) (by first | (simp; done) | (simp; omega) | omega)) | (refine extCall ?_ (by assumption)) | (refine extSet ?_ (by first | (simp; done) | (simp; omega) | omega) _)))
  have B1 := (Blk.new w #[.int .i64 0, .int .i64 0] 24).call b1
  have B2 := B1.alloc (.cells #[.int .i64 0, .int .i64 0] 24)
  have e2 : Below w.heap.size w (w1.alloc (.cells #[.int .i64 0, .int .i64 0] 24)) := e1.alloc e1.size _
  generalize w1.alloc (.cells #[.int .i64 0, .int .i64 0] 24) = w2 at B2 e2 ⊢
  clear B1 b1 e1
  go_cut [8] from 17 to 39 (fun s8 wx => ∃ k : Nat, s8 = .int .i64 k ∧ Hid (IsPre a b k) ∧ Below w2.heap.size w2 wx)
  case first =>
    go_wp2_with fail
    go_loopw [8] (fun i wr => ∃ k : Nat, k ≤ a.length ∧ k ≤ b.length ∧ i = .int .i64 k ∧ Hid (a.take k = b.take k) ∧ Below w2.heap.size w2 wr) (fun i _ => a.length - (intOf i).toNat)
    case atStart => exact ⟨0, Nat.zero_le _, Nat.zero_le _, rfl, rfl, Below.refl _ _⟩
    case round =>
      obtain ⟨k, hka, hkb, rfl, heq, hb⟩ := hrel
      have eb : Below w.heap.size w wr := (by repeat (first | exact Below.refl _ _ | assumption | apply extAlloc | apply extDrewN | apply extDrew | (refine extStep ?_ (by assumption) (by first | (simp; done) | (simp; omega) | omega)) | (refine extCall ?_ (by assumption)) | (refine extSet ?_ (by first | (simp; done) | (simp; omega) | omega) _)))
      by_cases hlt : k < a.length
      · by_cases hlt' : k < b.length
        · obtain ⟨ab, aoff, ea, hlta, hca⟩ := row_str h3.out k hlt
          obtain ⟨bb, boff, eb', hltb, hcb⟩ := row_str k3.out k hlt'
          subst ea eb'
          obtain ⟨sa, hsa⟩ : ∃ s, s = a[k] := ⟨_, rfl⟩
          obtain ⟨sb, hsb⟩ : ∃ s, s = b[k] := ⟨_, rfl⟩
          have ca : wr.cell? ⟨ab, aoff + k, none⟩ = some (.string sa) := by
            rw [eb.cell (p := ⟨ab, aoff + k, none⟩) hlta, hca, hsa]
          have cb : wr.cell? ⟨bb, boff + k, none⟩ = some (.string sb) := by
            rw [eb.cell (p := ⟨bb, boff + k, none⟩) hltb, hcb, hsb]
          clear hca hcb
          replace hsa := Lib.hid hsa
          replace hsb := Lib.hid hsb
          by_cases e : sa = sb
          · have q2 := str_eq e
            have hnext : Hid (a.take (k + 1) = b.take (k + 1)) := pre_step a b k hlt hlt' heq.out (by rw [← hsa.out, ← hsb.out, e])
            replace e := Lib.hid e
            go_wp2
            go_quiet (fail)
            go_wp2
            go_roundw
            case rel => exact ⟨k + 1, hlt, hlt', by go_num, hnext, below_drewN hb _⟩
            case measure => (first | (simp [intOf]; done) | (simp [intOf]; omega))
          · have q2 := str_ne e
            have hfin : Hid (IsPre a b k) := Lib.hid ⟨hka, hkb, heq.out, fun _ _ => by rw [← hsa.out, ← hsb.out]; exact e⟩
            replace e := Lib.hid e
            go_wp2
            go_quiet (fail)
            go_wp2
            go_meet
            exact ⟨k, rfl, hfin, below_drewN hb _⟩
        · have hfin : Hid (IsPre a b k) := Lib.hid ⟨hka, hkb, heq.out, fun _ h => absurd h hlt'⟩
          go_wp2
          go_quiet (fail)
          go_wp2
          go_meet
          exact ⟨k, rfl, hfin, below_drewN hb _⟩
      · have hfin : Hid (IsPre a b k) := Lib.hid ⟨hka, hkb, heq.out, fun h _ => absurd h hlt⟩
        go_wp2
        go_quiet (fail)
        go_wp2
        go_meet
        exact ⟨k, rfl, hfin, below_drewN hb _⟩
  case rest =>
    obtain ⟨p, rfl, hp, hbx⟩ := hcut
    have hpa := hp.out.1
    have hpb := hp.out.2.1
    have ex : Below w.heap.size w wc := (by repeat (first | exact Below.refl _ _ | assumption | apply extAlloc | apply extDrewN | apply extDrew | (refine extStep ?_ (by assumption) (by first | (simp; done) | (simp; omega) | omega)) | (refine extCall ?_ (by assumption)) | (refine extSet ?_ (by first | (simp; done) | (simp; omega) | omega) _)))
    have hA : Hid (Row w (if cap = p then ao else ao.map (·.add (p * 1))) (((a.take a.length).drop p).map Value.string)) := by
      have := row_part (l := p) (h := a.length) h3.out (by simp) h1 hpa (Nat.le_refl _)
      rwa [← List.map_take, ← List.map_drop] at this
    have hB : Hid (Row w (if cap' = p then bo else bo.map (·.add (p * 1))) (((b.take b.length).drop p).map Value.string)) := by
      have := row_part (l := p) (h := b.length) k3.out (by simp) k1 hpb (Nat.le_refl _)
      rwa [← List.map_take, ← List.map_drop] at this
    rw [List.take_length] at hA hB
    go_upto_region 7 with fail
    go_cut [0, 1] from 10 to 46 (fun x y wx => ∃ (n m : Nat) (xo yo : Option Addr) (cx cy : Nat), x = .slice xo n cx ∧ y = .slice yo m cy ∧ Hid (n = a.length - p) ∧ Hid (m = b.length - p) ∧ Hid (Row w xo ((a.drop p).map Value.string)) ∧ Hid (Row w yo ((b.drop p).map Value.string)) ∧ Below w2.heap.size w2 wx)
    case first =>
      go_wp2
      go_quiet (fail)
      go_wp2
      all_goals
        go_meet
        refine ⟨_, _, _, _, _, _, rfl, rfl, by first | rfl | simp, by first | rfl | simp, ?_, ?_, below_drewN hbx _⟩
        · first | simpa [*] using hA | trace_state
        · first | simpa [*] using hB | trace_state
    case rest =>
      obtain ⟨n, m, xo, yo, cx, cy, rfl, rfl, hn, hm, hA, hB, hby⟩ := hcut
      have n1 : n ≤ 120 := by rw [hn.out]; omega
      have m1 : m ≤ 120 := by rw [hm.out]; omega
      have hla : Hid (n = (a.drop p).length) := by show _ = _; rw [hn.out, List.length_drop]
      have hlb : Hid (m = (b.drop p).length) := by show _ = _; rw [hm.out, List.length_drop]
      generalize hA' : a.drop p = a2 at hla hA
      generalize hB' : b.drop p = b2 at hlb hB
      have hfin : ∀ s, Hid (IsPre a2.reverse b2.reverse s) → Hid (IsAff a b p s) := by
        intro s hs
        refine Lib.hid ⟨hp.out, ?_⟩
        rw [hA', hB']
        exact hs.out
      replace hA' := Lib.hid hA'
      replace hB' := Lib.hid hB'
      clear hn hm
      go_wp2
      go_loopw [9] (fun i wr => ∃ k : Nat, k ≤ n ∧ k ≤ m ∧ i = .int .i64 k ∧ Hid (a2.reverse.take k = b2.reverse.take k) ∧ Below w2.heap.size w2 wr) (fun i _ => n - (intOf i).toNat)
      case atStart => exact ⟨0, Nat.zero_le _, Nat.zero_le _, rfl, rfl, hby⟩
      case round =>
        obtain ⟨k, hka, hkb, rfl, heq, hb⟩ := hrel
        have eb : Below w.heap.size w wr := (by repeat (first | exact Below.refl _ _ | assumption | apply extAlloc | apply extDrewN | apply extDrew | (refine extStep ?_ (by assumption) (by first | (simp; done) | (simp; omega) | omega)) | (refine extCall ?_ (by assumption)) | (refine extSet ?_ (by first | (simp; done) | (simp; omega) | omega) _)))
        by_cases hlt : k < n
        · by_cases hlt' : k < m
          · have ka : k < a2.length := by rw [← hla.out]; exact hlt
            have kb : k < b2.length := by rw [← hlb.out]; exact hlt'
            obtain ⟨i, hi⟩ : ∃ i : Nat, (n : Int) - 1 - k = i := ⟨n - 1 - k, by omega⟩
            obtain ⟨j, hj⟩ : ∃ j : Nat, (m : Int) - 1 - k = j := ⟨m - 1 - k, by omega⟩
            obtain ⟨ra, ia, va⟩ := aff_rev ka (j := i) (by have := hla.out; omega)
            obtain ⟨rb, jb, vb⟩ := aff_rev kb (j := j) (by have := hlb.out; omega)
            have i1 : i < n := by omega
            have j1 : j < m := by omega
            obtain ⟨ab, aoff, ea, hlta, hca⟩ := row_str hA.out i ia
            obtain ⟨bb, boff, eb', hltb, hcb⟩ := row_str hB.out j jb
            subst ea eb'
            obtain ⟨sa, hsa⟩ : ∃ s, s = a2[i] := ⟨_, rfl⟩
            obtain ⟨sb, hsb⟩ : ∃ s, s = b2[j] := ⟨_, rfl⟩
            have ca : wr.cell? ⟨ab, aoff + i, none⟩ = some (.string sa) := by
              rw [eb.cell (p := ⟨ab, aoff + i, none⟩) hlta, hca, hsa]
            have cb : wr.cell? ⟨bb, boff + j, none⟩ = some (.string sb) := by
              rw [eb.cell (p := ⟨bb, boff + j, none⟩) hltb, hcb, hsb]
            clear hca hcb
            rw [← hsa] at va
            rw [← hsb] at vb
            replace va := Lib.hid va
            replace vb := Lib.hid vb
            clear hsa hsb
            by_cases e : sa = sb
            · have q2 := str_eq e
              have hnext : Hid (a2.reverse.take (k + 1) = b2.reverse.take (k + 1)) := pre_step _ _ k ra rb heq.out (by rw [va.out, vb.out, e])
              replace e := Lib.hid e
              clear va vb ra rb ka kb ia jb
              go_wp2
              go_quiet (fail)
              go_wp2
              go_roundw
              case rel => exact ⟨k + 1, hlt, hlt', by go_num, hnext, below_drewN hb _⟩
              case measure => (first | (simp [intOf]; done) | (simp [intOf]; omega))
            · have q2 := str_ne e
              have hend := hfin k (Lib.hid ⟨by rw [List.length_reverse, ← hla.out]; exact hka, by rw [List.length_reverse, ← hlb.out]; exact hkb, heq.out, fun _ _ => by rw [va.out, vb.out]; exact e⟩)
              replace e := Lib.hid e
              clear va vb ra rb ka kb ia jb
              have B3 := (B2.call hb).drewN
              have y := B2.lt
              have c0 := fun nq => (B3 nq).cell 0
              have c1 := fun nq => (B3 nq).cell 1
              have f0 := fun nq => (B3 nq).fr 0
              have f1 := fun nq => (B3 nq).fr 1
              go_wp2
              go_quiet (fail)
              go_wp2
              refine bodyPost_ret (v := .tuple #[.int .i64 p, .int .i64 k, .agg #[.int .i64 0, .int .i64 0]]) (by simp [results, Try.results19, go_sem, c0, c1]) rfl ?_
              exact ⟨p, k, hend.out, rfl, (by repeat (first | exact Below.refl _ _ | assumption | apply extAlloc | apply extDrewN | apply extDrew | (refine extStep ?_ (by assumption) (by first | (simp; done) | (simp; omega) | omega)) | (refine extCall ?_ (by assumption)) | (refine extSet ?_ (by first | (simp; done) | (simp; omega) | omega) _)))⟩
          · have hend := hfin k (Lib.hid ⟨by rw [List.length_reverse, ← hla.out]; exact hka, by rw [List.length_reverse, ← hlb.out]; exact hkb, heq.out, fun _ h => absurd h (by rw [List.length_reverse, ← hlb.out]; exact hlt')⟩)
            have B3 := (B2.call hb).drewN
            have y := B2.lt
            have c0 := fun nq => (B3 nq).cell 0
            have c1 := fun nq => (B3 nq).cell 1
            have f0 := fun nq => (B3 nq).fr 0
            have f1 := fun nq => (B3 nq).fr 1
            go_wp2
            go_quiet (fail)
            go_wp2
            refine bodyPost_ret (v := .tuple #[.int .i64 p, .int .i64 k, .agg #[.int .i64 0, .int .i64 0]]) (by simp [results, Try.results19, go_sem, c0, c1]) rfl ?_
            exact ⟨p, k, hend.out, rfl, (by repeat (first | exact Below.refl _ _ | assumption | apply extAlloc | apply extDrewN | apply extDrew | (refine extStep ?_ (by assumption) (by first | (simp; done) | (simp; omega) | omega)) | (refine extCall ?_ (by assumption)) | (refine extSet ?_ (by first | (simp; done) | (simp; omega) | omega) _)))⟩
        · have hend := hfin k (Lib.hid ⟨by rw [List.length_reverse, ← hla.out]; exact hka, by rw [List.length_reverse, ← hlb.out]; exact hkb, heq.out, fun h _ => absurd h (by rw [List.length_reverse, ← hla.out]; exact hlt)⟩)
          have B3 := (B2.call hb).drewN
          have y := B2.lt
          have c0 := fun nq => (B3 nq).cell 0
          have c1 := fun nq => (B3 nq).cell 1
          have f0 := fun nq => (B3 nq).fr 0
          have f1 := fun nq => (B3 nq).fr 1
          go_wp2
          go_quiet (fail)
          go_wp2
          refine bodyPost_ret (v := .tuple #[.int .i64 p, .int .i64 k, .agg #[.int .i64 0, .int .i64 0]]) (by simp [results, Try.results19, go_sem, c0, c1]) rfl ?_
          exact ⟨p, k, hend.out, rfl, (by repeat (first | exact Below.refl _ _ | assumption | apply extAlloc | apply extDrewN | apply extDrew | (refine extStep ?_ (by assumption) (by first | (simp; done) | (simp; omega) | omega)) | (refine extCall ?_ (by assumption)) | (refine extSet ?_ (by first | (simp; done) | (simp; omega) | omega) _)))⟩

theorem LinCommon_bad (w : World) (v u : Value) (a b : List ByteArray) (h : Strs w v a) (h' : Strs w u b) (hz : ¬ bC a b = 0) :
    Calls Try.prog 19 #[v, u] w fun e w' => e = .returned (.tuple #[.int .i64 0, .int .i64 0, .agg #[.int .i64 (bC a b), .int .i64 (bI a b)]]) ∧ Below w.heap.size w w' := by
  replace h := Lib.hid h
  replace h' := Lib.hid h'
  generalize hq : bC a b = q at hz
  have hz' : (q == 0) = false := by simpa using hz
  replace hq := Lib.hid hq
  clear hz
  go_enter Try.func19, Try.ntmps19
  go_wp2_with (go_at_call 38; with_reducible refine Calls.mono (Both_any _ _ _ a b (h.out.mono (by exact (by repeat (first | exact Below.refl _ _ | assumption | apply extAlloc | apply extDrewN | apply extDrew | (refine extStep ?_ (by assumption) (by first | (simp; done) | (simp; omega) | omega)) | (refine extCall ?_ (by assumption)) | (refine extSet ?_ (by first | (simp; done) | (simp; omega) | omega) _))))) (h'.out.mono (by exact (by repeat (first | exact Below.refl _ _ | assumption | apply extAlloc | apply extDrewN | apply extDrew | (refine extStep ?_ (by assumption) (by first | (simp; done) | (simp; omega) | omega)) | (refine extCall ?_ (by assumption)) | (refine extSet ?_ (by first | (simp; done) | (simp; omega) | omega) _)))))) ?_; rintro e w1 ⟨rfl, b1⟩; rw [hq.out]; have B := (Blk.new w #[.int .i64 0, .int .i64 0] 24).call b1; have c0 := B.cell 0; have c1 := B.cell 1; have f0 := B.fr 0; have f1 := B.fr 1; have y := B.lt)
  go_region
  all_goals go_wp2
  all_goals
    refine bodyPost_ret (v := .tuple #[.int .i64 0, .int .i64 0, .agg #[.int .i64 q, .int .i64 (bI a b)]]) (by simp [results, Try.results19, go_sem, c0, c1, y]) rfl ?_
    exact ⟨rfl, (by repeat (first | exact Below.refl _ _ | assumption | apply extAlloc | apply extDrewN | apply extDrew | (refine extStep ?_ (by assumption) (by first | (simp; done) | (simp; omega) | omega)) | (refine extCall ?_ (by assumption)) | (refine extSet ?_ (by first | (simp; done) | (simp; omega) | omega) _)))⟩
end Go.Proofs.Ytdpcbffmmndhcaa
