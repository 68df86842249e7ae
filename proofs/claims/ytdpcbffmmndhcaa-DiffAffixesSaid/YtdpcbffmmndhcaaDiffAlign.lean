/- The walk of diff.Align. -/
import Derived.Test.YtdpcbffmmndhcaaRows
import Derived.Test.YtdpcbffmmndhcaaDiffTab
import Derived.Test.YtdpcbffmmndhcaaMemInts
namespace Go.Proofs.Ytdpcbffmmndhcaa
open Go.RowKit

/-- at(i, j): a cell of the table -/
theorem At_cell (i j W : Int) (bl bw bt n p q : Nat) (v : Int) (w : World) (hl : w.cell? ⟨bl, 0, none⟩ = some (.slice (some ⟨bt, 0, none⟩) n n)) (hw : w.cell? ⟨bw, 0, none⟩ = some (.int .i64 W))
    (hp : i * W = (p : Int)) (hq : (p : Int) + j = (q : Int)) (hqn : q < n) (hn : n ≤ 14641) (hpn : p ≤ 14641) (hc : w.cell? ⟨bt, q, none⟩ = some (.int .i64 v)) :
    Calls Try.prog 56 #[.int .i64 i, .int .i64 j, .pointer (some ⟨bl, 0, none⟩), .pointer (some ⟨bw, 0, none⟩)] w fun e w' => e = .returned (.int .i64 v) ∧ w = w' := by
  go_enter Try.func56, Try.ntmps56
  go_wp2
  go_ret
  exact ⟨rfl, rfl⟩

theorem madeCells_get (n i : Nat) (h : i < n) : (madeCells #[Value.int .i64 0] n)[i]? = some (.int .i64 0) := by
  rw [← Array.getElem?_toList, toList_madeCells_one, List.getElem?_replicate, if_pos h]

set_option maxRecDepth 100000 in
set_option maxHeartbeats 4000000 in
theorem Align_any (w : World) (v u : Value) (a b : List ByteArray) (ha : Strs w v a) (hb : Strs w u b) (la : a.length ≤ 120) (lb : b.length ≤ 120) :
    Calls Try.prog 39 #[v, u] w fun e w' => ∃ x, e = .returned x ∧ Ints w' x (align a b) ∧ Below w.heap.size w w' := by
  obtain ⟨ao, cap, rfl, h1, h2, h3, h4⟩ := ha.sl
  obtain ⟨bo, cap', rfl, k1, k2, k3, k4⟩ := hb.sl
  clear h1 h2 h4 k1 k2 k4 ha hb
  replace h3 := Lib.hid h3
  replace k3 := Lib.hid k3
  obtain ⟨W, hW⟩ : ∃ W, W = b.length + 1 := ⟨_, rfl⟩
  obtain ⟨N, hN⟩ : ∃ N, N = (a.length + 1) * W := ⟨_, rfl⟩
  have hNb : N ≤ 14641 := by
    rw [hN, hW]
    exact Nat.le_trans (Nat.mul_le_mul (Nat.succ_le_succ la) (Nat.succ_le_succ lb)) (by decide)
  have hWi : ((b.length : Int) + 1) = (W : Int) := by omega
  have hNi : ((a.length : Int) + 1) * (W : Int) = (N : Int) := by rw [hN]; simp
  obtain ⟨i0, hi, hz0, hz1, hz2⟩ := info_parts info3
  have hmk : ∀ x : World, (Instr.makeSlice 60 (.int .i64 (N : Int)) (.int .i64 (N : Int))).run Try.prog x = .ok (.slice (some ⟨x.heap.size, 0, none⟩) N N) (x.alloc (.cells (madeCells #[.int .i64 0] N) 3)) := fun x => by
    have h := run_make (P := Try.prog) x 60 3 i0 (.int .i64 0) Try.underlying60 hi hz0 .i64 .i64 (N : Int) (N : Int) (by omega) (Int.le_refl _) (by rw [hz2]; omega) (by omega)
    simpa [hz1, Value.cells] using h
  clear hi hz0 hz1 hz2 i0
  replace hN := Lib.hid hN
  replace hW := Lib.hid hW
  go_enter Try.func39, Try.ntmps39
  go_wp2
  go_loopw [8] (fun i wr => ∃ (q : Int) (arr : Array Value), -1 ≤ q ∧ q < a.length ∧ i = .int .i64 q ∧ Hid (Fill a b (q + 1).toNat b.length arr) ∧ Below w.heap.size w wr ∧ Blk wr w.heap.size #[.int .i64 W] 3 ∧ Blk wr (w.heap.size + 1) arr 3 ∧ Blk wr (w.heap.size + 1 + 1) #[.slice (some ⟨w.heap.size + 1, 0, none⟩) N N] 60) (fun i _ => (intOf i + 1).toNat)
  case atStart =>
    refine ⟨(a.length : Int) - 1, madeCells #[.int .i64 0] N, by omega, by omega, rfl, ?_, (by repeat (first | exact Below.refl _ _ | assumption | apply extAlloc | apply extDrewN | apply extDrew | (refine extStep ?_ (by assumption) (by first | (simp; done) | (simp; omega) | omega)) | (refine extCall ?_ (by assumption)) | (refine extSet ?_ (by first | (simp; done) | (simp; omega) | omega) _))), ?_, ?_, ?_⟩
    · have e : ((a.length : Int) - 1 + 1).toNat = a.length := by omega
      rw [e]
      refine Fill.start a b _ (by rw [size_madeCells, hN.out, hW.out]) fun i hi => madeCells_get _ _ (by rwa [size_madeCells] at hi)
    · exact ((Blk.new _ _ _).alloc _).alloc _
    · exact Blk.alloc (b := w.heap.size + 1) (by have := Blk.new (w.alloc (.cells #[.int .i64 W] 3)) (madeCells #[.int .i64 0] N) 3; simpa using this) _
    · have := Blk.new ((w.alloc (.cells #[.int .i64 W] 3)).alloc (.cells (madeCells #[.int .i64 0] N) 3)) #[.slice (some ⟨w.heap.size + 1, 0, none⟩) N N] 60
      simpa using this
  case round =>
    obtain ⟨q, arr, hq0, hq1, rfl, hF, hB, hBw, hBt, hBl⟩ := hrel
    obtain ⟨wo, rfl⟩ : ∃ wo : World, wo = wr := ⟨_, rfl⟩
    by_cases hq : 0 ≤ q
    · obtain ⟨k, rfl⟩ := Int.eq_ofNat_of_zero_le hq
      have hk : k < a.length := by omega
      have hF1 : Hid (Fill a b (k + 1) b.length arr) := by
        have e : ((k : Int) + 1).toNat = k + 1 := by omega
        have := hF.out
        rwa [e] at this
      clear hF hq0 hq
      go_wp2
      go_loopw [9, 10] (fun j _ wr => ∃ (r : Int) (arr : Array Value), -1 ≤ r ∧ r < b.length ∧ j = .int .i64 r ∧ Hid (Fill a b (k + 1) (r + 1).toNat arr) ∧ Below w.heap.size w wr ∧ Blk wr w.heap.size #[.int .i64 W] 3 ∧ Blk wr (w.heap.size + 1) arr 3 ∧ Blk wr (w.heap.size + 1 + 1) #[.slice (some ⟨w.heap.size + 1, 0, none⟩) N N] 60) (fun j _ _ => (intOf j + 1).toNat)
      case atStart =>
        refine ⟨(b.length : Int) - 1, arr, by omega, by omega, rfl, ?_, hB, hBw, hBt, hBl⟩
        have e : ((b.length : Int) - 1 + 1).toNat = b.length := by omega
        rw [e]
        exact hF1
      case round =>
        clear hF1 hBw hBt hBl hB
        obtain ⟨r, arr2, hr0, hr1, rfl, hF, hB, hBw, hBt, hBl⟩ := hrel
        by_cases hr : 0 ≤ r
        · obtain ⟨m, rfl⟩ := Int.eq_ofNat_of_zero_le hr
          have hm : m < b.length := by omega
          have hF1 : Fill a b (k + 1) (m + 1) arr2 := by
            have e : ((m : Int) + 1).toNat = m + 1 := by omega
            have := hF.out
            rwa [e] at this
          clear hF hr0 hr
          obtain ⟨ab, aoff, ea, hlta, hca⟩ := h3.out.at k (by simpa using hk)
          obtain ⟨bb, boff, eb, hltb, hcb⟩ := k3.out.at m (by simpa using hm)
          subst ea eb
          obtain ⟨sa, hsa⟩ : ∃ s, s = a[k] := ⟨_, rfl⟩
          obtain ⟨sb, hsb⟩ : ∃ s, s = b[m] := ⟨_, rfl⟩
          have ca : wr.cell? ⟨ab, aoff + k, none⟩ = some (.string sa) := by
            rw [hB.cell (p := ⟨ab, aoff + k, none⟩) hlta, hca, hsa]; simp
          have cb : wr.cell? ⟨bb, boff + m, none⟩ = some (.string sb) := by
            rw [hB.cell (p := ⟨bb, boff + m, none⟩) hltb, hcb, hsb]; simp
          clear hca hcb
          have cw := hBw.cell 0
          have cl := hBl.cell 0
          have hWo := hW.out
          have hNo := hN.out
          have i1 : (k + 1) * W + m < N := by rw [hNo]; exact idx_lt _ _ _ _ hk (by omega)
          have i2 : k * W + (m + 1) < N := by rw [hNo]; exact idx_lt _ _ _ _ (by omega) (by omega)
          have i3 : (k + 1) * W + (m + 1) < N := by rw [hNo]; exact idx_lt _ _ _ _ hk (by omega)
          have i4 : k * W + m < N := by rw [hNo]; exact idx_lt _ _ _ _ (by omega) (by omega)
          have v1 := hF1.at (k + 1) m hk (by omega) (.inl (Nat.le_refl _))
          have v2 := hF1.at k (m + 1) (by omega) hm (.inr (.inr ⟨rfl, Nat.le_refl _⟩))
          have v3 := hF1.at (k + 1) (m + 1) hk hm (.inl (Nat.le_refl _))
          rw [← hWo] at v1 v2 v3
          have hrec := drop_lcs a b k m hk hm
          have bd1 := lcs_le_l (a.drop (k + 1)) (b.drop m)
          have bd2 := lcs_le_l (a.drop k) (b.drop (m + 1))
          have bd3 := lcs_le_l (a.drop (k + 1)) (b.drop (m + 1))
          rw [List.length_drop] at bd1 bd2 bd3
          have hstep : ∀ y : Int, y = (lcs (a.drop k) (b.drop m) : Nat) → Fill a b (k + 1) m (arr2.setIfInBounds (k * W + m) (.int .i64 y)) := fun y hy => by
            rw [hWo]; exact Fill.step hF1 hk hm y hy
          replace hstep := Lib.hid hstep
          generalize hy1 : lcs (a.drop (k + 1)) (b.drop m) = y1 at v1 hrec bd1
          generalize hy2 : lcs (a.drop k) (b.drop (m + 1)) = y2 at v2 hrec bd2
          generalize hy3 : lcs (a.drop (k + 1)) (b.drop (m + 1)) = y3 at v3 hrec bd3
          clear hy1 hy2 hy3
          have C1 := Lib.hid (At_cell (↑k + 1) m W (w.heap.size + 1 + 1) w.heap.size (w.heap.size + 1) N ((k + 1) * W) ((k + 1) * W + m) y1 wr cl cw (by simp) (by simp) i1 hNb (by omega) ((hBt.cell _).trans v1))
          have C2 := Lib.hid (At_cell k (↑m + 1) W (w.heap.size + 1 + 1) w.heap.size (w.heap.size + 1) N (k * W) (k * W + (m + 1)) y2 wr cl cw (by simp) (by simp) i2 hNb (by omega) ((hBt.cell _).trans v2))
          have C3 := Lib.hid (fun n : Nat => At_cell (↑k + 1) (↑m + 1) W (w.heap.size + 1 + 1) w.heap.size (w.heap.size + 1) N ((k + 1) * W) ((k + 1) * W + (m + 1)) y3 (wr.drewN n) cl cw (by simp) (by simp) i3 hNb (by omega) ((hBt.cell _).trans v3))
          replace hrec := Lib.hid hrec
          have hsz : arr2.size = N := by rw [hNo, hWo]; exact hF1.1
          clear v1 v2 v3 hF1
          rw [← hsa, ← hsb] at hrec
          clear hWo hNo
          replace hsa := Lib.hid hsa
          replace hsb := Lib.hid hsb
          go_upto_region 10 with fail
          go_cut [10] from 34 to 72 (fun s10 wx => Hid (wr = wx) ∧ s10 = .int .i64 ((max y1 y2 : Nat) : Int))
          case first =>
            go_wp2_with fail
            refine Calls.mono C1.out ?_
            rintro e w1 ⟨rfl, rfl⟩
            dsimp only
            go_wp2_with fail
            refine Calls.mono C2.out ?_
            rintro e w1 ⟨rfl, rfl⟩
            dsimp only
            by_cases hmx : (y1 : Int) < y2
            · have em : max y1 y2 = y2 := by omega
              go_wp2_with fail
              go_meet
              exact ⟨(by first | exact rfl | exact True.intro), by rw [em]⟩
            · have em : max y1 y2 = y1 := by omega
              go_wp2_with fail
              go_meet
              exact ⟨(by first | exact rfl | exact True.intro), by rw [em]⟩
          case rest =>
            obtain ⟨hwx, rfl⟩ := hcut
            obtain rfl := hwx.out
            clear C1 C2 hwx
            have bm : max y1 y2 ≤ 120 := Nat.max_le.2 ⟨by omega, by omega⟩
            have hfin : ∀ (y : Nat) (nq : Nat), (y = if sa = sb then y3 + 1 else max y1 y2) → ∃ arr3, Hid (Fill a b (k + 1) m arr3) ∧ Blk ((wr.drewN nq).setCell ⟨w.heap.size + 1, k * W + m, none⟩ (.int .i64 (y : Int))) w.heap.size #[.int .i64 W] 3 ∧ Blk ((wr.drewN nq).setCell ⟨w.heap.size + 1, k * W + m, none⟩ (.int .i64 (y : Int))) (w.heap.size + 1) arr3 3 ∧ Blk ((wr.drewN nq).setCell ⟨w.heap.size + 1, k * W + m, none⟩ (.int .i64 (y : Int))) (w.heap.size + 1 + 1) #[.slice (some ⟨w.heap.size + 1, 0, none⟩) N N] 60 := fun y nq hy =>
              ⟨_, hstep.out y (by rw [hrec.out]; exact_mod_cast hy), (hBw.drewN nq).other _ _ (by simp), (hBt.drewN nq).set _ _, (hBl.drewN nq).other _ _ (by simp)⟩
            replace hfin := Lib.hid hfin
            have hold : ∃ v0, arr2[k * W + m]? = some v0 := ⟨_, Array.getElem?_eq_getElem (by rw [hsz]; exact i4)⟩
            obtain ⟨v0, hv0⟩ := hold
            have hc0 := (hBt.cell (k * W + m)).trans hv0
            have hf0 := hBt.fr (k * W + m)
            obtain ⟨p, hp⟩ : ∃ p, p = k * W := ⟨_, rfl⟩
            have hpI : (k : Int) * (W : Int) = (p : Int) := by rw [hp]; simp
            rw [← hp] at hc0 hf0 i4
            replace hp := Lib.hid hp
            clear hv0 hsz
            generalize hz : max y1 y2 = z at bm
            replace hz := Lib.hid hz
            by_cases heq : sa = sb
            · have q1 := str_eq heq
              have hr3 := hfin.out (y3 + 1)
              rw [if_pos heq] at hr3
              replace hr3 := Lib.hid hr3
              replace heq := Lib.hid heq
              go_wp2_with fail
              go_quiet (fail)
              go_wp2_with fail
              refine Calls.mono (C3.out nq) ?_
              rintro e w1 ⟨rfl, rfl⟩
              dsimp only
              obtain ⟨arr3, R1, R2, R3, R4⟩ := hr3.out nq (by first | exact rfl | exact True.intro)
              rw [← hp.out] at R2 R3 R4
              have dw : (wr.drewN nq).cell? ⟨w.heap.size, 0, none⟩ = some (.int .i64 W) := cw
              have dl : (wr.drewN nq).cell? ⟨w.heap.size + 1 + 1, 0, none⟩ = some (.slice (some ⟨w.heap.size + 1, 0, none⟩) N N) := cl
              have dc : (wr.drewN nq).cell? ⟨w.heap.size + 1, p + m, none⟩ = some v0 := hc0
              have df : (wr.drewN nq).frozen? ⟨w.heap.size + 1, p + m, none⟩ = false := hf0
              go_wp2_with fail
              go_roundw
              case rel =>
                refine ⟨(m : Int) - 1, arr3, by omega, by omega, rfl, ?_, (by repeat (first | exact Below.refl _ _ | assumption | apply extAlloc | apply extDrewN | apply extDrew | (refine extStep ?_ (by assumption) (by first | (simp; done) | (simp; omega) | omega)) | (refine extCall ?_ (by assumption)) | (refine extSet ?_ (by first | (simp; done) | (simp; omega) | omega) _))), R2, R3, R4⟩
                have e : ((m : Int) - 1 + 1).toNat = m := by omega
                rw [e]; exact R1
              case measure => (first | (simp [intOf]; done) | (simp [intOf]; omega))
            · have q1 := str_ne heq
              have hr3 := hfin.out z
              rw [if_neg heq] at hr3
              replace hr3 := Lib.hid hr3
              replace heq := Lib.hid heq
              go_wp2_with fail
              go_quiet (fail)
              obtain ⟨arr3, R1, R2, R3, R4⟩ := hr3.out nq hz.out.symm
              rw [← hp.out] at R2 R3 R4
              have dw : (wr.drewN nq).cell? ⟨w.heap.size, 0, none⟩ = some (.int .i64 W) := cw
              have dl : (wr.drewN nq).cell? ⟨w.heap.size + 1 + 1, 0, none⟩ = some (.slice (some ⟨w.heap.size + 1, 0, none⟩) N N) := cl
              have dc : (wr.drewN nq).cell? ⟨w.heap.size + 1, p + m, none⟩ = some v0 := hc0
              have df : (wr.drewN nq).frozen? ⟨w.heap.size + 1, p + m, none⟩ = false := hf0
              go_wp2_with fail
              go_roundw
              case rel =>
                refine ⟨(m : Int) - 1, arr3, by omega, by omega, rfl, ?_, (by repeat (first | exact Below.refl _ _ | assumption | apply extAlloc | apply extDrewN | apply extDrew | (refine extStep ?_ (by assumption) (by first | (simp; done) | (simp; omega) | omega)) | (refine extCall ?_ (by assumption)) | (refine extSet ?_ (by first | (simp; done) | (simp; omega) | omega) _))), R2, R3, R4⟩
                have e : ((m : Int) - 1 + 1).toNat = m := by omega
                rw [e]; exact R1
              case measure => (first | (simp [intOf]; done) | (simp [intOf]; omega))
        · have hr2 : r = -1 := by omega
          have hF1 : Hid (Fill a b k b.length arr2) := by
            have := hF.out
            rw [hr2] at this
            exact Fill.row this
          clear hF hr2
          go_wp2
          go_roundw
          case rel =>
            refine ⟨(k : Int) - 1, arr2, by omega, by omega, rfl, ?_, hB, hBw, hBt, hBl⟩
            have e : ((k : Int) - 1 + 1).toNat = k := by omega
            rw [e]; exact hF1
          case measure => (first | (simp [intOf]; done) | (simp [intOf]; omega))
    · have hq2 : q = -1 := by omega
      have hF1 : Fill a b 0 b.length arr := by
        have := hF.out
        rw [hq2] at this
        exact this
      have cw : wo.cell? ⟨w.heap.size, 0, none⟩ = some (.int .i64 W) := hBw.cell 0
      have cl : wo.cell? ⟨w.heap.size + 1 + 1, 0, none⟩ = some (.slice (some ⟨w.heap.size + 1, 0, none⟩) N N) := hBl.cell 0
      clear hF hq2
      replace hF1 := Lib.hid hF1
      go_wp2
      clear hq0 hq hmk hNi
      go_loopw [11, 12, 13] (fun o i j wr => ∃ (st : List Int) (k m : Nat), k ≤ a.length ∧ m ≤ b.length ∧ i = .int .i64 k ∧ j = .int .i64 m ∧ Hid (align a b = st ++ align (a.drop k) (b.drop m)) ∧ OwnInts wr (w.heap.size + 1 + 1 + 1) o st ∧ Below (w.heap.size + 1 + 1 + 1) wo wr) (fun _ i j _ => (a.length - (intOf i).toNat) + (b.length - (intOf j).toNat))
      case atStart => exact ⟨[], 0, 0, Nat.zero_le _, Nat.zero_le _, rfl, rfl, rfl, OwnInts.nil, Below.refl _ _⟩
      case round =>
        obtain ⟨st, k, m, hk, hm, rfl, rfl, hst, hown, hbl⟩ := hrel
        have hB2 : Below w.heap.size w wr := hB.trans (hbl.mono (by omega))
        have zz : w.heap.size + 1 + 1 + 1 ≤ wr.heap.size := by have := hBl.lt; have := hbl.size; omega
        have dw : wr.cell? ⟨w.heap.size, 0, none⟩ = some (.int .i64 W) := (hbl.cell (p := ⟨w.heap.size, 0, none⟩) (by show w.heap.size < _; omega)).trans cw
        have dl : wr.cell? ⟨w.heap.size + 1 + 1, 0, none⟩ = some (.slice (some ⟨w.heap.size + 1, 0, none⟩) N N) := (hbl.cell (p := ⟨w.heap.size + 1 + 1, 0, none⟩) (by show w.heap.size + 1 + 1 < _; omega)).trans cl
        have dt : ∀ j x, arr[j]? = some x → wr.cell? ⟨w.heap.size + 1, j, none⟩ = some x := fun j x hx => ((hbl.cell (p := ⟨w.heap.size + 1, j, none⟩) (by show w.heap.size + 1 < _; omega)).trans (hBt.cell j)).trans hx
        replace dt := Lib.hid dt
        have hlen : st.length ≤ 240 := by
          have h1 := (align_len a b).1
          rw [hst.out, List.length_append] at h1
          omega
        by_cases hk1 : k < a.length
        · obtain ⟨ab, aoff, ea, hlta, hca⟩ := h3.out.at k (by simpa using hk1)
          subst ea
          obtain ⟨sa, hsa⟩ : ∃ s, s = a[k] := ⟨_, rfl⟩
          have ca : wr.cell? ⟨ab, aoff + k, none⟩ = some (.string sa) := by
            rw [hB2.cell (p := ⟨ab, aoff + k, none⟩) hlta, hca, hsa]; simp
          clear hca
          by_cases hm1 : m < b.length
          · obtain ⟨bb, boff, eb, hltb, hcb⟩ := k3.out.at m (by simpa using hm1)
            subst eb
            obtain ⟨sb, hsb⟩ : ∃ s, s = b[m] := ⟨_, rfl⟩
            have cb : wr.cell? ⟨bb, boff + m, none⟩ = some (.string sb) := by
              rw [hB2.cell (p := ⟨bb, boff + m, none⟩) hltb, hcb, hsb]; simp
            clear hcb
            have hrec := drop_align a b k m hk1 hm1
            rw [← hsa, ← hsb] at hrec
            by_cases heq : sa = sb
            · rw [if_pos heq] at hrec
              have hst2 : Hid (align a b = (st ++ [0]) ++ align (a.drop (k + 1)) (b.drop (m + 1))) := by
                show _ = _
                rw [hst.out, hrec]; simp
              have q1 := str_eq heq
              replace heq := Lib.hid heq
              replace hsa := Lib.hid hsa
              replace hsb := Lib.hid hsb
              clear hrec hst
              go_wp2_with fail
              go_quiet (fail)
              go_wp2_with (first | (at_builtin; refine app_ints rfl (.tmp 110) (.tmp 111) rfl (w.heap.size + 1 + 1 + 1) rfl rfl ((OwnInts.alloc (owns_drewN hown nq))) (ints_one 0 (by simp) rfl) (by first | (simp; done) | (simp; omega) | omega) (by first | (simp; done) | (simp; omega) | omega) ?_; intro x1 w1 o1 gw1 b1; (try simp only [List.nil_append] at o1); have zw1 := gw1.size; simp at zw1) | fail)
              go_roundw
              case rel => exact ⟨st ++ [0], k + 1, m + 1, hk1, hm1, by go_num, by go_num, hst2, o1, ((below_drewN hbl nq).alloc (by show _ ≤ wr.heap.size; omega) _).trans b1⟩
              case measure => (first | (simp [intOf]; done) | (simp [intOf]; omega))
            · rw [if_neg heq] at hrec
              have q1 := str_ne heq
              replace heq := Lib.hid heq
              replace hsa := Lib.hid hsa
              replace hsb := Lib.hid hsb
              have i1 : (k + 1) * W + m < N := by rw [hN.out]; exact idx_lt _ _ _ _ hk1 (by rw [hW.out]; omega)
              have i2 : k * W + (m + 1) < N := by rw [hN.out]; exact idx_lt _ _ _ _ (by omega) (by rw [hW.out]; omega)
              have v1 := hF1.out.at (k + 1) m hk1 (by omega) (.inl (Nat.zero_le _))
              have v2 := hF1.out.at k (m + 1) (by omega) hm1 (.inl (Nat.zero_le _))
              rw [← hW.out] at v1 v2
              have bd1 := lcs_le_l (a.drop (k + 1)) (b.drop m)
              have bd2 := lcs_le_l (a.drop k) (b.drop (m + 1))
              rw [List.length_drop] at bd1 bd2
              generalize hy1 : lcs (a.drop (k + 1)) (b.drop m) = y1 at v1 hrec bd1
              generalize hy2 : lcs (a.drop k) (b.drop (m + 1)) = y2 at v2 hrec bd2
              clear hy1 hy2
              have C1 := Lib.hid (fun n : Nat => At_cell (↑k + 1) m W (w.heap.size + 1 + 1) w.heap.size (w.heap.size + 1) N ((k + 1) * W) ((k + 1) * W + m) y1 (wr.drewN n) dl dw (by simp) (by simp) i1 hNb (by omega) (dt.out _ _ v1))
              have C2 := Lib.hid (fun n : Nat => At_cell k (↑m + 1) W (w.heap.size + 1 + 1) w.heap.size (w.heap.size + 1) N (k * W) (k * W + (m + 1)) y2 (wr.drewN n) dl dw (by simp) (by simp) i2 hNb (by omega) (dt.out _ _ v2))
              clear v1 v2
              by_cases hle : y2 ≤ y1
              · rw [if_pos hle] at hrec
                have hst2 : Hid (align a b = (st ++ [1]) ++ align (a.drop (k + 1)) (b.drop m)) := by
                  show _ = _
                  rw [hst.out, hrec]; simp
                clear hrec hst
                go_wp2_with fail
                go_quiet (fail)
                go_wp2_with fail
                refine Calls.mono (C1.out nq) ?_
                rintro e w1 ⟨rfl, rfl⟩
                dsimp only
                go_wp2_with fail
                refine Calls.mono (C2.out nq) ?_
                rintro e w1 ⟨rfl, rfl⟩
                dsimp only
                go_wp2_with (first | (at_builtin; refine app_ints rfl (.tmp 141) (.tmp 142) rfl (w.heap.size + 1 + 1 + 1) rfl rfl ((OwnInts.alloc (owns_drewN hown nq))) (ints_one 1 (by simp) rfl) (by first | (simp; done) | (simp; omega) | omega) (by first | (simp; done) | (simp; omega) | omega) ?_; intro x1 w1 o1 gw1 b1; (try simp only [List.nil_append] at o1); have zw1 := gw1.size; simp at zw1) | fail)
                go_roundw
                case rel => exact ⟨st ++ [1], k + 1, m, hk1, hm, by go_num, by go_num, hst2, o1, ((below_drewN hbl nq).alloc (by show _ ≤ wr.heap.size; omega) _).trans b1⟩
                case measure => (first | (simp [intOf]; done) | (simp [intOf]; omega))
              · rw [if_neg hle] at hrec
                have hst2 : Hid (align a b = (st ++ [2]) ++ align (a.drop k) (b.drop (m + 1))) := by
                  show _ = _
                  rw [hst.out, hrec]; simp
                clear hrec hst
                go_wp2_with fail
                go_quiet (fail)
                go_wp2_with fail
                refine Calls.mono (C1.out nq) ?_
                rintro e w1 ⟨rfl, rfl⟩
                dsimp only
                go_wp2_with fail
                refine Calls.mono (C2.out nq) ?_
                rintro e w1 ⟨rfl, rfl⟩
                dsimp only
                go_wp2_with (first | (at_builtin; refine app_ints rfl (.tmp 83) (.tmp 84) rfl (w.heap.size + 1 + 1 + 1) rfl rfl ((OwnInts.alloc (owns_drewN hown nq))) (ints_one 2 (by simp) rfl) (by first | (simp; done) | (simp; omega) | omega) (by first | (simp; done) | (simp; omega) | omega) ?_; intro x1 w1 o1 gw1 b1; (try simp only [List.nil_append] at o1); have zw1 := gw1.size; simp at zw1) | fail)
                go_roundw
                case rel => exact ⟨st ++ [2], k, m + 1, hk, hm1, by go_num, by go_num, hst2, o1, ((below_drewN hbl nq).alloc (by show _ ≤ wr.heap.size; omega) _).trans b1⟩
                case measure => (first | (simp [intOf]; done) | (simp [intOf]; omega))
          · have em : m = b.length := by omega
            have hrec := drop_align_del a b k hk1
            rw [← em] at hrec
            have hst2 : Hid (align a b = (st ++ [1]) ++ align (a.drop (k + 1)) (b.drop m)) := by
              show _ = _
              rw [hst.out, hrec]; simp
            have hd : decide ((m : Int) < (b.length : Int)) = false := by simp; omega
            have hd2 : ((m : Int) == (b.length : Int)) = true := by simp [em]
            replace em := Lib.hid em
            replace hsa := Lib.hid hsa
            clear hrec hst
            go_wp2_with fail
            go_quiet (fail)
            go_wp2_with (first | (at_builtin; refine app_ints rfl (.tmp 141) (.tmp 142) rfl (w.heap.size + 1 + 1 + 1) rfl rfl ((OwnInts.alloc (owns_drewN hown nq))) (ints_one 1 (by simp) rfl) (by first | (simp; done) | (simp; omega) | omega) (by first | (simp; done) | (simp; omega) | omega) ?_; intro x1 w1 o1 gw1 b1; (try simp only [List.nil_append] at o1); have zw1 := gw1.size; simp at zw1) | fail)
            go_roundw
            case rel => exact ⟨st ++ [1], k + 1, m, hk1, hm, by go_num, by go_num, hst2, o1, ((below_drewN hbl nq).alloc (by show _ ≤ wr.heap.size; omega) _).trans b1⟩
            case measure => (first | (simp [intOf]; done) | (simp [intOf]; omega))
        · have ek : k = a.length := by omega
          have hd : decide ((k : Int) < (a.length : Int)) = false := by simp; omega
          by_cases hm1 : m < b.length
          · have hrec := drop_align_ins a b m hm1
            rw [← ek] at hrec
            have hst2 : Hid (align a b = (st ++ [2]) ++ align (a.drop k) (b.drop (m + 1))) := by
              show _ = _
              rw [hst.out, hrec]; simp
            replace ek := Lib.hid ek
            clear hrec hst
            go_wp2_with fail
            go_quiet (fail)
            go_wp2_with (first | (at_builtin; refine app_ints rfl (.tmp 83) (.tmp 84) rfl (w.heap.size + 1 + 1 + 1) rfl rfl ((OwnInts.alloc (owns_drewN hown nq))) (ints_one 2 (by simp) rfl) (by first | (simp; done) | (simp; omega) | omega) (by first | (simp; done) | (simp; omega) | omega) ?_; intro x1 w1 o1 gw1 b1; (try simp only [List.nil_append] at o1); have zw1 := gw1.size; simp at zw1) | fail)
            go_roundw
            case rel => exact ⟨st ++ [2], k, m + 1, hk, hm1, by go_num, by go_num, hst2, o1, ((below_drewN hbl nq).alloc (by show _ ≤ wr.heap.size; omega) _).trans b1⟩
            case measure => (first | (simp [intOf]; done) | (simp [intOf]; omega))
          · have em : m = b.length := by omega
            have hall : align a b = st := by
              have := hst.out
              rw [ek, em, List.drop_length, List.drop_length, align_nil, List.append_nil] at this
              exact this
            replace ek := Lib.hid ek
            replace em := Lib.hid em
            replace hall := Lib.hid hall
            clear hst
            go_wp2_with fail
            go_ret
            exact ⟨_, rfl, by rw [hall.out]; exact hown.ints, hB2⟩
end Go.Proofs.Ytdpcbffmmndhcaa
