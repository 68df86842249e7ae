/- Digests of lists of strings: the walk of Strings. -/
import Derived.Test.YtkokleicgpimbaaDigWalks
import Derived.Test.YtkokleicgpimbaaMemStr
import Derived.Test.YtkokleicgpimbaaMemStrs
namespace Go.Proofs.Ytkokleicgpimbaa
open Go.RowKit

def bad (l : List ByteArray) : Nat := l.findIdx (fun s => decide (4096 < s.size))
def fold (l : List ByteArray) : Int := l.foldl (fun h s => pr h (dig s.data.toList)) 2
def strV (l : List ByteArray) : Int := if 120 < l.length then 0 else if bad l < l.length then 0 else fold l
def strC (l : List ByteArray) : Int := if 120 < l.length then 2 else if bad l < l.length then 2 else 0
def strI (l : List ByteArray) : Int := if 120 < l.length then -1 else if bad l < l.length then bad l else 0

theorem fold_take (l : List ByteArray) (k : Nat) (h : k < l.length) : fold (l.take (k + 1)) = pr (fold (l.take k)) (dig l[k].data.toList) := by
  unfold fold
  rw [List.take_succ_eq_append_getElem h, List.foldl_append]
  rfl
theorem fold_bd (l : List ByteArray) : 0 ≤ fold l ∧ fold l < 2305843009213693951 := by
  suffices h : ∀ (l : List ByteArray) (a : Int), 0 ≤ a ∧ a < 2305843009213693951 → 0 ≤ l.foldl (fun h s => pr h (dig s.data.toList)) a ∧ l.foldl (fun h s => pr h (dig s.data.toList)) a < 2305843009213693951 from h l 2 (by omega)
  intro l
  induction l with
  | nil => intro a h; exact h
  | cons c l ih => intro a _; exact ih _ (pr_bd _ _)
theorem bad_le (l : List ByteArray) : bad l ≤ l.length := List.findIdx_le_length
theorem small_of_lt (l : List ByteArray) (k : Nat) (h : k < bad l) (hk : k < l.length) : l[k].size ≤ 4096 := by
  have := List.not_of_lt_findIdx (p := fun s : ByteArray => decide (4096 < s.size)) (xs := l) h
  simpa using this
theorem big_at (l : List ByteArray) (h : bad l < l.length) : 4096 < (l[bad l]'h).size := by
  exact of_decide_eq_true (List.findIdx_getElem (p := fun s : ByteArray => decide (4096 < s.size)) (xs := l) (w := h))

theorem Strings_many (w : World) (v : Value) (l : List ByteArray) (h : Strs w v l) (hl : 120 < l.length) :
    Calls Try.prog 17 #[v] w fun e w' => e = .returned (.tuple #[.int .i64 0, .agg #[.int .i64 2, .int .i64 (-1)]]) ∧ Below w.heap.size w w' := by
  obtain ⟨ao, cap, rfl, h1, h2, h3, h4⟩ := h.sl
  rw [maxLen_eq] at h2
  clear h
  go_enter Try.func17, Try.ntmps17
  go_wp2
  refine bodyPost_ret (v := .tuple #[.int .i64 0, .agg #[.int .i64 2, .int .i64 (-1)]]) (by simp [results, Try.results17, go_sem]) rfl ?_
  exact ⟨rfl, (by repeat (first | exact Below.refl _ _ | assumption | apply extAlloc | apply extDrewN | apply extDrew | (refine extStep ?_ (by assumption) (by first | (simp; done) | (simp; omega) | omega)) | (refine extCall ?_ (by assumption)) | (refine extSet ?_ (by first | (simp; done) | (simp; omega) | omega) _)))⟩

set_option maxHeartbeats 1000000 in
theorem Strings_few (w : World) (v : Value) (l : List ByteArray) (h : Strs w v l) (hl : l.length ≤ 120) :
    Calls Try.prog 17 #[v] w fun e w' => e = .returned (.tuple #[.int .i64 (if bad l < l.length then 0 else fold l), .agg #[.int .i64 (if bad l < l.length then 2 else 0), .int .i64 (if bad l < l.length then bad l else 0)]]) ∧ Below w.heap.size w w' := by
  have hs := h.2
  obtain ⟨ao, cap, rfl, h1, h2, h3, h4⟩ := h.sl
  rw [maxLen_eq] at h2
  clear h
  replace h4 := Lib.hid h4
  replace h3 := Lib.hid h3
  replace hs := Lib.hid hs
  have hbl := bad_le l
  generalize hv : (if bad l < l.length then 0 else fold l) = V
  generalize hc : (if bad l < l.length then (2 : Int) else 0) = C
  generalize hi : (if bad l < l.length then (bad l : Int) else 0) = I
  replace hv := Lib.hid hv
  replace hc := Lib.hid hc
  replace hi := Lib.hid hi
  go_enter Try.func17, Try.ntmps17
  go_wp2
  go_loopw [4, 15] (fun x i wr => ∃ k : Nat, k ≤ bad l ∧ i = .int .i64 k ∧ x = .int .i64 (fold (l.take k)) ∧ Below w.heap.size w wr ∧ Blk wr w.heap.size #[.int .i64 0, .int .i64 0] 24) (fun _ i _ => l.length - (intOf i).toNat)
  case atStart => exact ⟨0, Nat.zero_le _, rfl, rfl, (by repeat (first | exact Below.refl _ _ | assumption | apply extAlloc | apply extDrewN | apply extDrew | (refine extStep ?_ (by assumption) (by first | (simp; done) | (simp; omega) | omega)) | (refine extCall ?_ (by assumption)) | (refine extSet ?_ (by first | (simp; done) | (simp; omega) | omega) _))), Blk.new _ _ _⟩
  case round =>
    obtain ⟨k, hk, rfl, rfl, hb, hB⟩ := hrel
    have zb := hb.size
    have zB := hB.lt
    by_cases hlt : k < l.length
    · obtain ⟨b, off, e, hlt2, hc0⟩ := h3.out.at k (by simpa using hlt)
      obtain ⟨s, es⟩ : ∃ s, s = l[k] := ⟨_, rfl⟩
      have hcell : wr.cell? ⟨b, off + k, none⟩ = some (.string s) := by
        rw [hb.cell (p := ⟨b, off + k, none⟩) hlt2, hc0, es]
        simp
      have hm : s.size ≤ maxLen := by rw [es]; exact hs.out _ (List.getElem_mem hlt)
      rw [maxLen_eq] at hm
      subst e
      clear hc0
      have hd := fold_bd (l.take k)
      have hlen : s.data.toList.length = s.size := by rw [Array.length_toList]; rfl
      by_cases hbad : k = bad l
      · have hbig : 4096 < s.size := by rw [es]; subst hbad; exact big_at l hlt
        have hlt' : bad l < l.length := by omega
        replace es := Lib.hid es
        replace hbad := Lib.hid hbad
        go_wp2_with (first | (refine wpList_conv_sb rfl 9 22 5 (.tmp 21) rfl rfl Try.underlying9 Try.underlying22 Try.underlying5 (by rw [maxLen_eq]; omega) ?_; intro x1 w1 o1 b1; have z1 := b1.size) | (go_at_call 9; with_reducible refine Calls.mono (of_big _ _ _ o1 (by omega)) ?_; rintro e w2 ⟨rfl, b2⟩; have z2 := b2.size; have B2 := (hB.call b1).call b2; have y2 := B2.lt; have c0 := B2.cell 0; have c1 := B2.cell 1; have f0 := B2.fr 0; have f1 := B2.fr 1) | fail)
        go_region
        all_goals go_wp2
        refine bodyPost_ret (v := .tuple #[.int .i64 0, .agg #[.int .i64 2, .int .i64 k]]) (by simp [results, Try.results17, go_sem, c0, c1, y2]) rfl ?_
        have ev := hv.out
        have ec := hc.out
        have ei := hi.out
        have ek := hbad.out
        rw [if_pos hlt'] at ev ec ei
        refine ⟨by rw [← ev, ← ec, ← ei, ek], (by repeat (first | exact Below.refl _ _ | assumption | apply extAlloc | apply extDrewN | apply extDrew | (refine extStep ?_ (by assumption) (by first | (simp; done) | (simp; omega) | omega)) | (refine extCall ?_ (by assumption)) | (refine extSet ?_ (by first | (simp; done) | (simp; omega) | omega) _)))⟩
      · have hsm : s.size ≤ 4096 := by rw [es]; exact small_of_lt l k (by omega) hlt
        have hk1 : k + 1 ≤ bad l := by omega
        have hst := Lib.hid (fold_take l k hlt)
        replace es := Lib.hid es
        have hdd := dig_bd s.data.toList
        clear hbad hk
        go_wp2_with (first | (refine wpList_conv_sb rfl 9 22 5 (.tmp 21) rfl rfl Try.underlying9 Try.underlying22 Try.underlying5 (by rw [maxLen_eq]; omega) ?_; intro x1 w1 o1 b1; have z1 := b1.size) | (go_at_call 9; with_reducible refine Calls.mono (of_small _ _ _ o1 (by omega)) ?_; rintro e w2 ⟨rfl, b2⟩; have z2 := b2.size; have B2 := (hB.call b1).call b2; have y2 := B2.lt; have c0 := B2.cell 0; have c1 := B2.cell 1; have f0 := B2.fr 0; have f1 := B2.fr 1) | (go_at_call 21; with_reducible refine Calls.mono (pair_any _ _ _ (by omega) (by omega) (by omega) (by omega)) ?_; rintro e w3 ⟨rfl, b3⟩) | fail)
        go_roundw
        case rel => exact ⟨k + 1, hk1, by go_num, by rw [hst.out, ← es.out], (by repeat (first | exact Below.refl _ _ | assumption | apply extAlloc | apply extDrewN | apply extDrew | (refine extStep ?_ (by assumption) (by first | (simp; done) | (simp; omega) | omega)) | (refine extCall ?_ (by assumption)) | (refine extSet ?_ (by first | (simp; done) | (simp; omega) | omega) _))), (B2.alloc _).call b3⟩
        case measure => simp [intOf]; omega
    · have c0 := hB.cell 0
      have c1 := hB.cell 1
      have f0 := hB.fr 0
      have f1 := hB.fr 1
      have hnb : ¬ bad l < l.length := by omega
      have e : l.take k = l := List.take_of_length_le (by omega)
      rw [e]
      go_wp2
      refine bodyPost_ret (v := .tuple #[.int .i64 (fold l), .agg #[.int .i64 0, .int .i64 0]]) (by simp [results, Try.results17, go_sem, c0, c1]) rfl ?_
      have ev := hv.out
      have ec := hc.out
      have ei := hi.out
      rw [if_neg hnb] at ev ec ei
      refine ⟨by rw [← ev, ← ec, ← ei], (by repeat (first | exact Below.refl _ _ | assumption | apply extAlloc | apply extDrewN | apply extDrew | (refine extStep ?_ (by assumption) (by first | (simp; done) | (simp; omega) | omega)) | (refine extCall ?_ (by assumption)) | (refine extSet ?_ (by first | (simp; done) | (simp; omega) | omega) _)))⟩

theorem Strings_any (w : World) (v : Value) (l : List ByteArray) (h : Strs w v l) :
    Calls Try.prog 17 #[v] w fun e w' => e = .returned (.tuple #[.int .i64 (strV l), .agg #[.int .i64 (strC l), .int .i64 (strI l)]]) ∧ Below w.heap.size w w' := by
  by_cases hl : 120 < l.length
  · simp only [strV, strC, strI, if_pos hl]
    exact Strings_many w v l h hl
  · simp only [strV, strC, strI, if_neg hl]
    exact Strings_few w v l h (by omega)
end Go.Proofs.Ytkokleicgpimbaa
