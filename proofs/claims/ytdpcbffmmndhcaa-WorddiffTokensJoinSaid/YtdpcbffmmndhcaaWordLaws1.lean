/- The walks of the laws' split and of WorddiffTokensJoin. -/
import Derived.Test.YtdpcbffmmndhcaaWordTok2
namespace Go.Proofs.Ytdpcbffmmndhcaa
open Go.RowKit

theorem joinB_data (l : List ByteArray) : (joinB l).data.toList = l.flatMap (fun t => t.data.toList) := by
  suffices h : ∀ (l : List ByteArray) (a : ByteArray), (l.foldl (fun a b => a ++ b) a).data.toList = a.data.toList ++ l.flatMap (fun t => t.data.toList) by
    have := h l .empty
    simpa [joinB] using this
  intro l
  induction l with
  | nil => intro a; simp
  | cons b l ih => intro a; simp only [List.foldl_cons, ih, List.flatMap_cons, ByteArray.data_append, Array.toList_append, List.append_assoc]
theorem joinB_toks (s : ByteArray) : joinB (toks s.data.toList) = s := by
  have h := joinB_data (toks s.data.toList)
  rw [(toks_facts _).2.2.2] at h
  generalize joinB (toks s.data.toList) = t at h
  cases s; cases t
  congr 1
  exact Array.toList_inj.1 h

theorem isEmpty_of (s : ByteArray) (h : 0 < s.size) : s.toList.isEmpty = false := by
  rw [ByteArray.toList_eq]
  cases e : s.data.toList with
  | nil =>
    have : s.data.toList.length = s.size := by rw [Array.length_toList]; rfl
    rw [e] at this; simp at this; omega
  | cons => rfl

theorem sl_list {w : World} {n T : Nat} (xs : List Value) (hn : n = w.heap.size) (hs : xs.length ≤ maxLen) : Sl (w.alloc (.cells xs.toArray T)) (.slice (some ⟨n, 0, none⟩) xs.length xs.length) xs := by
  subst hn
  refine ⟨some ⟨w.heap.size, 0, none⟩, xs.length, rfl, Nat.le_refl _, hs, ?_, fun h => by cases h⟩
  intro i hi
  refine ⟨_, _, rfl, ?_⟩
  rw [Nat.zero_add, World.cell?_alloc_new]
  simp [hi]
theorem strs_list {w : World} {n T : Nat} (l : List ByteArray) (hn : n = w.heap.size) (hs : l.length ≤ 100) (hm : ∀ s ∈ l, s.size ≤ 80) : Strs (w.alloc (.cells (l.map Value.string).toArray T)) (.slice (some ⟨n, 0, none⟩) l.length l.length) l := by
  refine ⟨?_, fun s h => Nat.le_trans (hm s h) (by decide)⟩
  have := sl_list (w := w) (T := T) (l.map Value.string) hn (by rw [List.length_map]; exact Nat.le_trans hs (by decide))
  rwa [List.length_map] at this

theorem split_any (w : World) :
    Calls Try.prog 14 #[] w fun e w' => e = .returned (.bool true) ∧ Below w.heap.size w w' := by
  have hz : vC [⟨#[97, 49, 32, 43, 32, 98]⟩] = 0 := by decide
  have ht : tokV ⟨#[97, 49, 32, 43, 32, 98]⟩ = [⟨#[97, 49]⟩, ⟨#[32]⟩, ⟨#[43]⟩, ⟨#[32]⟩, ⟨#[98]⟩] := by decide
  replace hz := Lib.hid hz
  replace ht := Lib.hid ht
  go_enter Try.func14, Try.ntmps14
  go_wp2_with fail
  with_reducible refine Calls.mono (Tokens_any _ ⟨#[97, 49, 32, 43, 32, 98]⟩ (by decide)) ?_
  rintro e w1 ⟨x, rfl, hx, b1⟩
  rw [hz.out]
  rw [ht.out] at hx
  have hx2 := hx.strs (by decide)
  have z1 := b1.size
  have e1 : Below w.heap.size w w1 := (by repeat (first | exact Below.refl _ _ | assumption | apply extAlloc | apply extDrewN | apply extDrew | (refine extStep ?_ (by assumption) (by first | (simp; done) | (simp; omega) | omega)) | (refine extCall ?_ (by assumption)) | (refine extSet ?_ (by first | (simp; done) | (simp; omega) | omega) _)))
  go_wp2_with fail
  have s2 : Strs ((w1.alloc (.cells #[.int .i64 0, .int .i64 0] 24)).alloc (.cells #[.string ⟨#[97, 49]⟩, .string ⟨#[32]⟩, .string ⟨#[43]⟩, .string ⟨#[32]⟩, .string ⟨#[98]⟩] 9)) (.slice (some ⟨w1.heap.size + 1, 0, none⟩) 5 5) [⟨#[97, 49]⟩, ⟨#[32]⟩, ⟨#[43]⟩, ⟨#[32]⟩, ⟨#[98]⟩] :=
    strs_list (w := w1.alloc (.cells #[.int .i64 0, .int .i64 0] 24)) [⟨#[97, 49]⟩, ⟨#[32]⟩, ⟨#[43]⟩, ⟨#[32]⟩, ⟨#[98]⟩] (by simp) (by decide) (by decide)
  with_reducible refine Calls.mono (EqStrings_any _ _ _ _ _ (hx2.mono (by exact (by repeat (first | exact Below.refl _ _ | assumption | apply extAlloc | apply extDrewN | apply extDrew | (refine extStep ?_ (by assumption) (by first | (simp; done) | (simp; omega) | omega)) | (refine extCall ?_ (by assumption)) | (refine extSet ?_ (by first | (simp; done) | (simp; omega) | omega) _))))) s2) ?_
  rintro e w2 ⟨rfl, b2⟩
  rw [decide_eq_true rfl]
  go_wp2_with fail
  go_ret
  exact ⟨rfl, (by repeat (first | exact Below.refl _ _ | assumption | apply extAlloc | apply extDrewN | apply extDrew | (refine extStep ?_ (by assumption) (by first | (simp; done) | (simp; omega) | omega)) | (refine extCall ?_ (by assumption)) | (refine extSet ?_ (by first | (simp; done) | (simp; omega) | omega) _)))⟩

set_option maxHeartbeats 1000000 in
theorem law_WorddiffTokensJoin (w : World) (s : ByteArray) (hm : s.size ≤ maxLen) (_hs : s.data.toList.length ≤ reachBytes) :
    Calls Try.prog 3 #[.string s] w fun e w' => e = .returned (.bool true) ∧ Below w.heap.size w w' := by
  clear _hs
  by_cases hz : vC [s] = 0
  · have hV : tokV s = toks s.data.toList := if_pos hz
    have hsz := one_size s hz
    have hlen : s.data.toList.length = s.size := by rw [Array.length_toList]; rfl
    obtain ⟨t1, t2, t3, _⟩ := toks_facts s.data.toList
    have hts := tokV_size s hz
    have hj := joinB_toks s
    rw [← hV] at t1 t2 t3 hj
    rw [hlen] at t2 t3
    generalize hl : tokV s = l at t1 t2 t3 hts hj hV
    have heq := str_eq hj
    replace hz := Lib.hid hz
    replace hl := Lib.hid hl
    replace t1 := Lib.hid t1
    replace t2 := Lib.hid t2
    replace hts := Lib.hid hts
    replace hj := Lib.hid hj
    replace hm := Lib.hid hm
    clear hV hlen
    go_enter Try.func3, Try.ntmps3
    go_wp2_with fail
    with_reducible refine Calls.mono (Tokens_any _ s hm.out) ?_
    rintro e w1 ⟨x, rfl, hx, b1⟩
    rw [hz.out]
    rw [hl.out] at hx
    have hx2 := hx.strs (fun t h => Nat.le_trans (hts.out t h) (by decide))
    obtain ⟨xo, xcap, rfl, x1, x2, x3, x4⟩ := hx2.sl
    clear x4 hx
    rw [maxLen_eq] at x2
    replace x3 := Lib.hid x3
    replace hx2 := Lib.hid hx2
    go_wp2
    go_loopw [5] (fun i wr => ∃ k : Nat, k ≤ l.length ∧ i = .int .i64 k ∧ Below w1.heap.size w1 wr) (fun i _ => l.length - (intOf i).toNat)
    case atStart => exact ⟨0, Nat.zero_le _, rfl, (by repeat (first | exact Below.refl _ _ | assumption | apply extAlloc | apply extDrewN | apply extDrew | (refine extStep ?_ (by assumption) (by first | (simp; done) | (simp; omega) | omega)) | (refine extCall ?_ (by assumption)) | (refine extSet ?_ (by first | (simp; done) | (simp; omega) | omega) _)))⟩
    case round =>
      obtain ⟨k, hk, rfl, hb⟩ := hrel
      by_cases hlt : k < l.length
      · obtain ⟨ab, aoff, ea, hlta, hca⟩ := x3.out.at k (by simpa using hlt)
        subst ea
        obtain ⟨sa, hsa⟩ : ∃ s, s = l[k] := ⟨_, rfl⟩
        have ca : wr.cell? ⟨ab, aoff + k, none⟩ = some (.string sa) := by
          rw [hb.cell (p := ⟨ab, aoff + k, none⟩) hlta, hca, hsa]; simp
        have hpos : sa.toList.isEmpty = false := isEmpty_of sa (by rw [hsa]; exact (t1.out _ (List.getElem_mem hlt)).1)
        replace hsa := Lib.hid hsa
        clear hca
        go_wp2
        go_roundw
        case rel => exact ⟨k + 1, hlt, by go_num, hb⟩
        case measure => (first | (simp [intOf]; done) | (simp [intOf]; omega))
      · go_wp2_with (first | (go_at_call 15; (with_reducible refine Calls.mono (together_any _ _ l (hx2.out.mono (by exact (by repeat (first | exact Below.refl _ _ | assumption | apply extAlloc | apply extDrewN | apply extDrew | (refine extStep ?_ (by assumption) (by first | (simp; done) | (simp; omega) | omega)) | (refine extCall ?_ (by assumption)) | (refine extSet ?_ (by first | (simp; done) | (simp; omega) | omega) _))))) (by have := t2.out; omega)) ?_); rintro e w3 ⟨rfl, rfl⟩) | (go_at_call 14; (with_reducible refine Calls.mono (split_any _) ?_); rintro e w4 ⟨rfl, b4⟩))
        go_ret
        exact ⟨rfl, (by repeat (first | exact Below.refl _ _ | assumption | apply extAlloc | apply extDrewN | apply extDrew | (refine extStep ?_ (by assumption) (by first | (simp; done) | (simp; omega) | omega)) | (refine extCall ?_ (by assumption)) | (refine extSet ?_ (by first | (simp; done) | (simp; omega) | omega) _)))⟩
  · have q : (vC [s] != 0) = true := by simpa using hz
    replace hm := Lib.hid hm
    clear hz
    go_enter Try.func3, Try.ntmps3
    go_wp2_with fail
    with_reducible refine Calls.mono (Tokens_any _ s hm.out) ?_
    rintro e w1 ⟨x, rfl, hx, b1⟩
    replace hx := Lib.hid hx
    go_wp2_with (go_at_call 14; (with_reducible refine Calls.mono (split_any _) ?_); rintro e w4 ⟨rfl, b4⟩)
    go_ret
    exact ⟨rfl, (by repeat (first | exact Below.refl _ _ | assumption | apply extAlloc | apply extDrewN | apply extDrew | (refine extStep ?_ (by assumption) (by first | (simp; done) | (simp; omega) | omega)) | (refine extCall ?_ (by assumption)) | (refine extSet ?_ (by first | (simp; done) | (simp; omega) | omega) _)))⟩
end Go.Proofs.Ytdpcbffmmndhcaa
