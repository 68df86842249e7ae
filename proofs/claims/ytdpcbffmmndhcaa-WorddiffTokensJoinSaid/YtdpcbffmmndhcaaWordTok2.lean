/- The walk of worddiff.Tokens; of the laws' split and together. -/
import Derived.Test.YtdpcbffmmndhcaaWordToks
import Derived.Test.YtdpcbffmmndhcaaDiffWalks
namespace Go.Proofs.Ytdpcbffmmndhcaa
open Go.RowKit

theorem one_size (s : ByteArray) (h : vC [s] = 0) : s.size ≤ 80 := ((vC_good [s]).1 h).2 s (by simp) |>.1

theorem ite_zero (c : Int) : (if c = 0 then (0 : Int) else 0) = 0 := by split <;> rfl

theorem Tokens_good (w : World) (s : ByteArray) (hm : s.size ≤ maxLen) (hz : vC [s] = 0) :
    Calls Try.prog 13 #[.string s] w fun e w' => ∃ x, e = .returned (.tuple #[x, .agg #[.int .i64 0, .int .i64 0]]) ∧ OwnStrs w' w.heap.size x (toks s.data.toList) ∧ Below w.heap.size w w' := by
  have hsz := one_size s hz
  replace hz := Lib.hid hz
  replace hm := Lib.hid hm
  go_enter Try.func13, Try.ntmps13
  go_wp2_with (go_at_call 36; (with_reducible refine Calls.mono (Second_any _ _ [s] 0 (strs_one s (by simp) hm.out)) ?_); rintro e w1 ⟨rfl, b1⟩; rw [hz.out, if_pos rfl]; have z1 := b1.size; simp at z1; have B := ((Blk.new w #[.int .i64 0, .int .i64 0] 24).alloc _).call b1)
  have e1 : Below w.heap.size w w1 := (by repeat (first | exact Below.refl _ _ | assumption | apply extAlloc | apply extDrewN | apply extDrew | (refine extStep ?_ (by assumption) (by first | (simp; done) | (simp; omega) | omega)) | (refine extCall ?_ (by assumption)) | (refine extSet ?_ (by first | (simp; done) | (simp; omega) | omega) _)))
  with_reducible refine Calls.mono (tokens_any s _ hsz) ?_
  rintro e w2 ⟨x, rfl, hx, b2⟩
  have B2 := (B.alloc (.cells #[.int .i64 0, .int .i64 0] 24)).call b2
  have c0 := B2.cell 0
  have c1 := B2.cell 1
  have f0 := B2.fr 0
  have f1 := B2.fr 1
  go_wp2
  refine bodyPost_ret (v := .tuple #[x, .agg #[.int .i64 0, .int .i64 0]]) (by simp [results, Try.results13, go_sem, c0, c1]) rfl ?_
  have ye := B.lt
  have zx := (show (w1.alloc (.cells #[.int .i64 0, .int .i64 0] 24)).heap.size = w1.heap.size + 1 from by simp)
  refine ⟨x, rfl, ?_, (by repeat (first | exact Below.refl _ _ | assumption | apply extAlloc | apply extDrewN | apply extDrew | (refine extStep ?_ (by assumption) (by first | (simp; done) | (simp; omega) | omega)) | (refine extCall ?_ (by assumption)) | (refine extSet ?_ (by first | (simp; done) | (simp; omega) | omega) _)))⟩
  exact ((hx.set (a := ⟨w.heap.size, 0, none⟩) (by show w.heap.size < _; omega) _).set (a := ⟨w.heap.size, 1, none⟩) (by show w.heap.size < _; omega) _).low (by omega)

theorem Tokens_bad (w : World) (s : ByteArray) (hm : s.size ≤ maxLen) (hz : ¬ vC [s] = 0) :
    Calls Try.prog 13 #[.string s] w fun e w' => e = .returned (.tuple #[.slice none 0 0, .agg #[.int .i64 (vC [s]), .int .i64 0]]) ∧ Below w.heap.size w w' := by
  generalize hq : vC [s] = q at hz
  have hz' : (q == 0) = false := by simpa using hz
  replace hq := Lib.hid hq
  replace hm := Lib.hid hm
  replace hz := Lib.hid hz
  go_enter Try.func13, Try.ntmps13
  go_wp2_with (go_at_call 36; (with_reducible refine Calls.mono (Second_any _ _ [s] 0 (strs_one s (by simp) hm.out)) ?_); rintro e w1 ⟨rfl, b1⟩; rw [hq.out, if_neg hz.out]; have z1 := b1.size; simp at z1; have B := ((Blk.new w #[.int .i64 0, .int .i64 0] 24).alloc _).call b1; have c0 := B.cell 0; have c1 := B.cell 1; have f0 := B.fr 0; have f1 := B.fr 1; have y := B.lt)
  go_region
  all_goals go_wp2
  all_goals
    refine bodyPost_ret (v := .tuple #[.slice none 0 0, .agg #[.int .i64 q, .int .i64 0]]) (by simp [results, Try.results13, go_sem, c0, c1, y]) rfl ?_
    exact ⟨rfl, (by repeat (first | exact Below.refl _ _ | assumption | apply extAlloc | apply extDrewN | apply extDrew | (refine extStep ?_ (by assumption) (by first | (simp; done) | (simp; omega) | omega)) | (refine extCall ?_ (by assumption)) | (refine extSet ?_ (by first | (simp; done) | (simp; omega) | omega) _)))⟩

def tokV (s : ByteArray) : List ByteArray := if vC [s] = 0 then toks s.data.toList else []
theorem Tokens_any (w : World) (s : ByteArray) (hm : s.size ≤ maxLen) :
    Calls Try.prog 13 #[.string s] w fun e w' => ∃ x, e = .returned (.tuple #[x, .agg #[.int .i64 (vC [s]), .int .i64 0]]) ∧ OwnStrs w' w.heap.size x (tokV s) ∧ Below w.heap.size w w' := by
  by_cases hz : vC [s] = 0
  · rw [hz, show tokV s = toks s.data.toList from if_pos hz]
    exact Tokens_good w s hm hz
  · rw [show tokV s = [] from if_neg hz]
    refine (Tokens_bad w s hm hz).mono ?_
    rintro e w' ⟨rfl, hb⟩
    exact ⟨_, rfl, OwnStrs.nil, hb⟩

def joinB (l : List ByteArray) : ByteArray := l.foldl (fun a b => a ++ b) .empty
theorem joinB_take (l : List ByteArray) (k : Nat) (h : k < l.length) : joinB (l.take (k + 1)) = joinB (l.take k) ++ l[k] := by
  unfold joinB
  rw [List.take_succ_eq_append_getElem h, List.foldl_append]
  rfl
theorem joinB_size (l : List ByteArray) : (joinB l).size = (l.map (·.size)).sum := by
  suffices h : ∀ (l : List ByteArray) (a : ByteArray), (l.foldl (fun a b => a ++ b) a).size = a.size + (l.map (·.size)).sum by
    have := h l .empty
    simpa [joinB] using this
  intro l
  induction l with
  | nil => intro a; simp
  | cons b l ih => intro a; simp only [List.foldl_cons, ih, List.map_cons, List.sum_cons, ByteArray.size_append]; omega

theorem sum_take (l : List ByteArray) (k : Nat) : ((l.take k).map (·.size)).sum ≤ (l.map (·.size)).sum := by
  have h : ((l.take k ++ l.drop k).map (·.size)).sum = (l.map (·.size)).sum := by rw [List.take_append_drop]
  rw [List.map_append, List.sum_append] at h
  omega
theorem tokV_size (s : ByteArray) (hz : vC [s] = 0) : ∀ t ∈ tokV s, t.size ≤ 80 := by
  intro t ht
  rw [show tokV s = toks s.data.toList from if_pos hz] at ht
  have h1 := (toks_facts s.data.toList).1 t ht
  have h2 := one_size s hz
  have hlen : s.data.toList.length = s.size := by rw [Array.length_toList]; rfl
  omega

theorem together_any (w : World) (v : Value) (l : List ByteArray) (h : Strs w v l) (hsum : (l.map (·.size)).sum ≤ 100000) :
    Calls Try.prog 15 #[v] w fun e w' => e = .returned (.string (joinB l)) ∧ w = w' := by
  obtain ⟨ao, cap, rfl, h1, h2, h3, h4⟩ := h.sl
  rw [maxLen_eq] at h2
  clear h4 h
  replace h3 := Lib.hid h3
  go_enter Try.func15, Try.ntmps15
  go_wp2
  go_loop [3, 4] (fun x i => ∃ k : Nat, k ≤ l.length ∧ i = .int .i64 k ∧ x = .string (joinB (l.take k))) (fun _ i => l.length - (intOf i).toNat)
  case atStart => exact ⟨0, Nat.zero_le _, rfl, rfl⟩
  case round =>
    obtain ⟨k, hk, rfl, rfl⟩ := hrel
    by_cases hlt : k < l.length
    · obtain ⟨ab, aoff, ea, hlta, hca⟩ := h3.out.at k (by simpa using hlt)
      subst ea
      obtain ⟨sa, hsa⟩ : ∃ s, s = l[k] := ⟨_, rfl⟩
      have ca : w.cell? ⟨ab, aoff + k, none⟩ = some (.string sa) := by rw [hca, hsa]; simp
      have ht := joinB_take l k hlt
      rw [← hsa] at ht
      replace hsa := Lib.hid hsa
      have hbd : (joinB (l.take k)).size + sa.size ≤ 100000 := by
        have h5 := joinB_size (l.take (k + 1))
        rw [ht, ByteArray.size_append] at h5
        have h6 := sum_take l (k + 1)
        omega
      replace ht := Lib.hid ht
      clear hca
      go_wp2
      go_round
      case rel => exact ⟨k + 1, hlt, by go_num, by rw [ht.out]⟩
      case measure => (first | (simp [intOf]; done) | (simp [intOf]; omega))
    · have e : l.take k = l := List.take_of_length_le (by omega)
      rw [e]
      go_wp2
      go_ret
      exact ⟨rfl, rfl⟩
end Go.Proofs.Ytdpcbffmmndhcaa
