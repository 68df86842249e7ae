/- lines.Split. -/
import Derived.Test.YtehdgnnelabajaaWxPieces
import Derived.OwnWalkIn
import Derived.BigRegionIn
namespace Go.Proofs.Ytehdgnnelabajaa
open Go.RowKit
set_option maxRecDepth 100000
set_option linter.unusedSimpArgs false

/-- what Split answers -/
def sC (s : ByteArray) : Int := if 4096 < s.size then 10 else vC (pcs s)
def sI (s : ByteArray) : Int := if 4096 < s.size then -1 else vI (pcs s)
def sL (s : ByteArray) : List ByteArray := if sC s = 0 then pcs s else []

theorem cutA_le (s : ByteArray) : (cutA s).size ≤ s.size := by
  unfold cutA
  split
  · rw [ByteArray.size_extract]; omega
  · exact Nat.le_refl _
theorem pcs_mem : ∀ (n : Nat) (s : ByteArray), s.size ≤ n → ∀ x ∈ pcs s, x.size ≤ s.size
  | 0, s, h, x, hx => by rw [pcs_nil (by omega)] at hx; cases hx
  | n + 1, s, h, x, hx => by
    by_cases h0 : s.size = 0
    · rw [pcs_nil h0] at hx; cases hx
    · have h1 := cutB_lt s h0
      rw [pcs_step h0] at hx
      rcases List.mem_cons.1 hx with rfl | hx
      · exact cutA_le s
      · exact Nat.le_trans (pcs_mem n (cutB s) (by omega) x hx) (Nat.le_of_lt h1)
theorem pcs_len : ∀ (n : Nat) (s : ByteArray), s.size ≤ n → (pcs s).length ≤ s.size
  | 0, s, h => by rw [pcs_nil (by omega)]; exact Nat.zero_le _
  | n + 1, s, h => by
    by_cases h0 : s.size = 0
    · rw [pcs_nil h0]; exact Nat.zero_le _
    · have h1 := cutB_lt s h0
      have := pcs_len n (cutB s) (by omega)
      rw [pcs_step h0, List.length_cons]
      omega

theorem Split_long (s : ByteArray) (hs : 4096 < s.size) (w : World) : Calls Try.prog 11 #[.string s] w fun e w' => e = .returned (.tuple #[.slice none 0 0, .agg #[.int .i64 10, .int .i64 (-1)]]) ∧ Below w.heap.size w w' := by
  have h1 : (4096 : Int) < (s.size : Int) := by omega
  go_enter Try.func11, Try.ntmps11
  go_wp2
  refine bodyPost_ret (v := .tuple #[.slice none 0 0, .agg #[.int .i64 10, .int .i64 (-1)]]) (by simp [results, Try.results11, go_sem]) rfl ?_
  exact ⟨rfl, extAlloc (Below.refl _ _)⟩

/-- between two rounds -/
def SplI (w : World) (pre : List ByteArray) (W : World) : Prop :=
  ∃ v, W.heap[w.heap.size + 1]? = some (.cells #[v] 22 (0, 0)) ∧ W.ownsRow (w.heap.size + 3) 9 1 v pre.length (pre.map Value.string) ∧ W.heap[w.heap.size]? = some (.cells #[.int .i64 0, .int .i64 0] 24 (0, 0)) ∧ Below w.heap.size w W ∧ w.heap.size + 3 ≤ W.heap.size
theorem SplI_only {w W W' : World} {pre : List ByteArray} {l : Nat} (h : SplI w pre W) (ho : Only (fun k => k = l) W W') (hl : w.heap.size + 2 ≤ l) (hc : ∀ o, W.heap[l]? = some o → l = w.heap.size + 2 ∨ o.isCells = false) : SplI w pre W' := by
  obtain ⟨v, h1, h2, h3, h4, h5⟩ := h
  refine ⟨v, (ho.block _ (lt_of_block h1) (by omega)).trans h1, ?_, (ho.block _ (lt_of_block h3) (by omega)).trans h3, ?_, Nat.le_trans h5 ho.size⟩
  · refine owns_only h2 ho ?_
    rintro k hk rfl
    have h6 := h2.lt k hk
    rcases h2.2 with ⟨rfl, _⟩ | ⟨g, cap, cur, rfl, _, hg, _⟩
    · cases hk
    · cases hk
      rcases hc _ hg with q | q
      · omega
      · cases q
  · exact ⟨ho.os.trans h4.os, ho.tape.trans h4.tape, ho.output.trans h4.output, Nat.le_trans h4.size ho.size, fun k hk => (ho.block k (by omega) (by omega)).trans (h4.block k hk)⟩
theorem Validate_calls {W : World} {l : List ByteArray} {v : Value} {b : Nat} (h : W.ownsRow b 9 1 v l.length (l.map Value.string)) (hs : ∀ s ∈ l, s.size ≤ maxLen) :
    Calls Try.prog 15 #[v] W fun e w' => e = .returned (.agg #[.int .i64 (vC l), .int .i64 (vI l)]) ∧ Below W.heap.size W w' := by
  refine Calls.mono (pure_any Validate_sp W (l, ()) [v] trivial (fun G => ⟨_, _, rfl, AV.rel_of (l := .d (.slice .str) l) (reads_rdB (t := .str) (E := 9) (rdL_of_strs l hs) (owns_low h (Nat.zero_le _)) (fun _ _ => trivial)), rfl⟩) rfl) ?_
  rintro e w' ⟨v, G', A', rfl, hb, hv⟩
  refine ⟨?_, hb⟩
  obtain ⟨vs, ⟨v1, r1, rfl, q1, v2, r2, rfl, q2, rfl⟩, rfl, -⟩ := hv
  have q1 : [v1] = [Value.int .i64 (vC l)] := q1.1
  have q2 : [v2] = [Value.int .i64 (vI l)] := q2.1
  cases q1
  cases q2
  rfl

theorem split_end {w X : World} {D : Nat} {v : Value} {l : List ByteArray} {c i : Int} (tmps : Array Value) (e2 : tmps.getD 2 undef = v) (e3 : tmps.getD 3 undef = .pointer (some ⟨w.heap.size, 0, none⟩))
    (hf : X.heap[w.heap.size]? = some (.cells #[.int .i64 c, .int .i64 i] 24 (0, 0))) (hk : X.heap[D]? = some (.deferred (some []))) (hD : w.heap.size + 3 ≤ D) (hB : Below w.heap.size w X) (hr : X.ownsRow (w.heap.size + 3) 9 1 v l.length (l.map Value.string)) :
    bodyPostM Fence.wide 5 Try.prog Try.f11 (fun e w' => ∃ v, e = .returned (.tuple #[v, .agg #[.int .i64 c, .int .i64 i]]) ∧ Below w.heap.size w w' ∧ w'.ownsRow w.heap.size 9 1 v l.length (l.map Value.string)) Exit.ret { tmps := tmps, defers := [{ target := .collected D, args := #[] }] } X := by
  refine ⟨by simp, .inl ⟨_, _, rfl, run_takeDeferred hk, ?_⟩⟩
  have hf' : (X.putObj D (.deferred none)).heap[w.heap.size]? = some (.cells #[.int .i64 c, .int .i64 i] 24 (0, 0)) := (World.putObj_heap_other (by omega)).trans hf
  have c0 : (X.putObj D (.deferred none)).cell? ⟨w.heap.size, 0, none⟩ = some (.int .i64 c) := by rw [Lib.cell_of_heap hf']; rfl
  have c1 : (X.putObj D (.deferred none)).cell? ⟨w.heap.size, 1, none⟩ = some (.int .i64 i) := by rw [Lib.cell_of_heap hf']; rfl
  have ho := only_putObj X D (.deferred none)
  refine ⟨.tuple #[v, .agg #[.int .i64 c, .int .i64 i]], ?_, v, rfl, ⟨ho.os.trans hB.os, ho.tape.trans hB.tape, ho.output.trans hB.output, Nat.le_trans hB.size ho.size, fun k hk => (ho.block k (Nat.lt_of_lt_of_le hk hB.size) (by omega)).trans (hB.block k hk)⟩, ?_⟩
  · have e2' : tmps[2]?.getD undef = v := by rw [← Array.getD_eq_getD_getElem?]; exact e2
    have e3' : tmps[3]?.getD undef = .pointer (some ⟨w.heap.size, 0, none⟩) := by rw [← Array.getD_eq_getD_getElem?]; exact e3
    simp [results, Try.results11, go_sem, e2', e3', c0, c1]
  · have := owns_only hr ho (fun k hkk e => by
      subst e
      rcases hr.2 with ⟨rfl, _⟩ | ⟨g, cap, cur, rfl, _, hg, _⟩
      · cases hkk
      · cases hkk
        have hg : X.heap[g]? = _ := hg
        have hk : X.heap[g]? = _ := hk
        rw [hg] at hk
        cases hk)
    refine ⟨this.1, ?_⟩
    rcases this.2 with q | ⟨g, cap, cur, q1, q2, q3⟩
    · exact .inl q
    · exact .inr ⟨g, cap, cur, q1, by omega, q3⟩
theorem strInfo : (Try.prog.info? 9).map (fun i => (i.zero, i.size, i.bytes)) = some (some (.string ⟨#[]⟩), 1, 16) := by kernel_rfl
set_option maxHeartbeats 2000000 in
theorem Split_short (s : ByteArray) (hs : s.size ≤ 4096) (w : World) : Calls Try.prog 11 #[.string s] w fun e w' => ∃ v, e = .returned (.tuple #[v, .agg #[.int .i64 (sC s), .int .i64 (sI s)]]) ∧ Below w.heap.size w w' ∧ w'.ownsRow w.heap.size 9 1 v (sL s).length ((sL s).map Value.string) := by
  have h1 : ¬ (4096 : Int) < (s.size : Int) := by omega
  have hF : Fence.wide.fn 33 := trivial
  refine callsIn_wide (n := 5) |>.1 ?_
  refine callsIn_of_wp_marks Try.func11 rfl trivial ?_ rfl
  simp only [Try.ntmps11, List.size_toArray, List.length_cons, List.length_nil, Nat.reduceAdd, Nat.reduceSub, Array.replicate_succ, Array.replicate_zero, List.push_toArray, List.append_toArray, List.nil_append, List.cons_append]
  gi_wp2_with (first
    | (gi_at_call 33; refine (callsIn_wide.2 (pieces_any s _)).mono ?_; rintro e w1 ⟨rfl, rfl⟩; go_frame)
    | gi_in)
  obtain ⟨W0, hW0⟩ : ∃ W0, (((w.alloc (.cells #[.int .i64 0, .int .i64 0] 24)).alloc (.cells #[.slice none 0 0] 22)).alloc (.cells #[.string s] 9)) = W0 := ⟨_, rfl⟩
  have hs0 : W0.heap.size = w.heap.size + 3 := by rw [← hW0]; simp
  have hf0 : W0.heap[w.heap.size]? = some (.cells #[.int .i64 0, .int .i64 0] 24 (0, 0)) := by
    rw [← hW0]; exact (Below.heap_alloc _ _ _ (by simp; omega)).trans ((Below.heap_alloc _ _ _ (by simp)).trans (World.alloc_heap_new w _))
  have hb0 : W0.heap[w.heap.size + 1]? = some (.cells #[.slice none 0 0] 22 (0, 0)) := by
    rw [← hW0]; refine (Below.heap_alloc _ _ _ (by simp)).trans ?_
    have := World.alloc_heap_new (w.alloc (.cells #[.int .i64 0, .int .i64 0] 24)) (.cells #[.slice none 0 0] 22)
    rwa [World.size_alloc] at this
  have ht0 : W0.heap[w.heap.size + 2]? = some (.cells #[.string s] 9 (0, 0)) := by
    rw [← hW0]
    have := World.alloc_heap_new ((w.alloc (.cells #[.int .i64 0, .int .i64 0] 24)).alloc (.cells #[.slice none 0 0] 22)) (.cells #[.string s] 9)
    rwa [World.size_alloc, World.size_alloc] at this
  have hB0 : Below w.heap.size w W0 := by rw [← hW0]; exact extAlloc (extAlloc (extAlloc (Below.refl _ _)))
  rw [hW0]
  clear hW0
  refine wpIn_rangeFunc_box (α := ByteArray) rfl (by decide) rfl trivial (enters_of Try.func60 (by kernel_rfl) rfl) (encs := fun x => #[.string x]) (fun _ => rfl) (w.heap.size + 2) (by omega) (pcs s) 4096 ?hseq (SplI w) ?hI1 ?hI2 ?h0
    (fun x => { tmps := #[.string s, undef, .slice none 0 0, .pointer (some ⟨w.heap.size, 0, none⟩), .pointer (some ⟨w.heap.size + 1, 0, none⟩), .string x, undef, .string s, .int .i64 s.size, .bool false, undef, .string s, .func (.func 60) #[] #[.pointer (some ⟨w.heap.size + 1 + 1, 0, none⟩)], .string x, undef, undef, undef, undef, undef, undef, undef, undef, undef, undef, undef, undef], defers := [] })
    ?hassign ?hbody ?hdone
  case hseq =>
    intro l J W hb hJ hY h0
    exact pieces1_in 4 (by decide) l (w.heap.size + 2) 4096 J hJ hY s (by unfold maxLen; omega) hs W ((hb.block _ (by omega)).trans ht0) h0
  case hI1 =>
    intro pre A l o' h hc hl
    exact SplI_only h (only_putObj A l o') (by omega) (fun o ho => .inr (hc o ho))
  case hI2 =>
    intro pre A B h ho
    exact SplI_only h ho (Nat.le_refl _) (fun o _ => .inl rfl)
  case h0 => exact ⟨_, hb0, ⟨rfl, .inl ⟨rfl, rfl⟩⟩, hf0, hB0, by omega⟩
  case hassign =>
    intro l x W K hk
    gi_wp2_with (rw [Oper.semAt_eq _ _ _ (fun c h => by cases h)]; go_simp; try go_bits)
    exact hk
  case hbody =>
    rintro l pre x W ⟨v, hv, hr, hf, hb, hz⟩ hlen
    obtain ⟨i0, hi, hz0, hz1, hz2⟩ := info_parts strInfo
    have hv1 : W.cell? ⟨w.heap.size + 1, 0, none⟩ = some v := by rw [Lib.cell_of_heap hv]; rfl
    gi_wp2_with (first
      | (gi_at_builtin
         refine wpListIn_append_own _ rfl _ _ 22 rfl (w.heap.size + 3) 9 i0 (.string ⟨#[]⟩) 1 16 Try.underlying22 hi hz0 hz1 hz2 rfl (by decide) _ _ _ rfl (hr.alloc _) ⟨W.heap.size, 0, none⟩ 1 1 [.string x] rfl rfl (cell_one_new _ _ _) (by simp [Value.oneCell']) (by unfold maxLen; omega) (by omega) (by simp; omega) ?_
         intro v' w3 hown' hg3 hnil3
         have hg3' : (W.alloc (.cells #[.string x] 9)).grownBy w3 v.ownBlock := hg3
         have hne : ∀ k, k < w.heap.size + 3 → some k ≠ v.ownBlock := fun k hk e => by have := hr.lt k e.symm; omega
         have hv3 : w3.heap[w.heap.size + 1]? = some (.cells #[v] 22 (0, 0)) := (hg3'.block _ (by simp; omega) (hne _ (by omega))).trans ((Below.heap_alloc _ _ _ (by omega)).trans hv)
         have hc3 : w3.cell? ⟨w.heap.size + 1, 0, none⟩ = some v := by rw [Lib.cell_of_heap hv3]; rfl
         have hf3 : w3.frozen? ⟨w.heap.size + 1, 0, none⟩ = false := Lib.frozen_of_heap hv3 0
         obtain ⟨g', cap', rfl⟩ := ownsRow_succ hown'
         go_frame)
      | (rw [Oper.semAt_eq _ _ _ (fun c h => by cases h)]; go_simp; try go_bits))
    obtain ⟨hv4, hk4⟩ : (w3.setCell ⟨w.heap.size + 1, 0, none⟩ (.slice (some ⟨g', 0, none⟩) (pre.length + 1) cap')).heap[w.heap.size + 1]? = some (.cells #[.slice (some ⟨g', 0, none⟩) (pre.length + 1) cap'] 22 (0, 0)) ∧
        ∀ k, k < w3.heap.size → k ≠ w.heap.size + 1 → (w3.setCell ⟨w.heap.size + 1, 0, none⟩ (.slice (some ⟨g', 0, none⟩) (pre.length + 1) cap')).heap[k]? = w3.heap[k]? := ⟨heap_set_box _ hv3, fun k _ hk => Below.heap_setCell _ _ _ k hk⟩
    have hold : ∀ k, k < w.heap.size + 3 → k ≠ w.heap.size + 1 → k < W.heap.size → (w3.setCell ⟨w.heap.size + 1, 0, none⟩ (.slice (some ⟨g', 0, none⟩) (pre.length + 1) cap')).heap[k]? = W.heap[k]? := fun k h1 h2 h3 =>
      (hk4 k (Nat.lt_of_lt_of_le h3 (Nat.le_trans (by simp) hg3'.size)) h2).trans ((hg3'.block k (by simp; omega) (hne k h1)).trans (Below.heap_alloc _ _ k h3))
    refine ⟨?_, hold _ (by omega) (by omega) (by omega), _, hv4, ?_, (hold _ (by omega) (by omega) (by omega)).trans hf, ?_, ?_⟩
    · refine ((KeepsOthers.alloc W (.cells #[.string x] 9)).trans (KeepsOthers.of_grownBy hg3' fun j o ej hj => ?_)).trans (KeepsOthers.setCell _ _ _)
      rcases (hr.alloc (.cells #[.string x] 9)).2 with ⟨rfl, _⟩ | ⟨g, cap, cur, rfl, _, hgb, _⟩
      · simp [Value.ownBlock] at ej
      · obtain rfl : g = j := by simpa [Value.ownBlock] using ej
        rw [hgb] at hj; cases hj; rfl
    · have := owns_only (S := fun k => k = w.heap.size + 1) hown' (Only.set (S := fun k => k = w.heap.size + 1) (a := ⟨w.heap.size + 1, 0, none⟩) (Only.refl _ _) (fun _ => rfl) (.slice (some ⟨g', 0, none⟩) (pre.length + 1) cap')) (fun k hk e => by have := hown'.lt k hk; omega)
      simpa using this
    · have hsz := hg3'.size
      refine ⟨hg3'.os.trans hb.os, hg3'.tape.trans hb.tape, hg3'.output.trans hb.output, ?_, fun k hk => (hold k (by omega) (by omega) (by have := hb.size; omega)).trans (hb.block k hk)⟩
      have e1 : (w3.setCell ⟨w.heap.size + 1, 0, none⟩ (.slice (some ⟨g', 0, none⟩) (pre.length + 1) cap')).heap.size = w3.heap.size := by simp [World.setCell]
      have e2 : (W.alloc (.cells #[.string x] 9)).heap.size = W.heap.size + 1 := by simp
      omega
    · have hsz := hg3'.size
      have e1 : (w3.setCell ⟨w.heap.size + 1, 0, none⟩ (.slice (some ⟨g', 0, none⟩) (pre.length + 1) cap')).heap.size = w3.heap.size := by simp [World.setCell]
      have e2 : (W.alloc (.cells #[.string x] 9)).heap.size = W.heap.size + 1 := by simp
      omega
  case hdone =>
    rintro D W ⟨v, hv, hr, hf, hb, hz⟩ hD hk
    obtain ⟨ao, cap, rfl⟩ : ∃ ao cap, v = .slice ao (pcs s).length cap := by
      rcases hr.2 with ⟨hv', h0⟩ | ⟨g, cap, cur, hv', _⟩
      · exact ⟨none, 0, by rw [hv', h0]⟩
      · exact ⟨_, _, hv'⟩
    have hc : W.cell? ⟨w.heap.size + 1, 0, none⟩ = some (.slice ao (pcs s).length cap) := by rw [Lib.cell_of_heap hv]; rfl
    have hFv : Fence.wide.fn 15 := trivial
    have hval := Validate_calls hr (fun x hx => Nat.le_trans (pcs_mem s.size s (Nat.le_refl _) x hx) (by unfold maxLen; omega))
    have hC : sC s = vC (pcs s) := if_neg (by omega)
    have hI : sI s = vI (pcs s) := if_neg (by omega)
    dsimp only [Exit.inBlock, Exit.then]
    rename_i K hKK
    refine hKK _ _ ?_
    by_cases hv0 : vC (pcs s) = 0
    · have hI0 := vI_good _ ((vC_good _).1 hv0)
      have hL : sL s = pcs s := if_pos (by rw [hC, hv0])
      rw [hv0] at hC
      rw [hI0] at hI
      rw [hv0, hI0] at hval
      gi_wp2_with (first
        | (gi_at_call 15
           refine (callsIn_wide.2 hval).mono ?_
           rintro e w1 ⟨rfl, hb1⟩
           have hv1 : w1.heap[w.heap.size + 1]? = some (.cells #[.slice ao (pcs s).length cap] 22 (0, 0)) := (hb1.block _ (lt_of_block hv)).trans hv
           have hc1 : w1.cell? ⟨w.heap.size + 1, 0, none⟩ = some (.slice ao (pcs s).length cap) := by rw [Lib.cell_of_heap hv1]; rfl
           have hf1 : w1.heap[w.heap.size]? = some (.cells #[.int .i64 0, .int .i64 0] 24 (0, 0)) := (hb1.block _ (lt_of_block hf)).trans hf
           have hlt1 := lt_of_block hv1
           have hlt0 := lt_of_block hf1
           have hf10 : w1.cell? ⟨w.heap.size, 0, none⟩ = some (.int .i64 0) := by rw [Lib.cell_of_heap hf1]; rfl
           have hf11 : w1.cell? ⟨w.heap.size, 1, none⟩ = some (.int .i64 0) := by rw [Lib.cell_of_heap hf1]; rfl
           have hz10 : w1.frozen? ⟨w.heap.size, 0, none⟩ = false := Lib.frozen_of_heap hf1 0
           have hz11 : w1.frozen? ⟨w.heap.size, 1, none⟩ = false := Lib.frozen_of_heap hf1 1
           go_frame)
        | gi_in)
      rw [hC, hI, hL]
      have hlk := lt_of_block hk
      have hsz := hb1.size
      have ho : Only (fun k => k = w.heap.size) w1 (((w1.setCell ⟨w.heap.size, 0, none⟩ (.int .i64 0)).setCell ⟨w.heap.size, 1, none⟩ (.int .i64 0)).alloc (.cells #[.int .i64 0, .int .i64 0] 24)) :=
        ((((Only.refl (fun k => k = w.heap.size) w1).set (a := ⟨w.heap.size, 0, none⟩) (fun _ => rfl) _).set (a := ⟨w.heap.size, 1, none⟩) (fun _ => rfl) _).alloc _)
      refine split_end _ rfl rfl ?_ ((ho.block D (by omega) (by omega)).trans ((hb1.block D hlk).trans hk)) (by omega) ?_ ?_
      · refine (Below.heap_alloc _ _ _ (by simp [World.setCell]; omega)).trans ?_
        simp [World.setCell, Array.getElem?_modify, hf1]
      · exact ⟨ho.os.trans (hb1.os.trans hb.os), ho.tape.trans (hb1.tape.trans hb.tape), ho.output.trans (hb1.output.trans hb.output), Nat.le_trans hb.size (Nat.le_trans hb1.size ho.size), fun k hk => (ho.block k (by omega) (by omega)).trans ((hb1.block k (by omega)).trans (hb.block k hk))⟩
      · exact owns_only (owns_only hr (only_of_below (S := fun _ => False) hb1) (fun _ _ => id)) ho (fun k hk e => by have := hr.lt k hk; omega)
    · have hC0 : ¬ sC s = 0 := by rw [hC]; exact hv0
      have hL : sL s = [] := if_neg hC0
      rw [← hC, ← hI] at hval
      clear hC hI hv0
      obtain ⟨C, hCe⟩ : ∃ C, C = sC s := ⟨_, rfl⟩
      obtain ⟨I, hIe⟩ : ∃ I, I = sI s := ⟨_, rfl⟩
      rw [← hCe] at hval hC0
      rw [← hIe] at hval
      replace hCe := Lib.hid hCe
      replace hIe := Lib.hid hIe
      have hD1 : (decide (C = 0) && decide (I = 0)) = false := by rw [decide_eq_false hC0]; rfl
      gi_wp2_with (first
        | (gi_at_call 15
           refine (callsIn_wide.2 hval).mono ?_
           rintro e w1 ⟨rfl, hb1⟩
           have hv1 : w1.heap[w.heap.size + 1]? = some (.cells #[.slice ao (pcs s).length cap] 22 (0, 0)) := (hb1.block _ (lt_of_block hv)).trans hv
           have hc1 : w1.cell? ⟨w.heap.size + 1, 0, none⟩ = some (.slice ao (pcs s).length cap) := by rw [Lib.cell_of_heap hv1]; rfl
           have hf1 : w1.heap[w.heap.size]? = some (.cells #[.int .i64 0, .int .i64 0] 24 (0, 0)) := (hb1.block _ (lt_of_block hf)).trans hf
           have hlt1 := lt_of_block hv1
           have hlt0 := lt_of_block hf1
           have hf10 : w1.cell? ⟨w.heap.size, 0, none⟩ = some (.int .i64 0) := by rw [Lib.cell_of_heap hf1]; rfl
           have hf11 : w1.cell? ⟨w.heap.size, 1, none⟩ = some (.int .i64 0) := by rw [Lib.cell_of_heap hf1]; rfl
           have hz10 : w1.frozen? ⟨w.heap.size, 0, none⟩ = false := Lib.frozen_of_heap hf1 0
           have hz11 : w1.frozen? ⟨w.heap.size, 1, none⟩ = false := Lib.frozen_of_heap hf1 1
           go_frame)
        | gi_in)
      all_goals gi_region
      gi_wp2
      rw [← hCe.out, ← hIe.out, hL]
      have hlk := lt_of_block hk
      have hsz := hb1.size
      have ho : Only (fun k => k = w.heap.size) w1 (((w1.setCell ⟨w.heap.size, 0, none⟩ (.int .i64 C)).setCell ⟨w.heap.size, 1, none⟩ (.int .i64 I)).alloc (.cells #[.int .i64 C, .int .i64 I] 24)).drew :=
        (((((Only.refl (fun k => k = w.heap.size) w1).set (a := ⟨w.heap.size, 0, none⟩) (fun _ => rfl) _).set (a := ⟨w.heap.size, 1, none⟩) (fun _ => rfl) _).alloc _).drew)
      refine split_end (l := []) _ rfl rfl ?_ ((ho.block D (by omega) (by omega)).trans ((hb1.block D hlk).trans hk)) (by omega) ?_ ⟨rfl, .inl ⟨rfl, rfl⟩⟩
      · refine (Below.heap_alloc _ _ _ (by simp [World.setCell]; omega)).trans ?_
        simp [World.setCell, Array.getElem?_modify, hf1]
      · exact ⟨ho.os.trans (hb1.os.trans hb.os), ho.tape.trans (hb1.tape.trans hb.tape), ho.output.trans (hb1.output.trans hb.output), Nat.le_trans hb.size (Nat.le_trans hb1.size ho.size), fun k hk => (ho.block k (by omega) (by omega)).trans ((hb1.block k (by omega)).trans (hb.block k hk))⟩
def sp_Split : SpecF := pureSp false [.str] (fun _ => True) (fun (s', _) => .tu [(false, [.d (.slice .str) (sL s')]), (true, [.d (.int .i64) (sC s'), .d (.int .i64) (sI s')])])
theorem sL_mem (s : ByteArray) : ∀ x ∈ sL s, x.size ≤ s.size := by
  intro x hx
  unfold sL at hx
  split at hx
  · exact pcs_mem s.size s (Nat.le_refl _) x hx
  · cases hx
theorem sC_or (s : ByteArray) : 0 ≤ sC s ∧ sC s ≤ 100 := by
  unfold sC
  split
  · omega
  · rcases vC_or (pcs s) with h | h | h <;> omega
theorem sI_or (s : ByteArray) : -1 ≤ sI s ∧ sI s ≤ 1000 := by
  unfold sI
  split
  · omega
  · unfold vI
    have := vIdx_le (pcs s)
    split <;> (try split) <;> omega
theorem Split_sp : SpFact 11 sp_Split := by
  refine ⟨⟨Try.f11, rfl, rfl, rfl, callsFrz_ok (fun ⟨_, _⟩ _ => rfl) ?_⟩, pureSp_loc _ _ _ _⟩
  rintro ⟨s, u⟩ w G A vals ⟨hs, -⟩ - ha
  obtain ⟨v1, r1, rfl, h1, rfl⟩ := ha
  have h1 := AV.one_rel (x := .v false [.d .str s]) rfl h1
  obtain ⟨h1, -⟩ := h1
  cases h1
  have hs : s.size ≤ maxLen := hs
  have hm : ∀ x ∈ sL s, x.size ≤ maxLen := fun x hx => Nat.le_trans (sL_mem s x hx) hs
  have fin : ∀ v w', Below w.heap.size w w' → w'.ownsRow w.heap.size 9 1 v (sL s).length ((sL s).map Value.string) →
      (AV.tu [(false, [Lf.d (.slice .str) (sL s)]), (true, [Lf.d (.int .i64) (sC s), Lf.d (.int .i64) (sI s)])]).rel w' G (fun k => A k ∨ w.heap.size ≤ k) (.tuple #[v, .agg #[.int .i64 (sC s), .int .i64 (sI s)]]) := by
    intro v w' hb ho
    have hc := sC_or s
    have hi := sI_or s
    refine ⟨[v, .agg #[.int .i64 (sC s), .int .i64 (sI s)]], rfl, _, _, rfl, ⟨[v], ⟨_, [], rfl, rd_new hm ho, rfl⟩, rfl, fun _ => rfl⟩, _, _, rfl, ⟨[.int .i64 (sC s), .int .i64 (sI s)], ⟨_, _, rfl, ⟨rfl, ?_, ?_⟩, _, _, rfl, ⟨rfl, ?_, ?_⟩, rfl⟩, rfl, fun h => by cases h⟩, rfl⟩
    · show (-9223372036854775808 : Int) ≤ sC s; omega
    · show sC s ≤ (9223372036854775807 : Int); omega
    · show (-9223372036854775808 : Int) ≤ sI s; omega
    · show sI s ≤ (9223372036854775807 : Int); omega
  by_cases hl : 4096 < s.size
  · refine Calls.mono (Split_long s hl w) ?_
    rintro e w' ⟨rfl, hb⟩
    have e1 : sC s = 10 := if_pos hl
    have e2 : sI s = -1 := if_pos hl
    have e3 : sL s = [] := if_neg (by rw [e1]; decide)
    rw [e1, e2, e3] at fin
    show ∃ v, _ = _ ∧ _ ∧ (AV.tu [(false, [Lf.d (.slice .str) (sL s)]), (true, [Lf.d (.int .i64) (sC s), Lf.d (.int .i64) (sI s)])]).rel _ _ _ _
    rw [e1, e2, e3]
    exact ⟨_, rfl, (Only.refl _ _).call hb, fin _ w' hb ⟨rfl, .inl ⟨rfl, rfl⟩⟩⟩
  · refine Calls.mono (Split_short s (by omega) w) ?_
    rintro e w' ⟨v, rfl, hb, ho⟩
    exact ⟨_, rfl, (Only.refl _ _).call hb, fin v w' hb ho⟩
end Go.Proofs.Ytehdgnnelabajaa
