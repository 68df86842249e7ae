/- Digests: the walks of DigestInjective and DigestStringsExtends. -/
import Derived.Test.YtkokleicgpimbaaDigLaws2
import Derived.Test.YtkokleicgpimbaaDigRef
namespace Go.Proofs.Ytkokleicgpimbaa
open Go.RowKit

theorem snoc_of (n : Nat) (l : List UInt8) (h : l.length = n + 1) : ∃ l' c, l = l' ++ [c] ∧ l'.length = n := by
  refine ⟨l.dropLast, l.getLast (by intro e; simp [e] at h), (List.dropLast_concat_getLast _).symm, by simp [h]⟩

theorem dig_small (n : Nat) : ∀ l : List UInt8, l.length = n → n ≤ 6 → dig l < 2 * 257 ^ n ∧ (∀ m : List UInt8, m.length = n → dig l = dig m → l = m) := by
  induction n with
  | zero =>
    intro l hl _
    have : l = [] := by simpa using hl
    subst this
    refine ⟨by decide, fun m hm _ => ?_⟩
    have : m = [] := by simpa using hm
    rw [this]
  | succ n ih =>
    intro l hl hn
    obtain ⟨l', c, rfl, hl'⟩ := snoc_of n l hl
    obtain ⟨h1, h2⟩ := ih l' hl' (by omega)
    have hp : (257 : Int) ^ n ≤ 257 ^ 5 := by
      have : n = 0 ∨ n = 1 ∨ n = 2 ∨ n = 3 ∨ n = 4 ∨ n = 5 := by omega
      rcases this with rfl | rfl | rfl | rfl | rfl | rfl <;> decide
    have hP : (257 : Int) ^ 5 = 1121154893057 := by decide
    have hs : (257 : Int) ^ (n + 1) = 257 ^ n * 257 := Int.pow_succ ..
    have hc := c.toNat_lt
    have hb := dig_bd l'
    have e1 : dig (l' ++ [c]) = dig l' * 257 + (c.toNat + 1) := by
      rw [dig_snoc]; unfold nx; exact Int.emod_eq_of_lt (by omega) (by omega)
    refine ⟨by rw [e1, hs]; omega, fun m hm he => ?_⟩
    obtain ⟨m', d, rfl, hm'⟩ := snoc_of n m hm
    obtain ⟨h3, _⟩ := ih m' hm' (by omega)
    have hd := d.toNat_lt
    have hb' := dig_bd m'
    have e2 : dig (m' ++ [d]) = dig m' * 257 + (d.toNat + 1) := by
      rw [dig_snoc]; unfold nx; exact Int.emod_eq_of_lt (by omega) (by omega)
    rw [e1, e2] at he
    have e3 : dig l' = dig m' := by omega
    have e4 : c.toNat = d.toNat := by omega
    have e5 : c = d := UInt8.toNat_inj.1 e4
    rw [h2 m' hm' e3, e5]

theorem inj_law (l m : List UInt8) (hl : l.length = m.length) (h6 : l.length ≤ 6) : ((dig l == dig m) == (l == m)) = true := by
  by_cases h : l = m
  · subst h; simp
  · have : ¬ dig l = dig m := fun e => h ((dig_small l.length l rfl h6).2 m hl.symm e)
    rw [beq_eq_false_iff_ne.2 this, beq_eq_false_iff_ne.2 h]; rfl

set_option maxHeartbeats 1000000 in
theorem law_DigestInjective (w : World) (v0 : Value) (l0 : List UInt8) (v1 : Value) (l1 : List UInt8) (H0 : U8s w v0 l0 ∧ l0.length ≤ 140737488351232) (H1 : U8s w v1 l1 ∧ l1.length ≤ 140737488351232) :
    Calls Try.prog 5 #[v0, v1] w fun e w' => e = .returned (.bool true) ∧ Below w.heap.size w w' := by
  obtain ⟨H0, B0⟩ := H0
  obtain ⟨H1, B1⟩ := H1
  obtain ⟨ao, cap, rfl, h1, h2, h3, h4⟩ := H0.sl
  clear h1 h2 h3 h4
  obtain ⟨ao', cap', rfl, h1, h2, h3, h4⟩ := H1.sl
  clear h1 h2 h3 h4
  replace H0 := Lib.hid H0
  replace H1 := Lib.hid H1
  by_cases hl : l0.length = l1.length
  · by_cases h6 : l0.length ≤ 6
    · have hlaw := inj_law l0 l1 hl h6
      have b1 : ((l0.length : Int) != (l1.length : Int)) = false := by simp; omega
      have h7 : l1.length ≤ 6 := by omega
      clear hl
      go_enter Try.func5, Try.ntmps5
      go_wp2_with fail
      with_reducible refine Calls.mono (of_small _ _ l0 H0.out (by omega)) ?_
      rintro e w1 ⟨rfl, b1⟩
      go_wp2_with fail
      with_reducible refine Calls.mono (of_small _ _ l1 (H1.out.mono (by exact (by repeat (first | exact Below.refl _ _ | assumption | apply extAlloc | apply extDrewN | apply extDrew | (refine extStep ?_ (by assumption) (by first | (simp; done) | (simp; omega) | omega)) | (refine extCall ?_ (by assumption)) | (refine extSet ?_ (by first | (simp; done) | (simp; omega) | omega) _))))) (by omega)) ?_
      rintro e w2 ⟨rfl, b2⟩
      have z1 := b1.size
      have z2 := b2.size
      simp at z2
      have e2 : Below w.heap.size w w2 := (by repeat (first | exact Below.refl _ _ | assumption | apply extAlloc | apply extDrewN | apply extDrew | (refine extStep ?_ (by assumption) (by first | (simp; done) | (simp; omega) | omega)) | (refine extCall ?_ (by assumption)) | (refine extSet ?_ (by first | (simp; done) | (simp; omega) | omega) _)))
      have B1 := (Blk.new w1 #[.int .i64 0, .int .i64 0] 24).call b2
      have c0 := B1.cell 0
      have y1 := B1.lt
      go_wp2_with (first | (go_at_call 11; with_reducible refine Calls.mono (same_any _ _ _ l0 l1 (H0.out.mono (by exact (by repeat (first | exact Below.refl _ _ | assumption | apply extAlloc | apply extDrewN | apply extDrew | (refine extStep ?_ (by assumption) (by first | (simp; done) | (simp; omega) | omega)) | (refine extCall ?_ (by assumption)) | (refine extSet ?_ (by first | (simp; done) | (simp; omega) | omega) _))))) (H1.out.mono (by exact (by repeat (first | exact Below.refl _ _ | assumption | apply extAlloc | apply extDrewN | apply extDrew | (refine extStep ?_ (by assumption) (by first | (simp; done) | (simp; omega) | omega)) | (refine extCall ?_ (by assumption)) | (refine extSet ?_ (by first | (simp; done) | (simp; omega) | omega) _)))))) ?_; rintro e w3 ⟨rfl, rfl⟩) | (go_at_call 10; with_reducible refine Calls.mono (closed_any _) ?_; rintro e w9 ⟨rfl, b9⟩))
      go_ret
      exact ⟨rfl, (by repeat (first | exact Below.refl _ _ | assumption | apply extAlloc | apply extDrewN | apply extDrew | (refine extStep ?_ (by assumption) (by first | (simp; done) | (simp; omega) | omega)) | (refine extCall ?_ (by assumption)) | (refine extSet ?_ (by first | (simp; done) | (simp; omega) | omega) _)))⟩
    · have b1 : ((l0.length : Int) != (l1.length : Int)) = false := by simp; omega
      have h7 : 6 < l0.length := by omega
      clear hl h6
      go_enter Try.func5, Try.ntmps5
      go_wp2_with (go_at_call 10; with_reducible refine Calls.mono (closed_any _) ?_; rintro e w9 ⟨rfl, b9⟩)
      go_ret
      exact ⟨rfl, (by repeat (first | exact Below.refl _ _ | assumption | apply extAlloc | apply extDrewN | apply extDrew | (refine extStep ?_ (by assumption) (by first | (simp; done) | (simp; omega) | omega)) | (refine extCall ?_ (by assumption)) | (refine extSet ?_ (by first | (simp; done) | (simp; omega) | omega) _)))⟩
  · have b1 : ((l0.length : Int) != (l1.length : Int)) = true := by simp; omega
    clear hl
    go_enter Try.func5, Try.ntmps5
    go_wp2_with (go_at_call 10; with_reducible refine Calls.mono (closed_any _) ?_; rintro e w9 ⟨rfl, b9⟩)
    go_ret
    exact ⟨rfl, (by repeat (first | exact Below.refl _ _ | assumption | apply extAlloc | apply extDrewN | apply extDrew | (refine extStep ?_ (by assumption) (by first | (simp; done) | (simp; omega) | omega)) | (refine extCall ?_ (by assumption)) | (refine extSet ?_ (by first | (simp; done) | (simp; omega) | omega) _)))⟩

theorem fold_snoc (l : List ByteArray) (s : ByteArray) : fold (l ++ [s]) = pr (fold l) (dig s.data.toList) := by simp [fold]
theorem findIdx_snoc (l : List ByteArray) (s : ByteArray) : bad (l ++ [s]) = if bad l < l.length then bad l else if 4096 < s.size then l.length else l.length + 1 := by
  unfold bad
  rw [List.findIdx_append]
  split
  · rfl
  · simp only [List.findIdx_cons, List.findIdx_nil, cond]
    split <;> split <;> simp_all <;> omega

theorem str_cases (l : List ByteArray) (s : ByteArray) : strC l = 2 ∨ (strC l = 0 ∧ ofC s.data.toList = 2) ∨ (strC l = 0 ∧ ofC s.data.toList = 0 ∧ strC (l ++ [s]) = 2) ∨ (strC l = 0 ∧ ofC s.data.toList = 0 ∧ strC (l ++ [s]) = 0 ∧ pairC (strV l) (ofV s.data.toList) = 0 ∧ (strV (l ++ [s]) == pairV (strV l) (ofV s.data.toList)) = true) := by
  have hlen : s.data.toList.length = s.size := by rw [Array.length_toList]; rfl
  by_cases h1 : 120 < l.length
  · left; simp [strC, h1]
  · by_cases h2 : bad l < l.length
    · left; simp [strC, h1, h2]
    · have a1 : strC l = 0 := by simp [strC, h1, h2]
      by_cases h3 : s.size ≤ 4096
      · have a2 : ofC s.data.toList = 0 := by unfold ofC; rw [hlen, if_pos h3]
        have a3 : ofV s.data.toList = dig s.data.toList := by unfold ofV; rw [hlen, if_pos h3]
        have a4 : bad (l ++ [s]) = l.length + 1 := by rw [findIdx_snoc, if_neg h2, if_neg (by omega)]
        have a5 : strV l = fold l := by simp [strV, h1, h2]
        by_cases h4 : 120 < l.length + 1
        · right; right; left; exact ⟨a1, a2, by simp [strC, h4]⟩
        · right; right; right
          have a6 : strC (l ++ [s]) = 0 := by simp [strC, h4, a4]
          have a7 : strV (l ++ [s]) = fold (l ++ [s]) := by simp [strV, h4, a4]
          have k1 : isD (fold l) = true := (isD_iff _).2 (fold_bd l)
          have k2 : isD (dig s.data.toList) = true := (isD_iff _).2 (dig_bd _)
          refine ⟨a1, a2, a6, ?_, ?_⟩
          · rw [a5, a3]; simp [pairC, k1, k2]
          · rw [a7, a5, a3, fold_snoc]; simp [pairV, k1, k2]
      · right; left; exact ⟨a1, by unfold ofC; rw [hlen, if_neg h3]⟩

set_option maxHeartbeats 1000000 in
theorem law_DigestStringsExtends (w : World) (v0 : Value) (l0 : List ByteArray) (s : ByteArray) (H0 : Strs w v0 l0 ∧ l0.length * 16 ≤ 140737488351232) (hm : s.size ≤ maxLen) (_hs : s.data.toList.length ≤ reachBytes) :
    Calls Try.prog 8 #[v0, .string s] w fun e w' => e = .returned (.bool true) ∧ Below w.heap.size w w' := by
  obtain ⟨H0, B0⟩ := H0
  replace H0 := Lib.hid H0
  replace hm := Lib.hid hm
  clear _hs
  have hall : Hid (∀ t ∈ l0 ++ [s], t.size ≤ maxLen) := by
    intro t ht
    rcases List.mem_append.1 ht with h | h
    · exact H0.out.2 t h
    · simp at h; rw [h]; exact hm.out
  go_enter Try.func8, Try.ntmps8
  go_wp2_with fail
  with_reducible refine Calls.mono (Strings_any _ _ l0 H0.out) ?_
  rintro e w1 ⟨rfl, b1⟩
  have z1 := b1.size
  have e1 : Below w.heap.size w w1 := (by repeat (first | exact Below.refl _ _ | assumption | apply extAlloc | apply extDrewN | apply extDrew | (refine extStep ?_ (by assumption) (by first | (simp; done) | (simp; omega) | omega)) | (refine extCall ?_ (by assumption)) | (refine extSet ?_ (by first | (simp; done) | (simp; omega) | omega) _)))
  go_wp2_with (refine wpList_conv_sb rfl 9 22 5 (.tmp 19) rfl rfl Try.underlying9 Try.underlying22 Try.underlying5 hm.out ?_; intro x1 w2 o1 b2; have z2 := b2.size; simp at z2)
  with_reducible refine Calls.mono (of_any _ _ _ o1) ?_
  rintro e w3 ⟨rfl, b3⟩
  have z3 := b3.size
  have e3 : Below w.heap.size w w3 := (by repeat (first | exact Below.refl _ _ | assumption | apply extAlloc | apply extDrewN | apply extDrew | (refine extStep ?_ (by assumption) (by first | (simp; done) | (simp; omega) | omega)) | (refine extCall ?_ (by assumption)) | (refine extSet ?_ (by first | (simp; done) | (simp; omega) | omega) _)))
  have B1 := ((Blk.new w1 #[.int .i64 (strC l0), .int .i64 (strI l0)] 24).call b2).call b3
  go_wp2_with (first | (at_builtin; refine app_strs rfl (.tmp 25) (.tmp 26) rfl (w3.heap.size + 1) rfl rfl (OwnStrs.made (by simp) (by omega)) (H0.out.mono (by exact (by repeat (first | exact Below.refl _ _ | assumption | apply extAlloc | apply extDrewN | apply extDrew | (refine extStep ?_ (by assumption) (by first | (simp; done) | (simp; omega) | omega)) | (refine extCall ?_ (by assumption)) | (refine extSet ?_ (by first | (simp; done) | (simp; omega) | omega) _))))) (by first | (simp; done) | (simp; omega) | omega) (by first | (simp; done) | (simp; omega) | omega) ?_; intro x3 w4 o3 gw4 b4; (try simp only [List.nil_append] at o3); have zw4 := gw4.size; simp at zw4) | (at_builtin; refine app_strs rfl (.tmp 27) (.tmp 29) rfl (w3.heap.size + 1) rfl rfl (o3.alloc) (strs_one s (by simp) hm.out) (by first | (simp; done) | (simp; omega) | omega) (by first | (simp; done) | (simp; omega) | omega) ?_; intro x4 w5 o4 gw5 b5; (try simp only [List.nil_append] at o4); have zw5 := gw5.size; simp at zw5) | fail)
  with_reducible refine Calls.mono (Strings_any _ _ _ (o4.strs hall.out)) ?_
  rintro e w6 ⟨rfl, b6⟩
  have z6 := b6.size
  have e6 : Below w.heap.size w w6 := (by repeat (first | exact Below.refl _ _ | assumption | apply extAlloc | apply extDrewN | apply extDrew | (refine extStep ?_ (by assumption) (by first | (simp; done) | (simp; omega) | omega)) | (refine extCall ?_ (by assumption)) | (refine extSet ?_ (by first | (simp; done) | (simp; omega) | omega) _)))
  have G1 := ((((((B1.alloc (.cells #[.int .i64 (ofC s.data.toList), .int .i64 0] 24)).alloc (.cells #[] 9)).mono b4 (by have := B1.lt; omega)).alloc _).mono b5 (by have := B1.lt; omega)).call b6)
  have G2 := ((((((Blk.new w3 #[.int .i64 (ofC s.data.toList), .int .i64 0] 24).alloc (.cells #[] 9)).mono b4 (by omega)).alloc _).mono b5 (by omega)).call b6)
  have y1 := G1.lt
  have y2 := G2.lt
  replace G1 := G1.cell 0
  replace G2 := G2.cell 0
  clear o1 o3 o4 B1 gw4 gw5 b2 b3 b4 b5
  rcases str_cases l0 s with h | ⟨h, h'⟩ | ⟨h, h', h''⟩ | ⟨h, h', h'', h3, h4⟩
  all_goals
    go_wp2_with (first | (go_at_call 12; with_reducible refine Calls.mono (Pair_any _ _ _) ?_; rintro e w7 ⟨rfl, b7⟩) | (go_at_call 10; with_reducible refine Calls.mono (closed_any _) ?_; rintro e w9 ⟨rfl, b9⟩))
    go_ret
    exact ⟨rfl, (by repeat (first | exact Below.refl _ _ | assumption | apply extAlloc | apply extDrewN | apply extDrew | (refine extStep ?_ (by assumption) (by first | (simp; done) | (simp; omega) | omega)) | (refine extCall ?_ (by assumption)) | (refine extSet ?_ (by first | (simp; done) | (simp; omega) | omega) _)))⟩
end Go.Proofs.Ytkokleicgpimbaa
