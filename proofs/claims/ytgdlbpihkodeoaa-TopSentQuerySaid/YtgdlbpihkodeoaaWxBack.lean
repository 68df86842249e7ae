/- slices.Backward over commits: the iterator only reads. -/
import Derived.Test.YtgdlbpihkodeoaaRgTurn
import Derived.Test.YtgdlbpihkodeoaaQuPure
import Derived.Test.YtgdlbpihkodeoaaSxTab
import Derived.LoopIn
import Derived.WalkKit
import Derived.OwnWalkIn
import Derived.TacticsInMore
namespace Go.Proofs.Ytgdlbpihkodeoaa
open Go.RowKit
set_option maxRecDepth 100000
set_option linter.unusedSimpArgs false

theorem cm_cells {w : World} {A : Nat → Prop} {x : Cm} {cs : List Value} (h : tCm.rd w A x cs) : ∃ pa pl pc, cs = [.slice pa pl pc, .int .i64 x.2.1, .int .i64 x.2.2.1, .int .i64 x.2.2.2.1, .string x.2.2.2.2] := by
  obtain ⟨c1, r1, rfl, ⟨pa, pc, rfl, _⟩, c2, r2, rfl, ⟨rfl, _⟩, c3, r3, rfl, ⟨rfl, _⟩, c4, c5, rfl, ⟨rfl, _⟩, rfl, _⟩ := h
  exact ⟨pa, _, pc, rfl⟩
abbrev x1C (k : Nat) : AV := .v false [.d (.int .i64) (k : Int)]
abbrev x2C (l : List Cm) (k : Nat) : AV := .v true (tCm.leaves (l.getD k tCm.dflt))
/-- what a round reads -/
theorem back_reads {F : Fr} {n : Nat} {sl : Nat → AV} {hp : Nat → Option Ob} {G : Gh} {a : Act} {W : World} {gb tb : Nat} {l : List Cm} (hr : Rep F n sl hp G a W) (hb : hp gb = some (.box 22 [.d (.slice tCm) l])) (hg : boxAt G gb tb) :
    ∃ ao cap, W.cell? ⟨tb, 0, none⟩ = some (.slice ao l.length cap) ∧ l.length ≤ cap ∧ cap ≤ maxLen ∧ ∀ k, k < l.length → ∃ b off c0 c1 c2 c3 c4, ao = some ⟨b, off, none⟩ ∧ W.cell? ⟨b, off + k * 5, none⟩ = some c0 ∧ W.cell? ⟨b, off + k * 5 + 1, none⟩ = some c1 ∧ W.cell? ⟨b, off + k * 5 + 2, none⟩ = some c2 ∧ W.cell? ⟨b, off + k * 5 + 3, none⟩ = some c3 ∧ W.cell? ⟨b, off + k * 5 + 4, none⟩ = some c4 ∧
      (x2C l k).rel W G (Okay F hp G) (.agg #[c0, c1, c2, c3, c4]) := by
  obtain ⟨g, vs, h1, h2, h3, -⟩ := hr.hp.sat _ _ hb
  obtain rfl : g = tb := by
    unfold boxAt at h1 hg
    rw [hg] at h1
    simpa using h1.symm
  obtain ⟨v, r, e1, ⟨ao, cap, e2, q1, q2, q3, q4⟩, e3⟩ := h3
  obtain rfl : r = [] := e3
  cases e2
  obtain rfl : vs = #[.slice ao l.length cap] := by
    rcases vs with ⟨vs⟩
    rw [show vs = _ from e1]
  refine ⟨ao, cap, by rw [Lib.cell_of_heap h2]; rfl, q1, q2, fun k hk => ?_⟩
  obtain ⟨b, off, es, e4, -, -, e5, e6⟩ := q4 k hk
  obtain ⟨pa, pl, pc, e7⟩ := cm_cells e5
  have key : ∀ j (hj : j < es.length), W.cell? ⟨b, off + k * 5 + j, none⟩ = some es[j] := fun j hj => by
    have := e6 j hj
    rw [← Nat.add_assoc] at this
    exact this
  have hx := leaves_rel (G := G) tCm _ _ e5
  subst e7
  refine ⟨b, off, _, _, _, _, _, e4, key 0 (by simp), key 1 (by simp), key 2 (by simp), key 3 (by simp), key 4 (by simp), ?_⟩
  have eg : l.getD k tCm.dflt = l[k] := by rw [List.getD_eq_getElem?_getD, List.getElem?_eq_getElem hk]; rfl
  unfold x2C
  rw [eg]
  exact ⟨_, hx, rfl, fun h => by cases h⟩

set_option maxHeartbeats 2000000 in
theorem back1_in (n : Nat) (hn : 1 ≤ n) {nn : Nat} {sl : Nat → AV} {H : Nat → List HEnt} {a0 : Act} {gb : Nat} {cs : List Cm} (hH : ∀ k, hget (H k) gb = some (.box 22 [.d (.slice tCm) cs])) (l tb : Nat) (J : Nat → World → Prop) (W : World)
    (hJ : ∀ k W1, J k W1 → ∃ F G, Rep F nn sl (hget (H k)) G a0 W1 ∧ boxAt G gb tb)
    (hY : ∀ k W1, J (k + 1) W1 → k < cs.length → ∃ F G, Rep F nn sl (hget (H (k + 1))) G a0 W1 ∧ boxAt G gb tb ∧ ∀ v1 v2, (x1C k).rel W1 G (Okay F (hget (H (k + 1))) G) v1 → (x2C cs k).rel W1 G (Okay F (hget (H (k + 1))) G) v2 →
        YieldAt Fence.wide (n - 1) Try.prog l #[v1, v2] W1 fun e W' => e = .returned (.bool true) ∧ J k W')
    (h0 : J cs.length W) :
    CallsIn Fence.wide n Try.prog 73 #[.func (.yield l) #[] #[], .pointer (some ⟨tb, 0, none⟩)] W fun e W' => (∃ v, e = .returned v) ∧ J 0 W' := by
  refine callsIn_of_wp Try.func73 rfl trivial ?_ rfl
  simp only [Try.ntmps73, List.size_toArray, List.length_cons, List.length_nil, Nat.reduceAdd, Nat.reduceSub, Array.replicate_succ, Array.replicate_zero, List.push_toArray, List.append_toArray, List.nil_append, List.cons_append]
  obtain ⟨F, G, hr, hg⟩ := hJ _ _ h0
  obtain ⟨ao, cap, hc0, hle, hmx, -⟩ := back_reads hr (hH _) hg
  have hlen : (cs.length : Int) ≤ 9223372036854775807 := by
    have : maxLen ≤ 9223372036854775807 := by decide
    omega
  clear hr hg F G
  gi_wp2
  gi_loopw [3] (fun i wr => ∃ (i0 : Int) (k : Nat), i = .int .i64 i0 ∧ i0 = (k : Int) - 1 ∧ k ≤ cs.length ∧ J k wr)
    (fun i _ => ((intOf i) + 1).toNat)
  case atStart => exact ⟨_, cs.length, rfl, rfl, Nat.le_refl _, h0⟩
  case round =>
    obtain ⟨i0, k, rfl, hi, hk, hj⟩ := hrel
    cases k with
    | zero =>
      obtain rfl : i0 = -1 := by omega
      clear hi hk hY hJ
      gi_wp2
      go_end0
      exact ⟨⟨_, rfl⟩, hj⟩
    | succ k =>
      obtain rfl : i0 = (k : Int) := by push_cast at hi; omega
      obtain ⟨F, G, hr, hg, hy0⟩ := hY k wr hj (by omega)
      obtain ⟨ao, cap, hc0, hle, hmx, hrd⟩ := back_reads hr (hH _) hg
      obtain ⟨b, off, c0, c1, c2, c3, c4, rfl, k0, k1, k2, k3, k4, hx2⟩ := hrd k (by omega)
      have hx1 : (x1C k).rel wr G (Okay F (hget (H (k + 1))) G) (.int .i64 (k : Int)) := AV.rel_of ⟨rfl, by show (-9223372036854775808 : Int) ≤ k; omega, by show (k : Int) ≤ 9223372036854775807; omega⟩
      obtain ⟨fn, tmps, assign, body, hy, hR⟩ := hy0 _ _ hx1 hx2
      clear hi hY hJ hy0 hx1 hx2 hrd hr hg F G
      gi_wp2
      refine hR.mono ?_
      rintro e W3 ⟨rfl, hJ3⟩
      gi_wp2
      go_roundw
      case rel => exact ⟨(k : Int) - 1, k, by simp, rfl, by omega, hJ3⟩
      case measure => simp [intOf]
end Go.Proofs.Ytgdlbpihkodeoaa
