/- lines.pieces, lines.Split: a range over a function whose state lies in a captured box. -/
import Derived.Test.YtehdgnnelabajaaRfBox
import Derived.Test.YtehdgnnelabajaaWxCut
import Derived.Test.YtehdgnnelabajaaWxLin
import Derived.Test.YtehdgnnelabajaaWxClone
import Derived.Test.YtehdgnnelabajaaLnPure
import Derived.Test.YtehdgnnelabajaaOpenTy
import Derived.LoopIn
namespace Go.Proofs.Ytehdgnnelabajaa
open Go.RowKit
set_option maxRecDepth 100000
set_option linter.unusedSimpArgs false

/-- the lines of a text -/
def pcsN : Nat → ByteArray → List ByteArray
  | 0, _ => []
  | n + 1, s => if s.size = 0 then [] else cutA s :: pcsN n (cutB s)
def pcs (s : ByteArray) : List ByteArray := pcsN s.size s
theorem cutB_lt (s : ByteArray) (h : s.size ≠ 0) : (cutB s).size < s.size := by
  unfold cutB
  split
  · rename_i q
    have := nlIx_lt s
    rw [ByteArray.size_extract]
    omega
  · show 0 < s.size
    omega
theorem cutB_le (s : ByteArray) : (cutB s).size ≤ s.size := by
  by_cases h : s.size = 0
  · unfold cutB
    split
    · rw [ByteArray.size_extract]; omega
    · exact Nat.zero_le _
  · exact Nat.le_of_lt (cutB_lt s h)
theorem pcsN_more : ∀ (n m : Nat) (s : ByteArray), s.size ≤ n → s.size ≤ m → pcsN n s = pcsN m s
  | 0, 0, _, _, _ => rfl
  | 0, m + 1, s, h, _ => by
    have : s.size = 0 := by omega
    simp [pcsN, this]
  | n + 1, 0, s, _, h => by
    have : s.size = 0 := by omega
    simp [pcsN, this]
  | n + 1, m + 1, s, h1, h2 => by
    unfold pcsN
    by_cases h : s.size = 0
    · simp [h]
    · have := cutB_lt s h
      rw [if_neg h, if_neg h, pcsN_more n m (cutB s) (by omega) (by omega)]
theorem pcs_nil {s : ByteArray} (h : s.size = 0) : pcs s = [] := by unfold pcs; rw [h]; rfl
theorem pcs_step {s : ByteArray} (h : s.size ≠ 0) : pcs s = cutA s :: pcs (cutB s) := by
  have h1 := cutB_lt s h
  unfold pcs
  obtain ⟨n, hn⟩ : ∃ n, s.size = n + 1 := ⟨s.size - 1, by omega⟩
  rw [hn]
  show (if s.size = 0 then [] else cutA s :: pcsN n (cutB s)) = _
  rw [if_neg h, pcsN_more n (cutB s).size (cutB s) (by omega) (Nat.le_refl _)]

theorem pieces_any (s : ByteArray) (w : World) : Calls Try.prog 33 #[.string s] w fun e w' => e = .returned (.func (.func 60) #[] #[.pointer (some ⟨w.heap.size, 0, none⟩)]) ∧ w' = w.alloc (.cells #[.string s] 9) := by
  go_enter Try.func33, Try.ntmps33
  go_wp2
  go_ret
  exact ⟨rfl, rfl⟩

/-- a spec of data, as a contract -/
theorem pure_any {f : FuncId} {bw : Bool} {ts : List Ty} {pre : dens ts → Prop} {res : dens ts → AV} (h : SpFact f (pureSp bw ts pre res)) (W : World) (xs : dens ts) (vals : List Value) (hp : pre xs)
    (ha : ∀ G, relAs W G (fun _ => True) (argAV ts xs) vals) (hx : argsOf (fun _ => none) ts (argAV ts xs) = some xs) : Calls Try.prog f vals.toArray W fun e w' => ∃ v G' A', e = .returned v ∧ Below W.heap.size W w' ∧ (res xs).rel w' G' A' v := by
  obtain ⟨fn, _, _, _, hsp⟩ := h.fn
  let F : Fr := ⟨W, fun _ => True, fun _ => False, fun _ => undef⟩
  let G : Gh := ⟨fun _ => undef, fun _ _ => False⟩
  have hr : RepH F (fun _ => none) G W := ⟨fun b ob h => (by cases h), fun b c ob oc _ h => (by cases h), fun b ob h => (by cases h), Only.refl _ _, fun _ h => h.elim⟩
  have hA : Okay F (fun _ => none) G = fun _ => True := by
    funext k
    have : ¬ Foot (fun _ => none) G k := by rintro ⟨b, ob, h1, _⟩; cases h1
    exact propext ⟨fun _ => trivial, fun _ => ⟨.inl trivial, this⟩⟩
  obtain ⟨_, h2⟩ := hsp 0 (argAV ts xs) (fun _ => none) ⟨pre xs, res xs, [], []⟩ (by unfold pureSp; cases bw <;> (dsimp only; rw [hx])) hp
  refine Calls.mono (h2 F G W vals hr (by rw [hA]; exact ha G)) ?_
  rintro e w' ⟨v, rfl, G', _, q2, q3⟩
  exact ⟨v, G', _, rfl, q2.fr.below (fun _ _ h => h) (Nat.le_refl _), q3⟩

theorem Cut_any (s : ByteArray) (hs : s.size ≤ maxLen) (w : World) : Calls Try.prog 61 #[.string s, .string ⟨#[10]⟩] w fun e w' => e = .returned (.tuple #[.string (cutA s), .string (cutB s), .bool (decide (0 ≤ nlIx s))]) ∧ Below w.heap.size w w' := by
  refine Calls.mono (pure_any Cut_sp w (s, nlS, ()) [.string s, .string nlS] rfl (fun G => ⟨_, _, rfl, AV.rel_of (l := .d .str s) ⟨rfl, hs⟩, _, _, rfl, AV.rel_of (l := .d .str nlS) ⟨rfl, by decide⟩, rfl⟩) rfl) ?_
  rintro e w' ⟨v, G', A', rfl, hb, ⟨vs, rfl, v1, r1, rfl, q1, v2, r2, rfl, q2, v3, r3, rfl, q3, rfl⟩⟩
  obtain ⟨h1, -⟩ := AV.one_rel (x := .v false [.d .str (cutA s)]) rfl q1
  obtain ⟨h2, -⟩ := AV.one_rel (x := .v false [.d .str (cutB s)]) rfl q2
  have h3 := AV.one_rel (x := .v false [.d .bool (decide (0 ≤ nlIx s))]) rfl q3
  have h3 : [v3] = [Value.bool (decide (0 ≤ nlIx s))] := h3
  cases h1
  cases h2
  cases h3
  exact ⟨rfl, hb⟩

def boxSz (tb : Nat) (w : World) : Nat := match w.cell? ⟨tb, 0, none⟩ with | some (.string r) => r.size | _ => 0
theorem boxSz_eq {tb : Nat} {w : World} {r : ByteArray} {T : TypeId} (h : w.heap[tb]? = some (.cells #[.string r] T (0, 0))) : boxSz tb w = r.size := by
  have c : w.cell? ⟨tb, 0, none⟩ = some (.string r) := by rw [Lib.cell_of_heap h]; rfl
  unfold boxSz
  rw [c]
theorem heap_set_box {w : World} {b : Nat} {v : Value} {T : TypeId} (v' : Value) (h : w.heap[b]? = some (.cells #[v] T (0, 0))) : (w.setCell ⟨b, 0, none⟩ v').heap[b]? = some (.cells #[v'] T (0, 0)) := by
  simp [World.setCell, Array.getElem?_modify, h]

set_option maxHeartbeats 1000000 in
theorem pieces1_in (n : Nat) (hn : 1 ≤ n) (l tb N : Nat) (J : List ByteArray → World → Prop) (hJ : AbT tb J)
    (hY : ∀ pre x W, J pre W → pre.length < N → YieldAt Fence.wide (n - 1) Try.prog l #[.string x] W fun e W' => e = .returned (.bool true) ∧ J (pre ++ [x]) W' ∧ W'.heap[tb]? = W.heap[tb]?)
    (s : ByteArray) (hs : s.size ≤ maxLen) (hN : s.size ≤ N) (W : World) (hW : W.heap[tb]? = some (.cells #[.string s] 9 (0, 0))) (h0 : J [] W) :
    CallsIn Fence.wide n Try.prog 60 #[.func (.yield l) #[] #[], .pointer (some ⟨tb, 0, none⟩)] W fun e W' => (∃ v, e = .returned v) ∧ J (pcs s) W' := by
  refine callsIn_of_wp Try.func60 rfl trivial ?_ rfl
  simp only [Try.ntmps60, List.size_toArray, List.length_cons, List.length_nil, Nat.reduceAdd, Nat.reduceSub, Array.replicate_succ, Array.replicate_zero, List.push_toArray, List.append_toArray, List.nil_append, List.cons_append]
  gi_wp2
  gi_loopw [3] (fun _ wr => ∃ (r : ByteArray) (pre : List ByteArray), wr.heap[tb]? = some (.cells #[.string r] 9 (0, 0)) ∧ pre ++ pcs r = pcs s ∧ pre.length + r.size ≤ s.size ∧ J pre wr)
    (fun _ wr => boxSz tb wr)
  case atStart => exact ⟨s, [], hW, by simp, by simp, h0⟩
  case round =>
    obtain ⟨r, pre, hr, hp, hl, hj⟩ := hrel
    have c0 : wr.cell? ⟨tb, 0, none⟩ = some (.string r) := by rw [Lib.cell_of_heap hr]; rfl
    by_cases h0 : r.size = 0
    · have he : r = ⟨#[]⟩ := by
        rcases r with ⟨⟨d⟩⟩
        have h0 : d.length = 0 := h0
        rw [List.eq_nil_of_length_eq_zero h0]
      subst he
      gi_wp2
      go_end0
      rw [pcs_nil rfl, List.append_nil] at hp
      rw [← hp]
      exact ⟨⟨_, rfl⟩, hj⟩
    · have hsz : r.size ≤ maxLen := by omega
      have hF61 : Fence.wide.fn 61 := trivial
      gi_wp2_with (first
        | (gi_at_call 61
           refine (callsIn_wide.2 (Cut_any r hsz wr)).mono ?_
           rintro e w1 ⟨rfl, hb1⟩
           have hj1 : J pre w1 := hJ _ _ _ hj (only_of_below hb1)
           have hr1 : w1.heap[tb]? = some (.cells #[.string r] 9 (0, 0)) := (hb1.block tb (lt_of_block hr)).trans hr
           obtain ⟨fn, tmps, assign, body, hy, hR⟩ := hY pre (cutA r) w1 hj1 (by omega)
           go_frame)
        | gi_in)
      · refine hR.mono ?_
        rintro e w3 ⟨rfl, hj3, hk3⟩
        have hr3 := hk3.trans hr1
        have c3 : w3.cell? ⟨tb, 0, none⟩ = some (.string r) := by rw [Lib.cell_of_heap hr3]; rfl
        have f3 : w3.frozen? ⟨tb, 0, none⟩ = false := Lib.frozen_of_heap hr3 0
        gi_wp2
        go_roundw
        case rel =>
          refine ⟨cutB r, pre ++ [cutA r], heap_set_box _ hr3, ?_, ?_, hJ _ _ _ hj3 (Only.set (S := fun k => k = tb) (a := ⟨tb, 0, none⟩) (Only.refl _ _) (fun _ => rfl) _)⟩
          · rw [pcs_step h0] at hp
            rw [← hp, List.append_assoc]
            rfl
          · have := cutB_lt r h0
            rw [List.length_append, List.length_cons, List.length_nil]
            omega
        case measure =>
          rw [boxSz_eq (heap_set_box _ hr3), boxSz_eq hr]
          exact cutB_lt r h0
      · exfalso
        rename_i q
        have q : r.toList.isEmpty = true := by simpa using q
        rw [ByteArray.toList_eq] at q
        have q : r.data.toList = [] := by simpa using q
        exact h0 (by have : r.data.toList.length = r.size := rfl; rw [← this, q]; rfl)

end Go.Proofs.Ytehdgnnelabajaa
