/- The sets of a query while they are made, as plain data. -/
import Derived.Test.YtgdlbpihkodeoaaQvPure
namespace Go.Proofs.Ytgdlbpihkodeoaa
open Go.RowKit

/-- a node whose operands are earlier nodes, of the kinds that the laws ask -/
def evOkN (k : Nat) (n : Nd) : Prop :=
  (ary n.1 = 0 ∧ (n.1 = 2 ∨ n.1 = 3)) ∨ (ary n.1 = 1 ∧ (n.1 = 8 ∨ n.1 = 12) ∧ 0 ≤ n.2.2.1 ∧ n.2.2.1 < k) ∨
    (ary n.1 = 2 ∧ (n.1 = 14 ∨ n.1 = 15 ∨ n.1 = 16) ∧ (0 ≤ n.2.2.1 ∧ n.2.2.1 < k) ∧ 0 ≤ n.2.2.2 ∧ n.2.2.2 < k)
def EvOk (ns : List Nd) : Prop := ∀ k (h : k < ns.length), evOkN k ns[k]
noncomputable def stS (l : List Cm) (ns : List Nd) (k : Nat) : List (List Bool) := evQ l [] (ns.take k) ++ List.replicate (ns.length - k) []
theorem evQ_tlen {l : List Cm} {ns : List Nd} {k : Nat} (h : k ≤ ns.length) : (evQ l [] (ns.take k)).length = k := by
  rw [evQ_len, List.length_take, List.length_nil]; omega
theorem stS_len {l : List Cm} {ns : List Nd} {k : Nat} (h : k ≤ ns.length) : (stS l ns k).length = ns.length := by
  unfold stS
  rw [List.length_append, evQ_tlen h, List.length_replicate]; omega
theorem stS_0 (l : List Cm) (ns : List Nd) : stS l ns 0 = List.replicate ns.length [] := rfl
theorem stS_get {l : List Cm} {ns : List Nd} {k j : Nat} (h : k ≤ ns.length) (hj : j < k) : (stS l ns k).getD j [] = (evQ l [] (ns.take k)).getD j [] := by
  unfold stS
  exact getD_app_l (by rw [evQ_tlen h]; exact hj)
theorem stS_next {l : List Cm} {ns : List Nd} {k : Nat} (h : k < ns.length) : (stS l ns k).take k ++ evN l (evQ l [] (ns.take k)) ns[k] :: (stS l ns k).drop (k + 1) = stS l ns (k + 1) := by
  have hl := evQ_tlen (l := l) (Nat.le_of_lt h)
  unfold stS
  rw [evQ_take h]
  have e1 : (evQ l [] (ns.take k) ++ List.replicate (ns.length - k) ([] : List Bool)).take k = evQ l [] (ns.take k) := List.take_left' hl
  have e2 : (evQ l [] (ns.take k) ++ List.replicate (ns.length - k) ([] : List Bool)).drop (k + 1) = List.replicate (ns.length - (k + 1)) [] := by
    rw [List.drop_append, hl, List.drop_eq_nil_of_le (by omega), List.nil_append, List.drop_replicate]
    congr 1
    omega
  rw [e1, e2, List.append_assoc]
  rfl
theorem evN_len {l : List Cm} {ss : List (List Bool)} {n : Nd} {k : Nat} (hn : evOkN k n) (hs : ss.length = k) (h : ∀ s ∈ ss, s.length = l.length) : (evN l ss n).length = l.length := by
  have hg : ∀ j : Int, 0 ≤ j → j < k → (ss.getD j.toNat []).length = l.length := fun j h0 h1 => by
    rw [List.getD_eq_getElem?_getD, List.getElem?_eq_getElem (by omega)]
    exact h _ (List.getElem_mem _)
  unfold evN
  rcases hn with ⟨e, -⟩ | ⟨e, -, h0, h1⟩ | ⟨e, -, ⟨h0, h1⟩, -⟩
  · rw [if_pos e]; exact tabB_len _ _
  · rw [if_neg (by omega), if_pos e]; exact unB_len (hg _ h0 h1)
  · rw [if_neg (by omega), if_neg (by omega)]; unfold biB; rw [tabB_len]; exact hg _ h0 h1
theorem evQ_mem {l : List Cm} {ns : List Nd} (ho : EvOk ns) : ∀ k, k ≤ ns.length → ∀ s ∈ evQ l [] (ns.take k), s.length = l.length
  | 0, _, s, hs => by rw [List.take_zero] at hs; cases hs
  | k + 1, hk, s, hs => by
    rw [evQ_take (by omega)] at hs
    have ih := evQ_mem (l := l) ho k (by omega)
    rcases List.mem_append.1 hs with hs | hs
    · exact ih s hs
    · rw [List.mem_singleton] at hs
      rw [hs]
      exact evN_len (ho k (by omega)) (evQ_tlen (by omega)) ih
theorem stS_glen {l : List Cm} {ns : List Nd} (ho : EvOk ns) {k : Nat} (hk : k ≤ ns.length) {j : Nat} (hj : j < k) : ((stS l ns k).getD j []).length = l.length := by
  rw [stS_get hk hj, List.getD_eq_getElem?_getD, List.getElem?_eq_getElem (by rw [evQ_tlen hk]; exact hj)]
  exact evQ_mem ho k hk _ (List.getElem_mem _)
theorem evN_get {l : List Cm} {ns : List Nd} {k : Nat} (hk : k ≤ ns.length) {n : Nd} (hn : evOkN k n) : evN l (evQ l [] (ns.take k)) n = evN l (stS l ns k) n := by
  unfold evN
  rcases hn with ⟨e, -⟩ | ⟨e, -, h0, h1⟩ | ⟨e, -, ⟨h0, h1⟩, h2, h3⟩
  · rw [if_pos e, if_pos e]
  · rw [if_neg (by omega), if_pos e, if_neg (by omega), if_pos e, stS_get hk (by omega)]
  · rw [if_neg (by omega), if_neg (by omega), if_neg (by omega), if_neg (by omega), stS_get hk (by omega), stS_get hk (by omega)]
noncomputable def evR (l : List Cm) (ns : List Nd) : List Bool := (evQ l [] ns).getD (ns.length - 1) []
theorem stS_n (l : List Cm) (ns : List Nd) : stS l ns ns.length = evQ l [] ns := by
  unfold stS
  rw [List.take_length, Nat.sub_self, List.replicate_zero, List.append_nil]
structure EvPre (l : List Cm) (ns : List Nd) : Prop where
  hc : hC l = 0
  ok : QOk ns
  ev : EvOk ns
theorem Qx.evOk_at : ∀ (t : Qx) (b : Nat), t.good → ∀ k (h : k < (t.at b).length), evOkN (b + k) (t.at b)[k]
  | .none, b, _, k, h => by
    have h : k < 1 := h
    obtain rfl : k = 0 := by omega
    exact .inl ⟨rfl, .inl rfl⟩
  | .com n, b, _, k, h => by
    have h : k < 1 := h
    obtain rfl : k = 0 := by omega
    exact .inl ⟨rfl, .inr rfl⟩
  | .un q a, b, hg, k, h => by
    obtain ⟨hk, ha⟩ := hg
    have hp := a.pos
    have hl := a.at_len b
    simp only [Qx.at, List.length_append, List.length_cons, List.length_nil] at h
    simp only [Qx.at]
    by_cases e : k < (a.at b).length
    · rw [List.getElem_append_left e]; exact Qx.evOk_at a b ha k e
    · rw [List.getElem_append_right (by omega)]
      simp only [List.getElem_singleton]
      exact .inr (.inl ⟨ary_un hk, hk, by show 0 ≤ (b : Int) + a.size - 1; omega, by show (b : Int) + a.size - 1 < ((b + k : Nat) : Int); omega⟩)
  | .bi q x y, b, hg, k, h => by
    obtain ⟨hk, hx, hy⟩ := hg
    have hp1 := x.pos
    have hp2 := y.pos
    have hl1 := x.at_len b
    have hl2 := y.at_len (b + x.size)
    simp only [Qx.at, List.length_append, List.length_cons, List.length_nil] at h
    simp only [Qx.at]
    by_cases e : k < (x.at b).length
    · rw [List.getElem_append_left (by rw [List.length_append]; omega), List.getElem_append_left e]; exact Qx.evOk_at x b hx k e
    · by_cases e2 : k < (x.at b).length + (y.at (b + x.size)).length
      · rw [List.getElem_append_left (by rw [List.length_append]; exact e2), List.getElem_append_right (by omega)]
        have := Qx.evOk_at y (b + x.size) hy (k - (x.at b).length) (by omega)
        rwa [show b + x.size + (k - (x.at b).length) = b + k by omega] at this
      · rw [List.getElem_append_right (by rw [List.length_append]; omega)]
        simp only [List.getElem_singleton]
        exact .inr (.inr ⟨ary_bi hk, hk, ⟨by show 0 ≤ (b : Int) + x.size - 1; omega, by show (b : Int) + x.size - 1 < ((b + k : Nat) : Int); omega⟩, by show 0 ≤ (b : Int) + x.size + y.size - 1; omega, by show (b : Int) + x.size + y.size - 1 < ((b + k : Nat) : Int); omega⟩)
theorem Qx.evPre {t : Qx} {l : List Cm} (hc : hC l = 0) (hg : t.good) (h : t.size ≤ 40) : EvPre l (t.at 0) :=
  ⟨hc, Qx.qok hg h, fun k hk => by have := Qx.evOk_at t 0 hg k hk; rwa [Nat.zero_add] at this⟩
theorem Qx.evR {t : Qx} {l : List Cm} (hg : t.good) : evR l (t.at 0) = t.ev l := by
  have h := Qx.evQ_at l t [] hg
  unfold Go.Proofs.Ytgdlbpihkodeoaa.evR
  rw [show (0 : Nat) = ([] : List (List Bool)).length from rfl, h, List.nil_append, Qx.at_len]
  exact Qx.all_last l t
end Go.Proofs.Ytgdlbpihkodeoaa
