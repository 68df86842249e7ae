/- Queries that are joined and wrapped, as plain data. -/
import Derived.Test.YtgdlbpihkodeoaaEvTab
namespace Go.Proofs.Ytgdlbpihkodeoaa
open Go.RowKit

theorem evR_len {l : List Cm} {ns : List Nd} (h : EvPre l ns) : (evR l ns).length = l.length := by
  have := stS_glen (l := l) h.ev (Nat.le_refl ns.length) (j := ns.length - 1) (by have := h.ok.1; omega)
  rw [stS_n] at this
  exact this
def joinP (k : Int) (a b : List Nd) : List Nd := a ++ b.map (ndMv a.length) ++ [(k, 0, (a.length : Int) - 1, (a.length : Int) + b.length - 1)]
def wrapP (k : Int) (a : List Nd) : List Nd := a ++ [(k, 0, (a.length : Int) - 1, 0)]
/-- few nodes, with small numbers of operands -/
structure smN (a : List Nd) : Prop where
  len : a.length ≤ 1000
  ops : ∀ n ∈ a, (0 ≤ n.2.2.1 ∧ n.2.2.1 ≤ 1000) ∧ 0 ≤ n.2.2.2 ∧ n.2.2.2 ≤ 1000
theorem Qx.at_ops : ∀ (t : Qx) (b : Nat), ∀ n ∈ t.at b, (0 ≤ n.2.2.1 ∧ n.2.2.1 ≤ (b + t.size : Nat)) ∧ 0 ≤ n.2.2.2 ∧ n.2.2.2 ≤ (b + t.size : Nat)
  | .none, b, n, h => by
    obtain rfl : n = (2, 0, 0, 0) := by simpa [Qx.at] using h
    exact ⟨⟨Int.le_refl _, by show (0 : Int) ≤ _; omega⟩, Int.le_refl _, by show (0 : Int) ≤ _; omega⟩
  | .com c, b, n, h => by
    obtain rfl : n = (3, c, 0, 0) := by simpa [Qx.at] using h
    exact ⟨⟨Int.le_refl _, by show (0 : Int) ≤ _; omega⟩, Int.le_refl _, by show (0 : Int) ≤ _; omega⟩
  | .un k a, b, n, h => by
    have hp := a.pos
    simp only [Qx.at, Qx.size, List.mem_append, List.mem_singleton] at h ⊢
    rcases h with h | rfl
    · have := Qx.at_ops a b n h; omega
    · dsimp only; omega
  | .bi k x y, b, n, h => by
    have hp1 := x.pos
    have hp2 := y.pos
    simp only [Qx.at, Qx.size, List.mem_append, List.mem_singleton] at h ⊢
    rcases h with (h | h) | rfl
    · have := Qx.at_ops x b n h; omega
    · have := Qx.at_ops y (b + x.size) n h; omega
    · dsimp only; omega
theorem Qx.smN {t : Qx} (h : t.size ≤ 1000) : smN (t.at 0) :=
  ⟨by rw [Qx.at_len]; exact h, fun n hn => by have := Qx.at_ops t 0 n hn; omega⟩
theorem joinP_at {k : Int} {x y : Qx} (hy : y.good) : joinP k (x.at 0) (y.at 0) = (Qx.bi k x y).at 0 := by
  unfold joinP
  rw [Qx.at_len, Qx.at_len, Qx.at_mv y 0 x.size hy]
  simp only [Qx.at]
  rw [show ((0 : Nat) : Int) + x.size = (x.size : Int) by omega]
theorem wrapP_at {k : Int} {x : Qx} : wrapP k (x.at 0) = (Qx.un k x).at 0 := by
  unfold wrapP
  rw [Qx.at_len]
  simp only [Qx.at]
  rw [show ((0 : Nat) : Int) + x.size = (x.size : Int) by omega]
/-- the query for given commits -/
def comQ : List Int → Qx → Qx
  | [], t => t
  | n :: ns, t => comQ ns (.bi 14 t (.com n))
def comK (ns : List Int) : Qx := comQ ns .none
theorem comQ_app (n : Int) : ∀ (ns : List Int) (t : Qx), comQ (ns ++ [n]) t = .bi 14 (comQ ns t) (.com n)
  | [], t => rfl
  | m :: ns, t => comQ_app n ns _
theorem comK_take {ns : List Int} {k : Nat} (hk : k < ns.length) : comK (ns.take (k + 1)) = .bi 14 (comK (ns.take k)) (.com ns[k]) := by
  unfold comK
  rw [List.take_add_one, List.getElem?_eq_getElem hk, Option.toList_some, comQ_app]
theorem comQ_size : ∀ (ns : List Int) (t : Qx), (comQ ns t).size = t.size + 2 * ns.length
  | [], t => rfl
  | n :: ns, t => by
    show (comQ ns _).size = _
    rw [comQ_size ns]
    show t.size + 1 + 1 + 2 * ns.length = t.size + 2 * (ns.length + 1)
    omega
theorem comK_size (ns : List Int) : (comK ns).size = 1 + 2 * ns.length := comQ_size ns .none
theorem comQ_good : ∀ (ns : List Int) (t : Qx), t.good → (∀ n ∈ ns, 0 ≤ n ∧ n ≤ 59) → (comQ ns t).good
  | [], t, h, _ => h
  | n :: ns, t, h, hn => comQ_good ns _ ⟨.inl rfl, h, hn n (by simp)⟩ fun m hm => hn m (by simp [hm])
theorem comK_good {ns : List Int} (hn : ∀ n ∈ ns, 0 ≤ n ∧ n ≤ 59) : (comK ns).good := comQ_good ns _ trivial hn
/-- it selects them -/
theorem comQ_ev (l : List Cm) : ∀ (ns : List Int) (t : Qx) (i : Nat), i < l.length → (((comQ ns t).ev l).getD i false = true ↔ (t.ev l).getD i false = true ∨ ∃ n ∈ ns, n = (i : Int))
  | [], t, i, h => by simp [comQ]
  | n :: ns, t, i, h => by
    show ((comQ ns _).ev l).getD i false = true ↔ _
    rw [comQ_ev l ns _ i h]
    have e : ((Qx.bi 14 t (.com n)).ev l).getD i false = ((t.ev l).getD i false || decide ((i : Int) = n)) := by
      show (biB 14 (t.ev l) ((Qx.com n).ev l)).getD i false = _
      unfold biB
      rw [Qx.ev_len, tabB_at _ h]
      show ((t.ev l).getD i false || ((Qx.com n).ev l).getD i false) = _
      congr 1
      show (tabB _ _).getD i false = _
      rw [tabB_at _ h]
    rw [e, Bool.or_eq_true, decide_eq_true_eq]
    simp only [List.mem_cons]
    constructor
    · rintro ((h | h) | ⟨m, h1, h2⟩)
      · exact .inl h
      · exact .inr ⟨n, .inl rfl, h.symm⟩
      · exact .inr ⟨m, .inr h1, h2⟩
    · rintro (h | ⟨m, rfl | h1, h2⟩)
      · exact .inl (.inl h)
      · exact .inl (.inr h2.symm)
      · exact .inr ⟨m, h1, h2⟩
theorem comK_ev {l : List Cm} {ns : List Int} {i : Nat} (h : i < l.length) : ((comK ns).ev l).getD i false = true ↔ ∃ n ∈ ns, n = (i : Int) := by
  unfold comK
  rw [comQ_ev l ns _ i h]
  have e : ((Qx.none).ev l).getD i false = false := tabB_at _ h
  rw [e]
  simp
end Go.Proofs.Ytgdlbpihkodeoaa
