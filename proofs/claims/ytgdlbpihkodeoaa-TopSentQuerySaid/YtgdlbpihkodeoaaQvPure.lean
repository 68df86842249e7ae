/- The check of queries, as plain data: the nodes that are no operands yet. -/
import Derived.Test.YtgdlbpihkodeoaaWxChk
import Derived.Test.YtgdlbpihkodeoaaEvPure
namespace Go.Proofs.Ytgdlbpihkodeoaa
open Go.RowKit

def pushR (b : Nat) (rs : List Int) (n : Nd) : List Int := rs.take (rs.length - ary n.1) ++ [(b : Int)]
theorem pushR_len (b : Nat) (rs : List Int) (n : Nd) : (pushR b rs n).length ≤ rs.length + 1 := by
  unfold pushR
  rw [List.length_append, List.length_take, List.length_singleton]
  omega
def okR : Nat → List Int → List Nd → Prop
  | _, _, [] => True
  | b, rs, n :: ns => ckPre n rs ∧ okR (b + 1) (pushR b rs n) ns
def stkR : Nat → List Int → List Nd → List Int
  | _, rs, [] => rs
  | b, rs, n :: ns => stkR (b + 1) (pushR b rs n) ns
theorem okR_drop {b k : Nat} {rs : List Int} {ns : List Nd} (hk : k < ns.length) (h : okR b rs (ns.drop k)) : ckPre ns[k] rs ∧ okR (b + 1) (pushR b rs ns[k]) (ns.drop (k + 1)) := by
  rw [List.drop_eq_getElem_cons hk] at h
  exact h
theorem stkR_drop {b k : Nat} {rs : List Int} {ns : List Nd} (hk : k < ns.length) : stkR b rs (ns.drop k) = stkR (b + 1) (pushR b rs ns[k]) (ns.drop (k + 1)) := by
  rw [List.drop_eq_getElem_cons hk]
  rfl
theorem getD_end {rs : List Int} {x : Int} {i : Nat} (h : i = rs.length) (r : List Int) : (rs ++ x :: r).getD i 0 = x := by
  subst h
  rw [List.getD_eq_getElem?_getD, List.getElem?_append_right (Nat.le_refl _), Nat.sub_self]
  rfl
/-- a query's nodes pass, and leave its root -/
theorem Qx.okR_at : ∀ (t : Qx) (b : Nat) (rs : List Int) (rest : List Nd), t.good → rs.length ≤ b → b + t.size ≤ 40 → okR (b + t.size) (rs ++ [(b : Int) + t.size - 1]) rest → okR b rs (t.at b ++ rest)
  | .none, b, rs, rest, _, hb, h40, h => by
    have h40 : b + 1 ≤ 40 := h40
    refine ⟨⟨by decide, by decide, Nat.zero_le _, by omega, rfl, rfl⟩, ?_⟩
    have e : pushR b rs (2, 0, 0, 0) = rs ++ [(b : Int) + (1 : Nat) - 1] := by
      show rs.take (rs.length - 0) ++ [(b : Int)] = _
      rw [Nat.sub_zero, List.take_length, show (b : Int) + (1 : Nat) - 1 = b by omega]
    rw [e]
    exact h
  | .com n, b, rs, rest, hg, hb, h40, h => by
    have h40 : b + 1 ≤ 40 := h40
    refine ⟨⟨by show (1:Int) ≤ 3 ∧ (3:Int) ≤ 16; omega, hg, Nat.zero_le _, by omega, rfl, rfl⟩, ?_⟩
    have e : pushR b rs (3, n, 0, 0) = rs ++ [(b : Int) + (1 : Nat) - 1] := by
      show rs.take (rs.length - 0) ++ [(b : Int)] = _
      rw [Nat.sub_zero, List.take_length, show (b : Int) + (1 : Nat) - 1 = b by omega]
    rw [e]
    exact h
  | .un k a, b, rs, rest, hg, hb, h40, h => by
    obtain ⟨hk, ha⟩ := hg
    have hp := a.pos
    have h40 : b + (a.size + 1) ≤ 40 := h40
    have hk1 : ary k = 1 := ary_un hk
    show okR b rs ((a.at b ++ [(k, 0, (b : Int) + a.size - 1, 0)]) ++ rest)
    rw [List.append_assoc]
    refine Qx.okR_at a b rs _ ha hb (by omega) ⟨⟨?_, ?_, ?_, ?_, ?_, ?_⟩, ?_⟩
    · show 1 ≤ k ∧ k ≤ 16; omega
    · show 0 ≤ (0 : Int) ∧ 0 ≤ most k
      rcases hk with rfl | rfl <;> decide
    · show ary k ≤ _; rw [hk1, List.length_append, List.length_singleton]; omega
    · rw [List.length_append, List.length_singleton]; omega
    · show (b : Int) + a.size - 1 = wantAt _ (ary k) 0
      rw [hk1]
      unfold wantAt
      rw [if_pos (by omega), getD_end (by rw [List.length_append, List.length_singleton]; omega)]
    · show (0 : Int) = wantAt _ (ary k) 1
      rw [hk1]
      rfl
    · have e : pushR (b + a.size) (rs ++ [(b : Int) + a.size - 1]) (k, 0, (b : Int) + a.size - 1, 0) = rs ++ [(b : Int) + ((a.size + 1 : Nat) : Int) - 1] := by
        show (rs ++ _).take ((rs ++ _).length - ary k) ++ [((b + a.size : Nat) : Int)] = _
        rw [hk1, List.length_append, List.length_singleton, Nat.add_sub_cancel, List.take_left, show ((b + a.size : Nat) : Int) = (b : Int) + ((a.size + 1 : Nat) : Int) - 1 by omega]
      rw [e]
      exact h
  | .bi k x y, b, rs, rest, hg, hb, h40, h => by
    obtain ⟨hk, hx, hy⟩ := hg
    have hp1 := x.pos
    have hp2 := y.pos
    have h40 : b + (x.size + y.size + 1) ≤ 40 := h40
    have hk1 : ary k = 2 := ary_bi hk
    show okR b rs ((x.at b ++ y.at (b + x.size) ++ [(k, 0, (b : Int) + x.size - 1, (b : Int) + x.size + y.size - 1)]) ++ rest)
    rw [List.append_assoc, List.append_assoc]
    refine Qx.okR_at x b rs _ hx hb (by omega) (Qx.okR_at y (b + x.size) _ _ hy (by rw [List.length_append, List.length_singleton]; omega) (by omega) ⟨⟨?_, ?_, ?_, ?_, ?_, ?_⟩, ?_⟩)
    · show 1 ≤ k ∧ k ≤ 16; omega
    · show 0 ≤ (0 : Int) ∧ 0 ≤ most k
      rcases hk with rfl | rfl | rfl <;> decide
    · show ary k ≤ _; rw [hk1, List.length_append, List.length_append, List.length_singleton, List.length_singleton]; omega
    · rw [List.length_append, List.length_append, List.length_singleton, List.length_singleton]; omega
    · show (b : Int) + x.size - 1 = wantAt _ (ary k) 0
      rw [hk1]
      unfold wantAt
      rw [if_pos (by omega), List.append_assoc]
      exact (getD_end (by rw [List.length_append]; simp) _).symm
    · show (b : Int) + x.size + y.size - 1 = wantAt _ (ary k) 1
      rw [hk1]
      unfold wantAt
      rw [if_pos (by omega), getD_end (by rw [List.length_append, List.length_append]; simp)]
      push_cast
      rfl
    · have e : pushR (b + x.size + y.size) (rs ++ [(b : Int) + x.size - 1] ++ [((b + x.size : Nat) : Int) + y.size - 1]) (k, 0, (b : Int) + x.size - 1, (b : Int) + x.size + y.size - 1) = rs ++ [(b : Int) + ((x.size + y.size + 1 : Nat) : Int) - 1] := by
        show (rs ++ _ ++ _).take ((rs ++ _ ++ _).length - ary k) ++ [((b + x.size + y.size : Nat) : Int)] = _
        rw [hk1, List.length_append, List.length_append, List.length_singleton, List.length_singleton, show rs.length + 1 + 1 - 2 = rs.length by omega, List.append_assoc, List.take_left, show ((b + x.size + y.size : Nat) : Int) = (b : Int) + ((x.size + y.size + 1 : Nat) : Int) - 1 by omega]
      rw [e, show b + x.size + y.size + 1 = b + (x.size + y.size + 1) by omega]
      exact h
theorem Qx.stkR_at : ∀ (t : Qx) (b : Nat) (rs : List Int) (rest : List Nd), t.good → stkR b rs (t.at b ++ rest) = stkR (b + t.size) (rs ++ [(b : Int) + t.size - 1]) rest
  | .none, b, rs, rest, _ => by
    have e : pushR b rs (2, 0, 0, 0) = rs ++ [(b : Int) + (1 : Nat) - 1] := by
      show rs.take (rs.length - 0) ++ [(b : Int)] = _
      rw [Nat.sub_zero, List.take_length, show (b : Int) + (1 : Nat) - 1 = b by omega]
    show stkR (b + 1) (pushR b rs (2, 0, 0, 0)) rest = _
    rw [e]
    rfl
  | .com n, b, rs, rest, _ => by
    have e : pushR b rs (3, n, 0, 0) = rs ++ [(b : Int) + (1 : Nat) - 1] := by
      show rs.take (rs.length - 0) ++ [(b : Int)] = _
      rw [Nat.sub_zero, List.take_length, show (b : Int) + (1 : Nat) - 1 = b by omega]
    show stkR (b + 1) (pushR b rs (3, n, 0, 0)) rest = _
    rw [e]
    rfl
  | .un k a, b, rs, rest, hg => by
    obtain ⟨hk, ha⟩ := hg
    have hk1 : ary k = 1 := ary_un hk
    show stkR b rs ((a.at b ++ [(k, 0, (b : Int) + a.size - 1, 0)]) ++ rest) = _
    rw [List.append_assoc, Qx.stkR_at a b rs _ ha]
    have e : pushR (b + a.size) (rs ++ [(b : Int) + a.size - 1]) (k, 0, (b : Int) + a.size - 1, 0) = rs ++ [(b : Int) + ((a.size + 1 : Nat) : Int) - 1] := by
      show (rs ++ _).take ((rs ++ _).length - ary k) ++ [((b + a.size : Nat) : Int)] = _
      rw [hk1, List.length_append, List.length_singleton, Nat.add_sub_cancel, List.take_left, show ((b + a.size : Nat) : Int) = (b : Int) + ((a.size + 1 : Nat) : Int) - 1 by omega]
    show stkR (b + a.size + 1) (pushR _ _ _) rest = _
    rw [e]
    rfl
  | .bi k x y, b, rs, rest, hg => by
    obtain ⟨hk, hx, hy⟩ := hg
    have hk1 : ary k = 2 := ary_bi hk
    show stkR b rs ((x.at b ++ y.at (b + x.size) ++ [(k, 0, (b : Int) + x.size - 1, (b : Int) + x.size + y.size - 1)]) ++ rest) = _
    rw [List.append_assoc, List.append_assoc, Qx.stkR_at x b rs _ hx, Qx.stkR_at y _ _ _ hy]
    have e : pushR (b + x.size + y.size) (rs ++ [(b : Int) + x.size - 1] ++ [((b + x.size : Nat) : Int) + y.size - 1]) (k, 0, (b : Int) + x.size - 1, (b : Int) + x.size + y.size - 1) = rs ++ [(b : Int) + ((x.size + y.size + 1 : Nat) : Int) - 1] := by
      show (rs ++ _ ++ _).take ((rs ++ _ ++ _).length - ary k) ++ [((b + x.size + y.size : Nat) : Int)] = _
      rw [hk1, List.length_append, List.length_append, List.length_singleton, List.length_singleton, show rs.length + 1 + 1 - 2 = rs.length by omega, List.append_assoc, List.take_left, show ((b + x.size + y.size : Nat) : Int) = (b : Int) + ((x.size + y.size + 1 : Nat) : Int) - 1 by omega]
    show stkR (b + x.size + y.size + 1) (pushR _ _ _) rest = _
    rw [e, show b + x.size + y.size + 1 = b + (x.size + y.size + 1) by omega]
    rfl
/-- a query that passes -/
def QOk (ns : List Nd) : Prop := 0 < ns.length ∧ ns.length ≤ 40 ∧ okR 0 [] ns ∧ (stkR 0 [] ns).length = 1
theorem Qx.qok {t : Qx} (hg : t.good) (h : t.size ≤ 40) : QOk (t.at 0) := by
  refine ⟨by rw [Qx.at_len]; exact t.pos, by rw [Qx.at_len]; exact h, ?_, ?_⟩
  · have := Qx.okR_at t 0 [] [] hg (Nat.le_refl _) (by omega) trivial
    rwa [List.append_nil] at this
  · have := Qx.stkR_at t 0 [] [] hg
    rw [List.append_nil] at this
    rw [this]
    rfl
end Go.Proofs.Ytgdlbpihkodeoaa
