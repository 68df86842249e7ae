/- history.Of as plain data: marks that go down from commit to commit. No program in sight. -/
import Derived.Test.YtgdlbpihkodeoaaQuPure
namespace Go.Proofs.Ytgdlbpihkodeoaa
open Go.RowKit

def upO (k : Nat) (s : List Bool) (p : Int) : List Bool := s.set p.toNat (s.getD p.toNat false || s.getD k false)
def upS (k : Nat) (ps : List Int) (s : List Bool) : List Bool := ps.foldl (upO k) s
theorem upS_len (k : Nat) : ∀ (ps : List Int) (s : List Bool), (upS k ps s).length = s.length
  | [], s => rfl
  | p :: ps, s => by
    show (upS k ps (upO k s p)).length = _
    rw [upS_len k ps]
    unfold upO
    rw [List.length_set]
theorem upS_take {k : Nat} {ps : List Int} {s : List Bool} {q : Nat} (hq : q < ps.length) : upS k (ps.take (q + 1)) s = upO k (upS k (ps.take q) s) ps[q] := by
  unfold upS
  rw [List.take_add_one, List.getElem?_eq_getElem hq, Option.toList_some, List.foldl_append]
  rfl
def parO (l : List Cm) (k : Nat) : List Int := (l.getD k tCm.dflt).1
/-- the marks when j rounds are over -/
def dnS (l : List Cm) (s : List Bool) : Nat → List Bool
  | 0 => s
  | j + 1 => upS (l.length - 1 - j) (parO l (l.length - 1 - j)) (dnS l s j)
/-- the marks when commits from k on are over -/
def mkO (l : List Cm) (s : List Bool) (k : Nat) : List Bool := dnS l s (l.length - k)
theorem mkO_step {l : List Cm} {s : List Bool} {k : Nat} (hk : k < l.length) : mkO l s k = upS k (parO l k) (mkO l s (k + 1)) := by
  unfold mkO
  obtain ⟨j, hj⟩ : ∃ j, l.length - k = j + 1 := ⟨l.length - k - 1, by omega⟩
  rw [hj, show l.length - (k + 1) = j by omega]
  show upS (l.length - 1 - j) (parO l (l.length - 1 - j)) (dnS l s j) = _
  rw [show l.length - 1 - j = k by omega]
theorem mkO_len {l : List Cm} {s : List Bool} : ∀ k, (mkO l s k).length = s.length := by
  intro k
  unfold mkO
  generalize l.length - k = j
  induction j with
  | zero => rfl
  | succ j ih => show (upS _ _ (dnS l s j)).length = _; rw [upS_len, ih]
def onO (s : List Bool) (n : Int) : List Bool := s.set n.toNat true
def onS (ns : List Int) (s : List Bool) : List Bool := ns.foldl onO s
theorem onS_len : ∀ (ns : List Int) (s : List Bool), (onS ns s).length = s.length
  | [], s => rfl
  | p :: ps, s => by
    show (onS ps (onO s p)).length = _
    rw [onS_len ps]
    unfold onO
    rw [List.length_set]
theorem onS_take {ns : List Int} {s : List Bool} {q : Nat} (hq : q < ns.length) : onS (ns.take (q + 1)) s = onO (onS (ns.take q) s) ns[q] := by
  unfold onS
  rw [List.take_add_one, List.getElem?_eq_getElem hq, Option.toList_some, List.foldl_append]
  rfl
theorem onS_at : ∀ (ns : List Int) (s : List Bool) (i : Nat), (∀ n ∈ ns, 0 ≤ n ∧ n < s.length) → ((onS ns s).getD i false = true ↔ (∃ n ∈ ns, n.toNat = i) ∨ s.getD i false = true)
  | [], s, i, _ => by simp [onS]
  | n :: ns, s, i, h => by
    show (onS ns (onO s n)).getD i false = true ↔ _
    have hn := h n (by simp)
    rw [onS_at ns (onO s n) i (fun m hm => by unfold onO; rw [List.length_set]; exact h m (by simp [hm]))]
    unfold onO
    rw [getD_set s _ _ _ (by omega)]
    by_cases e : n.toNat = i
    · simp [e]
    · rw [if_neg e]
      simp [e]
/-- where the marks begin -/
def stO (l : List Cm) (ns : List Int) : List Bool := onS ns (List.replicate l.length false)
theorem stO_len (l : List Cm) (ns : List Int) : (stO l ns).length = l.length := by unfold stO; rw [onS_len, List.length_replicate]
theorem parO_of {l : List Cm} {k : Nat} (hk : k < l.length) : parO l k = l[k].1 := by
  unfold parO
  rw [List.getD_eq_getElem?_getD, List.getElem?_eq_getElem hk]; rfl
theorem of_all {l : List Cm} {ns : List Int} (hl : ParOk l) (hn : ∀ n ∈ ns, 0 ≤ n ∧ n < l.length) : mkO l (stO l ns) 0 = ancB l ns := by
  have h0 : OfI l ns l.length (mkO l (stO l ns) l.length) := by
    have e : mkO l (stO l ns) l.length = stO l ns := by unfold mkO; rw [Nat.sub_self]; rfl
    rw [e]
    refine OfI.init (stO_len l ns) (fun i hi => ?_) hn
    unfold stO
    rw [onS_at ns _ i (by rw [List.length_replicate]; exact hn)]
    constructor
    · rintro (h | h)
      · exact h
      · rw [List.getD_eq_getElem?_getD, List.getElem?_replicate] at h
        split at h <;> cases h
    · exact .inl
  have key : ∀ d, d ≤ l.length → OfI l ns (l.length - d) (mkO l (stO l ns) (l.length - d)) := by
    intro d
    induction d with
    | zero => intro _; exact h0
    | succ d ih =>
      intro hd
      have hk : l.length - (d + 1) < l.length := by omega
      have i1 := ih (by omega)
      rw [show l.length - d = l.length - (d + 1) + 1 by omega] at i1
      rw [mkO_step hk, parO_of hk]
      have hj : ∀ q, q ≤ l[l.length - (d + 1)].1.length → OfJ l ns (l.length - (d + 1)) q (upS (l.length - (d + 1)) (l[l.length - (d + 1)].1.take q) (mkO l (stO l ns) (l.length - (d + 1) + 1))) := by
        intro q
        induction q with
        | zero => intro _; exact OfJ.of i1
        | succ q ihq =>
          intro hq
          rw [upS_take hq]
          exact (ihq (by omega)).next hl hk hq
      have h2 := hj _ (Nat.le_refl _)
      rw [List.take_length] at h2
      exact h2.done hk
  have h1 := key l.length (Nat.le_refl _)
  rw [Nat.sub_self] at h1
  exact h1.all hl hn
end Go.Proofs.Ytgdlbpihkodeoaa
