/- slices.Clone at []string, as a contract whose answer is data. -/
import Derived.Test.YtppmhjaooiameaaDoorWxBase
namespace Go.Proofs.YtppmhjaooiameaaDoor
open Go.RowKit
set_option maxRecDepth 10000

/-- a contract that is known in another way, with data in new memory as the answer -/
theorem callsFrz_ok {P : Program} {f : FuncId} {bw : Bool} {ts : List Ty} {pre : dens ts → Prop} {res : dens ts → AV} (hpl : ∀ xs, pre xs → (res xs).plain bw = true)
    (h : ∀ xs w (G : Gh) (A : Nat → Prop) vals, saneAll ts xs → pre xs → relAs w G A (argAV ts xs) vals → Calls P f vals.toArray w fun e w' => ∃ v, e = .returned v ∧ Only (fun _ => False) w w' ∧ (res xs).rel w' G (fun k => A k ∨ w.heap.size ≤ k) v) : SpecOk P f (pureSp bw ts pre res) := by
  intro d args hp r hr hside
  unfold pureSp at hr
  split at hr
  · rename_i xs hxs
    cases hr
    refine ⟨.inl rfl, fun F G w vals hrep ha => ?_⟩
    refine Calls.mono (h xs w G _ vals (args_sane _ _ _ (frOf_args (n := 0) hrep hxs ha)) hside (frOf_args (n := 0) hrep hxs ha)) ?_
    rintro e w' ⟨v, rfl, k1, k2⟩
    obtain ⟨m1, m2⟩ := hrep.after k1
    refine ⟨v, rfl, G, m2, m1, plain_av (fun hb t x cs hh => Ty.rd_mono (Nat.le_refl _) (fun b hb' _ => ⟨?_, rfl⟩) t x cs hh) (hpl xs hside) k2⟩
    rcases hb' with q | q
    · exact frOf_okay hrep hb q
    · exact frOf_allok (n := 0) hrep hb (.inr q)
  · cases hr
theorem rdL_of_strs {w : World} {A : Nat → Prop} : ∀ (l : List ByteArray), (∀ s ∈ l, s.size ≤ maxLen) → rdL w A .str l (l.map Value.string)
  | [], _ => rfl
  | s :: l, h => ⟨[.string s], l.map Value.string, rfl, ⟨rfl, h s (by simp)⟩, rdL_of_strs l fun q hq => h q (by simp [hq])⟩
theorem rd_new {w w' : World} {A : Nat → Prop} {l : List ByteArray} {v : Value} (hs : ∀ s ∈ l, s.size ≤ maxLen) (h : w'.ownsRow w.heap.size 9 1 v l.length (l.map Value.string)) : (Ty.slice .str).rd w' (fun k => A k ∨ w.heap.size ≤ k) l [v] := by
  refine reads_rdB (t := .str) (E := 9) (rdL_of_strs l hs) (owns_low h (Nat.zero_le _)) ?_
  intro k hk
  rcases h.2 with ⟨rfl, _⟩ | ⟨g, cap, cur, rfl, hg, _⟩
  · cases hk
  · cases hk; exact .inr hg
def sp_Clone : SpecF := pureSp false [.slice .str] (fun (l', _) => l'.length ≤ 1000000) (fun (l', _) => .v false [.d (.slice .str) l'])
theorem Clone_sp : SpFact 48 sp_Clone := by
  refine ⟨⟨Tryd.f48, rfl, rfl, rfl, callsFrz_ok (fun ⟨_, _⟩ _ => rfl) ?_⟩, pureSp_loc _ _ _ _⟩
  rintro ⟨l, u⟩ w G A vals ⟨⟨hl, hs⟩, -⟩ hn ha
  obtain ⟨v1, r1, rfl, h1, rfl⟩ := ha
  have h1 := AV.one_rel (x := .v false [.d (.slice .str) l]) rfl h1
  have h1 : (Ty.slice .str).rd w A l [v1] := h1
  obtain ⟨ao, cap, hv, hc1, hc2, hc3, hc4⟩ := h1
  cases hv
  have hs : ∀ s ∈ l, s.size ≤ maxLen := hs
  have hn : l.length ≤ 1000000 := hn
  cases ao with
  | none =>
    have hc3 := hc3 rfl
    have : l = [] := List.length_eq_zero_iff.1 (by omega)
    subst this
    refine Calls.mono (Tryd.slices_Clone_string_nil 0 cap w) ?_
    rintro e w' ⟨rfl, rfl⟩
    exact ⟨_, rfl, Only.refl _ _, AV.rel_of (l := .d (.slice .str) []) ⟨none, 0, rfl, Nat.le_refl _, Nat.zero_le _, fun _ => rfl, fun i h => absurd h (Nat.not_lt_zero _)⟩⟩
  | some a =>
    by_cases h0 : l = []
    · subst h0
      refine Calls.mono (Tryd.slices_Clone_string_zero a cap w) ?_
      rintro e w' ⟨v', rfl, o1, -, o3⟩
      exact ⟨_, rfl, (Only.refl _ _).call o3, AV.rel_of (l := .d (.slice .str) []) (rd_new hs o1)⟩
    · have hpos : 0 < l.length := List.length_pos_iff.2 h0
      obtain ⟨b, off, es, e1, -⟩ := hc4 0 hpos
      cases e1
      refine Calls.mono (Tryd.slices_Clone_string b off l.length cap l w (Nat.le_refl _) (by omega) ?_) ?_
      · intro j hj
        obtain ⟨b', off', es, e1, -, -, e2, e3⟩ := hc4 j hj
        cases e1
        obtain ⟨rfl, -⟩ := e2
        have := e3 0 (by simp)
        rw [List.getD_eq_getElem?_getD, List.getElem?_eq_getElem hj]
        simpa [Ty.size] using this
      · rintro e w' ⟨v', rfl, o1, -, o3⟩
        rw [List.take_length] at o1
        exact ⟨_, rfl, (Only.refl _ _).call o3, AV.rel_of (l := .d (.slice .str) l) (rd_new hs o1)⟩
end Go.Proofs.YtppmhjaooiameaaDoor
