/- THE STATEMENT UnifiedRestoredSaid, out of its walk: for every input the law returns true and every argument reads as it did. No condition. -/
import Derived.Test.YtppmhjaooiameaaDoorOpenTy
import Derived.Test.YtppmhjaooiameaaDoorWxUniR
import Derived.Test.YtppmhjaooiameaaDoorOpenTy
import Derived.SizedLaws
import Derived.LaidMore
import Derived.LaidHandle
import Derived.Stop.Joined
import Derived.ProofKit
import Derived.SevenTiedAt
import Derived.MakeChecks
import Derived.Test.YtppmhjaooiameaaDoorDoorEnt
import Derived.Test.YtppmhjaooiameaaDoorCards
import Derived.Test.YtppmhjaooiameaaDoorTie
namespace Go.Proofs.YtppmhjaooiameaaDoor.pUnifiedRestored
open Go.ChangeShapes Go.WideShapes Go.ChangeAt Go.RowKit
open Go.ChangeMaps (open_string shut_string)
set_option linter.unusedVariables false

theorem own : ownKnob Tryd.prog.godebug = none := by kernel_rfl
theorem laidOut : laidOutB Tryd.prog = true := by kernel_rfl

set_option maxRecDepth 100000 in
theorem door_met (os : Os) (args : Array Value) : laidMetH Tryd.prog Rows.unifiedRestoredRow.laid ((World.doorLaid Tryd.prog 4000 os).forCall (fun _ _ => 0) ⟨#[], args, []⟩).memory :=
  laidMetH_of_parts3 (fuel := 8) (laidMet_of_run' 8 (by kernel_rfl) (by kernel_rfl)) (by kernel_rfl) (by kernel_rfl)
set_option maxRecDepth 100000 in
theorem lifted (os : Os) (started : os.Started) (H : Type) (enc : TypeId × Value → H) :
    ReturnsInHanded {} Tryd.checked os 6 .any (fun w args => (Rows.unifiedRestoredSpec.pre enc Tryd.prog Tryd.f6 [] false w args ∧ laidMetH Tryd.prog Rows.unifiedRestoredRow.laid w) ∧ sizedMet enc Tryd.prog Tryd.f6 (OpenSpec.ofChange Rows.unifiedRestoredSpec) false w args)
      (Rows.unifiedRestoredSpec.post enc Tryd.prog Tryd.f6 false true false false) := by
  refine ret_shaped (C := Tryd.checked) (X := fun w _ => laidMetH Tryd.prog Rows.unifiedRestoredRow.laid w) (fun _ _ _ hh h => h.of_heap hh) own started (by kernel_rfl) Tryd.func6
    (ChangeSpec.witness_shaped (enc := enc) (C := Tryd.checked) (os := os) (X := fun w _ => laidMetH Tryd.prog Rows.unifiedRestoredRow.laid w) false (World.doorLaid Tryd.prog 4000 os) #[.slice none 0 0, .agg #[.slice none 0 0], .int .i64 0] 8 rfl (World.shaped_of_RefB (by kernel_rfl) (by kernel_rfl)) (by kernel_rfl) (by kernel_rfl) (by kernel_rfl) (door_met os _)) ?_
  intro W base args ds gs before hval0 hW hcnd hsz0 hlaid hshaped
  have htb : Tb W := tb_of (List.mem_of_getElem? (i := 2) (by kernel_rfl)) ((MakeChecks.laidMetH_plain _ _ _ (by kernel_rfl)).mp hlaid) hshaped
  have hval : ∀ (j : Nat) t v, Tryd.f6.params[j]? = some t → args[j]? = some v → Value.okWide Tryd.prog W .any base t v := hval0
  have hW' := hW
  obtain ⟨p, q, hA0, hV, rfl, hfz, hnd⟩ := hW
  have hA : DataW.TrodAll enc Tryd.prog W 0 (fun _ => true) true Tryd.f6.params.toList args.toList ds p := hA0
  rw [Tryd.params6] at hA hval
  obtain ⟨v0, vs0, d0, ds0, p0, q0, hargs, rfl, rfl, h0, r0⟩ := trodAll_cons hA
  obtain ⟨v1, vs1, d1, ds1, p1, q1, rfl, rfl, rfl, h1, r1⟩ := trodAll_cons r0
  obtain ⟨v2, vs2, d2, ds2, p2, q2, rfl, rfl, rfl, h2, r2⟩ := trodAll_cons r1
  obtain ⟨rfl, rfl, rfl⟩ := trodAll_nil r2
  obtain rfl : args = #[v0, v1, v2] := by cases args; simp_all
  obtain ⟨rfl, rfl⟩ := trodVars_none hV
  have hsz : (DataW.weightsEach Tryd.prog [22, 25, 3] [d0, d1, d2]).all (· ≤ reachBytes) = true := hsz0
  have k0 := h0
  have lt0 : ∀ x ∈ p0, x.block < W.heap.size := by obtain ⟨m, hm⟩ := k0; exact DataW.trod_lt m _ _ _ hm
  obtain ⟨a0, w0⟩ := open_ty (n := 6) (T := 22) (t := .slice .str) (by exact ⟨_, Tryd.underlying22, (by kernel_rfl), Tryd.underlying9⟩) (hval 0 22 v0 rfl rfl) h0
  have k1 := h1
  have lt1 : ∀ x ∈ p1, x.block < W.heap.size := by obtain ⟨m, hm⟩ := k1; exact DataW.trod_lt m _ _ _ hm
  obtain ⟨a1, w1⟩ := open_ty (n := 6) (T := 25) (t := .st (.slice (.st (.pair (.int .i64) (.pair (.slice .str) (.slice .str)))))) (by exact ⟨_, Tryd.underlying25, (by kernel_rfl), rfl, (by kernel_rfl), ⟨_, Tryd.underlying23, (by kernel_rfl), ⟨_, Tryd.underlying41, (by kernel_rfl), rfl, (by kernel_rfl), Tryd.underlying3, rfl, (by kernel_rfl), ⟨_, Tryd.underlying22, (by kernel_rfl), Tryd.underlying9⟩, rfl, (by kernel_rfl), ⟨_, Tryd.underlying22, (by kernel_rfl), Tryd.underlying9⟩⟩⟩⟩) (hval 1 25 v1 rfl rfl) h1
  have k2 := h2
  have lt2 : ∀ x ∈ p2, x.block < W.heap.size := by obtain ⟨m, hm⟩ := k2; exact DataW.trod_lt m _ _ _ hm
  obtain ⟨a2, w2⟩ := open_ty (n := 6) (T := 3) (t := .int .i64) (by exact Tryd.underlying3) (hval 2 3 v2 rfl rfl) h2
  clear hA0 hval0
  refine Calls.mono (law_of law_UnifiedRestored W (a0, a1, a2, ()) [v0, v1, v2] (True.intro) (Tb_below htb) (fun G => ⟨_, _, rfl, w0 G, ⟨_, _, rfl, w1 G, ⟨_, _, rfl, w2 G, rfl⟩⟩⟩) rfl) fun e W' ⟨he, bel⟩ => ?_
  subst he
  exact ⟨_, rfl, _, _, _, [], _, [], hW', trodAll_mk1 (shut_bool Tryd.underlying4 _), (trodAll_cons_mk (Below.trod laidOut (by kernel_rfl) (of_decide_eq_true (by kernel_rfl)) k0 bel lt0) (trodAll_cons_mk (Below.trod laidOut (by kernel_rfl) (of_decide_eq_true (by kernel_rfl)) k1 bel lt1) (trodAll_cons_mk (Below.trod laidOut (by kernel_rfl) (of_decide_eq_true (by kernel_rfl)) k2 bel lt2) trodAll_mk0))), rfl, bel.frame _, fun h => by cases h⟩

/-- THE STATEMENT -/
theorem proved : Rows.UnifiedRestoredSaid :=
  OpenClaim.holds_of_wide 6 Tryd.f6 rfl rfl rfl rfl rfl rfl rfl ⟨rfl, rfl, rfl, rfl, rfl⟩ rfl rfl rfl rfl rfl (by kernel_rfl) Tryd.func6 (by kernel_rfl)
    (of_decide_eq_true (by kernel_rfl)) (by unfold Func.isWrapper; first | (rw [if_pos (by decide +kernel)]; kernel_rfl) | (rw [if_neg (by decide +kernel)]; exact ⟨rfl, rfl⟩))
    (fun os started H enc _ => lifted os started H enc)
/-- THE CARD -/
theorem card_proved : Rows.UnifiedRestoredCardSaid :=
  Claim7.holds_tied_plain_at .later [] [.data, .data, .data, .sentinel, .sentinel] true (true, "729c9e06db31a65ababe32d3db790ebb2cdf9e39d06fcd8b569db847a99322a6") true
    proved (fun _ h => by cases h) (by kernel_rfl) (fun _ h => by cases h) unifiedRestored_row_tie rfl ⟨rfl, rfl⟩ (by kernel_rfl) rfl
    (fun f fn hf hfn => by
      obtain rfl : f = 6 := Option.some.inj ((show Tryd.prog.funcNamed "changeforge/changeforgelaw1.UnifiedRestored" = some 6 by kernel_rfl).symm.trans hf) |>.symm
      obtain rfl : fn = Tryd.f6 := (Option.some.inj (Tryd.func6.symm.trans hfn)).symm
      exact ⟨by kernel_rfl, fun j t ht => by
        rw [Tryd.params6] at ht
        have hm : t ∈ [22, 25, 3] := by
          have := Array.mem_of_getElem? ht
          simp at this ⊢
          omega
        have hall : ([22, 25, 3].all fun u => !Tryd.prog.wantsStandIn u) = true := by kernel_rfl
        exact (show Tryd.prog.wantsStandIn t = false by simpa using List.all_eq_true.1 hall t hm)⟩)
    (by kernel_rfl)
end Go.Proofs.YtppmhjaooiameaaDoor.pUnifiedRestored
