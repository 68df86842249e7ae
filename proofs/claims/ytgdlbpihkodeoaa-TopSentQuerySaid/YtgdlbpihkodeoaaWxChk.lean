/- revset.check, by the kit's walk. -/
import Derived.Test.YtgdlbpihkodeoaaWxRev
import Derived.Deep.DeepCutAuto
import Derived.Laws.CopyOwn
import Derived.Deep.RegionLaw
import Derived.Deep.RegionWith
namespace Go.Proofs.Ytgdlbpihkodeoaa
open Go.RowKit
set_option maxRecDepth 100000
set_option linter.unusedSimpArgs false

theorem Operands_any (k : Int) (w : World) : Calls Try.prog 56 #[.int .i64 k] w fun e w' => e = .returned (.int .i64 (ary k)) ∧ Below w.heap.size w w' := by
  unfold ary
  split
  · go_enter Try.func56, Try.ntmps56
    go_wp2
    refine bodyPost_ret (v := .int .i64 2) (by simp [results, Try.results56, go_sem]) rfl ?_
    exact ⟨rfl, (by repeat (first | exact Below.refl _ _ | assumption | apply extAlloc | apply extDrewN | apply extDrew | (refine extStep ?_ (by assumption) (by first | (simp; done) | (simp; omega) | omega)) | (refine extCall ?_ (by assumption)) | (refine extSet ?_ (by first | (simp; done) | (simp; omega) | omega) _)))⟩
  · split
    · go_enter Try.func56, Try.ntmps56
      go_wp2
      refine bodyPost_ret (v := .int .i64 1) (by simp [results, Try.results56, go_sem]) rfl ?_
      exact ⟨rfl, (by repeat (first | exact Below.refl _ _ | assumption | apply extAlloc | apply extDrewN | apply extDrew | (refine extStep ?_ (by assumption) (by first | (simp; done) | (simp; omega) | omega)) | (refine extCall ?_ (by assumption)) | (refine extSet ?_ (by first | (simp; done) | (simp; omega) | omega) _)))⟩
    · go_enter Try.func56, Try.ntmps56
      go_wp2
      refine bodyPost_ret (v := .int .i64 0) (by simp [results, Try.results56, go_sem]) rfl ?_
      exact ⟨rfl, (by repeat (first | exact Below.refl _ _ | assumption | apply extAlloc | apply extDrewN | apply extDrew | (refine extStep ?_ (by assumption) (by first | (simp; done) | (simp; omega) | omega)) | (refine extCall ?_ (by assumption)) | (refine extSet ?_ (by first | (simp; done) | (simp; omega) | omega) _)))⟩
theorem Most_any (k : Int) (w : World) : Calls Try.prog 74 #[.int .i64 k] w fun e w' => e = .returned (.int .i64 (most k)) ∧ Below w.heap.size w w' := by
  unfold most
  split
  · go_enter Try.func74, Try.ntmps74
    go_wp2
    refine bodyPost_ret (v := .int .i64 59) (by simp [results, Try.results74, go_sem]) rfl ?_
    exact ⟨rfl, (by repeat (first | exact Below.refl _ _ | assumption | apply extAlloc | apply extDrewN | apply extDrew | (refine extStep ?_ (by assumption) (by first | (simp; done) | (simp; omega) | omega)) | (refine extCall ?_ (by assumption)) | (refine extSet ?_ (by first | (simp; done) | (simp; omega) | omega) _)))⟩
  split
  · go_enter Try.func74, Try.ntmps74
    go_wp2
    refine bodyPost_ret (v := .int .i64 7) (by simp [results, Try.results74, go_sem]) rfl ?_
    exact ⟨rfl, (by repeat (first | exact Below.refl _ _ | assumption | apply extAlloc | apply extDrewN | apply extDrew | (refine extStep ?_ (by assumption) (by first | (simp; done) | (simp; omega) | omega)) | (refine extCall ?_ (by assumption)) | (refine extSet ?_ (by first | (simp; done) | (simp; omega) | omega) _)))⟩
  split
  · go_enter Try.func74, Try.ntmps74
    go_wp2
    refine bodyPost_ret (v := .int .i64 100000) (by simp [results, Try.results74, go_sem]) rfl ?_
    exact ⟨rfl, (by repeat (first | exact Below.refl _ _ | assumption | apply extAlloc | apply extDrewN | apply extDrew | (refine extStep ?_ (by assumption) (by first | (simp; done) | (simp; omega) | omega)) | (refine extCall ?_ (by assumption)) | (refine extSet ?_ (by first | (simp; done) | (simp; omega) | omega) _)))⟩
  · go_enter Try.func74, Try.ntmps74
    go_wp2
    refine bodyPost_ret (v := .int .i64 0) (by simp [results, Try.results74, go_sem]) rfl ?_
    exact ⟨rfl, (by repeat (first | exact Below.refl _ _ | assumption | apply extAlloc | apply extDrewN | apply extDrew | (refine extStep ?_ (by assumption) (by first | (simp; done) | (simp; omega) | omega)) | (refine extCall ?_ (by assumption)) | (refine extSet ?_ (by first | (simp; done) | (simp; omega) | omega) _)))⟩

theorem Ops_hid {k : Int} {m : Nat} (h : ary k = m) (w : World) : Calls Try.prog 56 #[.int .i64 k] w fun e w' => e = .returned (.int .i64 m) ∧ Below w.heap.size w w' := by
  rw [← h]; exact Operands_any k w
theorem Most_hid {k m : Int} (h : most k = m) (w : World) : Calls Try.prog 74 #[.int .i64 k] w fun e w' => e = .returned (.int .i64 m) ∧ Below w.heap.size w w' := by
  rw [← h]; exact Most_any k w
theorem step_chk {ops : Array Oper} {o : Oper} {a : Act} {w : World} {K : Act → World → Prop} {Q : Exit → Act → World → Prop} {E : Prop} (hgd : o.guard = none)
    (ho : o.op = .call { callee := .builtin .copy, args := #[.tmp 38, .tmp 44], argTypes := #[27, 27] }) {g q ln cap B : Nat} {ao : Option Addr} {w0 : World} {cs : List Value}
    (hd : a.eval (.tmp 38) = .slice (some ⟨g, 0, none⟩) 2 2) (hs : a.eval (.tmp 44) = .slice (if cap = q then ao else ao.map (fun x => x.add q)) (ln - q) (cap - q))
    (hg : w.heap[g]? = some (.cells #[Value.int .i64 0, Value.int .i64 0] 93 (0, 0))) (hn : Hid (cs.length = ln - q ∧ ln - q ≤ 2 ∧ ln ≤ cap)) (hone : Hid (∀ v ∈ cs, v.oneCell' = true))
    (hpos : Hid (0 < cs.length → ∃ b off, ao = some ⟨b, off, none⟩ ∧ b < B ∧ ∀ j v, cs[j]? = some v → w0.cell? ⟨b, off + q + j, none⟩ = some v)) (hb : Below B w0 w) (hBg : B ≤ g)
    (h : ∀ w', RowKit.Hid (w'.heap[g]? = some (.cells (splice [Value.int .i64 0, Value.int .i64 0] 0 cs).toArray 93 (0, 0))) → RowKit.Below B w0 w' → K (a.put o.dst (goInt cs.length)) w') :
    if Region.wanted o (yielded ops a.tmps) = true then Oper.wp Try.prog o a w K Q else E := by
  obtain ⟨n1, n2, n3⟩ := hn.out
  refine step_copy_splice hgd (.tmp 38) (.tmp 44) 27 27 ho 3 (by kernel_rfl) (by kernel_rfl) _ _ 2 2 _ _ hd hs g 0 [Value.int .i64 0, Value.int .i64 0] 93 hg cs ?_ ?_ ?_ hone.out B w0 hb hBg h
  · rw [n1]; exact (Nat.min_eq_left n2).symm
  · intro hp
    obtain ⟨b, off, rfl, hbl, hc⟩ := hpos.out hp
    refine ⟨rfl, ⟨b, off + q, none⟩, ?_, fun j v hj => ?_⟩
    · rw [if_neg (by omega)]; simp [Addr.add]
    · have := (Below.cell hb (p := ⟨b, off + q + j, none⟩) hbl).trans (hc j v hj)
      have e : (⟨b, off + q, none⟩ : Addr).add j = ⟨b, off + q + j, none⟩ := by unfold Addr.add; split <;> simp_all
      rw [e]
      exact this
  · simp; omega
set_option maxHeartbeats 400000 in
theorem check_any (k n l r i : Int) (ao : Option Addr) (ln cap : Nat) (w : World) (hk : 1 ≤ k ∧ k ≤ 16) (m : Int) (hm : Hid (most k = m)) (hn : 0 ≤ n ∧ n ≤ m) (a q : Nat) (ha : Hid (ary k = a)) (hq : Hid (ln = q + a)) (ha2 : a ≤ 2) (hln : ln ≤ 40) (hcap : ln ≤ cap) (hcm : cap ≤ 9223372036854775807)
    (cs : List Value) (hcl : Hid (cs.length = a)) (hsp : Hid (splice [Value.int .i64 0, Value.int .i64 0] 0 cs = [Value.int .i64 l, Value.int .i64 r])) (hone : Hid (∀ v ∈ cs, v.oneCell' = true))
    (hpos : Hid (0 < cs.length → ∃ b off, ao = some ⟨b, off, none⟩ ∧ b < w.heap.size ∧ ∀ j v, cs[j]? = some v → w.cell? ⟨b, off + q + j, none⟩ = some v)) :
    Calls Try.prog 67 #[.agg #[.int .i64 k, .int .i64 n, .int .i64 l, .int .i64 r], .int .i64 i, .slice ao ln cap] w fun e w' => e = .returned (.int .i64 0) ∧ Below w.heap.size w w' := by
  obtain ⟨hk0, hk1⟩ := hk
  obtain ⟨hn0, hn1⟩ := hn
  go_enter Try.func67, Try.ntmps67
  go_upto_if 12 with (go_at_call 56; with_reducible refine Calls.mono (Ops_hid ha.out _) ?_; rintro e w1 ⟨rfl, b1⟩; have z1 := b1.size; (try simp at z1); have B1 := (Blk.new w _ _).call b1; have x0 := B1.cell 0; have x1 := B1.cell 1; have x2 := B1.cell 2; have x3 := B1.cell 3)
  have d1 : decide (k < 1) = false := decide_eq_false (by omega)
  have d2 : decide (16 < k) = false := decide_eq_false (by omega)
  have d3 : decide (n < 0) = false := decide_eq_false (by omega)
  have d4 : decide (m < n) = false := decide_eq_false (by omega)
  go_wp2_with fail
  go_region_with (go_at_call 74; with_reducible refine Calls.mono (Most_hid hm.out _) ?_; rintro e w2 ⟨rfl, b2⟩; have z2 := b2.size; (try simp at z2); have B2 := (B1.drew).call b2; have y0 := B2.cell 0; have y1 := B2.cell 1; have y2 := B2.cell 2; have y3 := B2.cell 3)
  all_goals
    go_upto_if 33 with fail
    have d5 : decide (ln < a) = false := decide_eq_false (by have := hq.out; omega)
    have d6 : IntKind.i64.wrap ((ln : Int) - a) = (q : Int) := by rw [show (ln : Int) - a = q by have := hq.out; omega]; exact IntWalk.i64_in _ (by have := hq.out; omega)
    have d7 : q ≤ ln := by have := hq.out; omega
    have d8 : (q : Int) ≤ ln := by omega
    go_wp2_with fail
  all_goals (try (exfalso; have := hq.out; omega))
  all_goals have hcl2 : Hid (cs.length = ln - q ∧ ln - q ≤ 2 ∧ ln ≤ cap) := Lib.hid (by have := hq.out; have := hcl.out; omega)
  all_goals have hpos2 : Hid (0 < cs.length → ∃ b off, ao = some ⟨b, off, none⟩ ∧ b < w2.heap.size ∧ ∀ j v, cs[j]? = some v → w2.cell? ⟨b, off + q + j, none⟩ = some v) := Lib.hid (fun hp => by
    obtain ⟨b, off, h1, h2, h3⟩ := hpos.out hp
    have hW : Below w.heap.size w w2 := (by repeat (first | exact Below.refl _ _ | assumption | apply extAlloc | apply extDrewN | apply extDrew | (refine extStep ?_ (by assumption) (by first | (simp; done) | (simp; omega) | omega)) | (refine extCall ?_ (by assumption)) | (refine extSet ?_ (by first | (simp; done) | (simp; omega) | omega) _)))
    exact ⟨b, off, h1, Nat.lt_of_lt_of_le h2 hW.size, fun j v hj => (Below.cell hW (p := ⟨b, off + q + j, none⟩) h2).trans (h3 j v hj)⟩)
  all_goals
    go_region_law (refine step_chk (g := w2.heap.size) (q := q) (ln := ln) (cap := cap) (ao := ao) (B := w2.heap.size) (w0 := w2) (cs := cs) ?_ ?_ ?_ ?_ ?_ hcl2 hone hpos2 ?_ (Nat.le_refl _) ?_; (focus rfl); (focus rfl); (focus (simp [go_sem]; done)); (focus (simp [go_sem]; done)); (focus exact heap_alloc_new w2 _); (focus exact (by repeat (first | exact Below.refl _ _ | assumption | apply extAlloc | apply extDrewN | apply extDrew | (refine extStep ?_ (by assumption) (by first | (simp; done) | (simp; omega) | omega)) | (refine extCall ?_ (by assumption)) | (refine extSet ?_ (by first | (simp; done) | (simp; omega) | omega) _)))); intro w4 hg4 hb4)
    have B4 := B2.call hb4
    have v0 := B4.cell 0
    have v1 := B4.cell 1
    have v2 := B4.cell 2
    have v3 := B4.cell 3
    have A4 : Blk w4 w2.heap.size #[Value.int .i64 l, Value.int .i64 r] 93 := by have := hg4.out; rw [hsp.out] at this; exact this
    have u0 := A4.cell 0
    have u1 := A4.cell 1
    clear hg4 hcl hsp hone hpos hcl2 hpos2
    go_wp2_with fail
  all_goals
    refine bodyPost_ret (v := .int .i64 0) (by simp [results, Try.results67, go_sem]) rfl ?_
    exact ⟨rfl, (by repeat (first | exact Below.refl _ _ | assumption | apply extAlloc | apply extDrewN | apply extDrew | (refine extStep ?_ (by assumption) (by first | (simp; done) | (simp; omega) | omega)) | (refine extCall ?_ (by assumption)) | (refine extSet ?_ (by first | (simp; done) | (simp; omega) | omega) _)))⟩

/-- the operand number j that a node with a operands must have -/
def wantAt (rs : List Int) (a j : Nat) : Int := if j < a then rs.getD (rs.length - a + j) 0 else 0
structure ckPre (n : Nd) (rs : List Int) : Prop where
  kind : 1 ≤ n.1 ∧ n.1 ≤ 16
  num : 0 ≤ n.2.1 ∧ n.2.1 ≤ most n.1
  many : ary n.1 ≤ rs.length
  len : rs.length ≤ 40
  left : n.2.2.1 = wantAt rs (ary n.1) 0
  right : n.2.2.2 = wantAt rs (ary n.1) 1
theorem ary_le (k : Int) : ary k ≤ 2 := by unfold ary; split <;> (try split) <;> omega
theorem ints_rd {w : World} {A : Nat → Prop} {l : List Int} {v : Value} (h : (Ty.slice (.int .i64)).rd w A l [v]) : ∃ ao cap, v = .slice ao l.length cap ∧ l.length ≤ cap ∧ cap ≤ maxLen ∧ (0 < l.length → ∃ b off, ao = some ⟨b, off, none⟩ ∧ b < w.heap.size ∧ ∀ j (hj : j < l.length), w.cell? ⟨b, off + j, none⟩ = some (.int .i64 l[j])) := by
  obtain ⟨ao, cap, e, h1, h2, h3, h4⟩ := h
  cases e
  refine ⟨ao, cap, rfl, h1, h2, fun hp => ?_⟩
  obtain ⟨b, off, es, k0, k1, k2, k3, k4⟩ := h4 0 hp
  refine ⟨b, off, k0, k2, fun j hj => ?_⟩
  obtain ⟨b', off', es', q0, q1, q2, q3, q4⟩ := h4 j hj
  rw [k0] at q0
  cases q0
  obtain ⟨rfl, -⟩ := q3
  have := q4 0 (by simp)
  rw [show off + j = off + (j * (Ty.int .i64).size + 0) by show _ = off + (j * 1 + 0); omega]
  exact this
def sp_check : SpecF := pureSp true [tNd, .int .i64, .slice (.int .i64)] (fun (n', _, rs', _) => ckPre n' rs') (fun _ => .v false [.d (.int .i64) 0])
theorem check_sp : SpFact 67 sp_check := by
  refine ⟨⟨Try.f67, rfl, rfl, rfl, callsSp_ok (fun _ _ => rfl) ?_⟩, pureSp_loc _ _ _ _⟩
  rintro ⟨⟨k, n, l, r⟩, i, rs, u⟩ w G A vals - hpre ha
  change List Int at rs
  change Int at k n l r i
  have hpre : ckPre (k, n, l, r) rs := hpre
  obtain ⟨⟨k0, k1⟩, ⟨n0, n1⟩, hm, hlen, hl, hr⟩ := hpre
  dsimp only at k0 k1 n0 n1 hm hl hr
  obtain ⟨v0, q0, rfl, ⟨us, e1, e2, -⟩, v1, q1, rfl, e3, v2, q2, rfl, e4, rfl⟩ := ha
  obtain ⟨u0, r0, rfl, ⟨hu0, -⟩, u1, r1, rfl, ⟨hu1, -⟩, u2, r2, rfl, ⟨hu2, -⟩, u3, r3, rfl, ⟨hu3, -⟩, rfl⟩ := e1
  cases hu0; cases hu1; cases hu2; cases hu3
  subst e2
  have e3 := AV.one_rel (x := .v false [.d (.int .i64) i]) rfl e3
  obtain ⟨e3, -⟩ := e3
  cases e3
  have e4 := AV.one_rel (x := .v false [.d (.slice (.int .i64)) rs]) rfl e4
  obtain ⟨ao, cap, rfl, c1, c2, c3⟩ := ints_rd e4
  have ha2 := ary_le k
  generalize hak : ary k = a at *
  have hd : (rs.drop (rs.length - a)).length = a := by rw [List.length_drop]; omega
  refine (check_any k n l r i ao rs.length cap w ⟨k0, k1⟩ (most k) (Lib.hid rfl) ⟨n0, n1⟩ a (rs.length - a) (Lib.hid hak) (Lib.hid (by omega)) ha2 hlen c1 (by rw [maxLen_eq] at c2; exact c2)
    ((rs.drop (rs.length - a)).map (Value.int .i64)) (Lib.hid (by rw [List.length_map, hd])) (Lib.hid ?_) (Lib.hid (fun v hv => by obtain ⟨x, -, rfl⟩ := List.mem_map.1 hv; rfl)) (Lib.hid ?_)).mono ?_
  · have g : ∀ j, rs.getD (rs.length - a + j) 0 = (rs.drop (rs.length - a)).getD j 0 := fun j => by
      rw [List.getD_eq_getElem?_getD, List.getD_eq_getElem?_getD, List.getElem?_drop]
    have hl' : l = if 0 < a then (rs.drop (rs.length - a)).getD 0 0 else 0 := by rw [hl]; unfold wantAt; rw [g]
    have hr' : r = if 1 < a then (rs.drop (rs.length - a)).getD 1 0 else 0 := by rw [hr]; unfold wantAt; rw [g]
    generalize rs.drop (rs.length - a) = ds at *
    clear hl hr g
    subst hl' hr'
    match ds, hd with
    | [], hd => obtain rfl : a = 0 := hd.symm; rfl
    | [x], hd => obtain rfl : a = 1 := hd.symm; rfl
    | [x, y], hd => obtain rfl : a = 2 := hd.symm; rfl
    | x :: y :: z :: t, hd => simp at hd; omega
  · intro hp
    rw [List.length_map, hd] at hp
    obtain ⟨b, off, rfl, hb, hc⟩ := c3 (by omega)
    refine ⟨b, off, rfl, hb, fun j v hj => ?_⟩
    rw [List.getElem?_map, List.getElem?_drop] at hj
    obtain ⟨x, hx, rfl⟩ := Option.map_eq_some_iff.1 hj
    obtain ⟨hlt, rfl⟩ := List.getElem?_eq_some_iff.1 hx
    rw [show off + (rs.length - a) + j = off + (rs.length - a + j) by omega]
    exact hc _ hlt
  · rintro e w' ⟨rfl, hb⟩
    exact ⟨_, rfl, (Only.refl _ _).call hb, AV.rel_of ⟨rfl, by decide, by decide⟩⟩
end Go.Proofs.Ytgdlbpihkodeoaa
