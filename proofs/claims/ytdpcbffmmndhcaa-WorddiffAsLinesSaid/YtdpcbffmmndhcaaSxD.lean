/- Sx, part D: the operations that only address and load. -/
import Derived.Test.YtdpcbffmmndhcaaSxC
namespace Go.Proofs.Ytdpcbffmmndhcaa
open Go.RowKit

theorem addr_add0 (b o k : Nat) : (⟨b, o, none⟩ : Addr).add k = ⟨b, o + k, none⟩ := addr_add b o k

theorem run_underlying {P : Program} {w : World} {t : TypeId} {d : TypeDesc} (h : P.underlying t = some d) : (underlying t).run P w = .ok d w := by
  simp [underlying, program, bind, Sem.bind, Sem.run, h, pure]
theorem run_size {P : Program} {w : World} {t : TypeId} {i : TI} (h : i.ok P t) : (sizeOf t).run P w = .ok i.size w := by
  have := h.inf
  cases hj : P.info? t with
  | none => rw [hj] at this; cases this
  | some j =>
    rw [hj] at this
    simp only [Option.map_some, Option.some.injEq, Prod.mk.injEq] at this
    simp [sizeOf, typeInfo, program, bind, Sem.bind, Sem.run, hj, pure, this.2.1]
theorem run_zero {P : Program} {w : World} {t : TypeId} {i : TI} (h : i.ok P t) : (zeroValue t).run P w = .ok (mkV i.agg i.zc) w := by
  have := h.inf
  cases hj : P.info? t with
  | none => rw [hj] at this; cases this
  | some j =>
    rw [hj] at this
    simp only [Option.map_some, Option.some.injEq, Prod.mk.injEq] at this
    simp [zeroValue, typeInfo, program, bind, Sem.bind, Sem.run, hj, pure, this.1]
theorem run_agg {P : Program} {w : World} {t : TypeId} {i : TI} (h : i.ok P t) : (isAgg t).run P w = .ok i.agg w := by
  obtain ⟨d, hd, hk⟩ := h.und
  have h1 : (isAgg t).run P w = .ok (aggD d) w := by
    simp only [isAgg, Sem.run_bind, run_underlying hd, Result.andThen_ok]
    cases d <;> rfl
  rw [h1]
  have h2 : aggD d = i.agg := by
    generalize i.kind = k at hk
    cases k with
    | slice e => obtain ⟨rfl, e⟩ := hk; rw [e]; rfl
    | array n e => obtain ⟨rfl, e⟩ := hk; rw [e]; rfl
    | struct fs => obtain ⟨e, a, rfl, _⟩ := hk; rw [e]; rfl
    | int k => obtain ⟨rfl, e⟩ := hk; rw [e]; rfl
    | str => obtain ⟨rfl, e⟩ := hk; rw [e]; rfl
    | other => exact hk
  rw [h2]

theorem run_fieldAddr {P : Program} {ρ : Operand → Value} {o : Oper} {w : World} (s : TypeId) (x : Operand) (f : Nat) (ho : o.op = .fieldAddr s x f) {i j : TI} {fs : List (Nat × TypeId)} {off : Nat} {ft : TypeId}
    (hi : i.ok P s) (hk : i.kind = .struct fs) (hf : fs[f]? = some (off, ft)) (hj : j.ok P ft) (hz : j.size ≠ 0) {g q : Nat} (hx : ρ x = .pointer (some ⟨g, q, none⟩)) :
    (execOp ρ o).run P w = .ok (.value (.pointer (some ⟨g, q + off, none⟩))) w := by
  obtain ⟨d, hd, hkk⟩ := hi.und
  rw [hk] at hkk
  obtain ⟨_, a, rfl, rfl⟩ := hkk
  have hfa : ∃ fl, a[f]? = some fl ∧ fl.offset = off ∧ fl.type = ft := by
    rw [List.getElem?_map, Option.map_eq_some_iff] at hf
    obtain ⟨fl, h1, h2⟩ := hf
    simp only [Prod.mk.injEq] at h2
    exact ⟨fl, by simpa using h1, h2.1, h2.2⟩
  obtain ⟨fl, h1, rfl, rfl⟩ := hfa
  simp only [execOp, ho, Instr.fieldAt, Sem.run_bind, run_underlying hd, Result.andThen_ok, h1, hx, Instr.sureAddr, Sem.run_pure, fieldPlace, run_size hj, hz, if_false, addr_add0]

theorem run_loadCells {P : Program} {w : World} {g o : Nat} {vs : List Value} (h : ∀ j (hj : j < vs.length), w.cell? ⟨g, o + j, none⟩ = some vs[j]) : (loadCells ⟨g, o, none⟩ vs.length).run P w = .ok vs.toArray w :=
  run_loadCells_list (P := P) w ⟨g, o, none⟩ vs fun j v hj => by
    obtain ⟨hj', rfl⟩ := List.getElem?_eq_some_iff.1 hj
    rw [addr_add0]
    exact h j hj'

/-- a load of cells -/
theorem run_load {P : Program} {ρ : Operand → Value} {o : Oper} {w : World} (t : TypeId) (x : Operand) (ho : o.op = .load t x) {i : TI} (hi : i.ok P t) {g q : Nat} (hx : ρ x = .pointer (some ⟨g, q, none⟩))
    {vs : List Value} (hl : vs.length = i.size) (h1 : i.agg = false → i.size = 1) (h : ∀ j (hj : j < vs.length), w.cell? ⟨g, q + j, none⟩ = some vs[j]) :
    (execOp ρ o).run P w = .ok (.value (mkV i.agg vs)) w := by
  cases hagg : i.agg with
  | true =>
    have h1 := run_loadCells (P := P) h
    rw [hl] at h1
    simp only [execOp, ho, Instr.loadAt, Sem.run_bind, hx, Instr.sureAddr, Sem.run_pure, Result.andThen_ok, loadVar, run_agg hi, hagg, if_true, run_size hi, h1]
    rfl
  | false =>
    obtain ⟨v, rfl⟩ : ∃ v, vs = [v] := by
      have := h1 hagg
      rw [this] at hl
      match vs, hl with
      | [v], _ => exact ⟨v, rfl⟩
    have h0 := h 0 (by simp)
    simp only [Nat.add_zero, List.getElem_cons_zero] at h0
    simp only [execOp, ho, Instr.loadAt, Sem.run_bind, hx, Instr.sureAddr, Sem.run_pure, Result.andThen_ok, loadVar, run_agg hi, hagg, Bool.false_eq_true, if_false, load, Sem.run, h0]
    rfl

/-- an element of an open row that is not the open one -/
def roxAt (t : Ty) (l1 l2 : List t.den) (n : Nat) : t.den := if n < l1.length then l1.getD n t.dflt else l2.getD (n - (l1.length + 1)) t.dflt
/-- a load, in the state's words -/
def cLoad (i : TI) (hp : Nat → Option Ob) : Lf → Option (Prop × AV)
  | .p b o => match hp b with
    | some (.box _ cs) => bif Nat.ble (o + i.size) cs.length then some (True, .v i.agg ((cs.drop o).take i.size)) else none
    | _ => none
  | .dp t x => bif Nat.beq t.size i.size && (t.isSt == i.agg) then some (True, .v i.agg (t.leaves x)) else none
  | .pe b n s k => match hp b with
    | some (.row _ t l) => bif Nat.beq s t.size then
        (bif Nat.beq k 0 && (Nat.beq t.size i.size && (t.isSt == i.agg)) then some (n < l.length, .v i.agg (t.leaves (l.getD n t.dflt)))
        else match t, l with
          | .st t, l => match t.comp (l.getD n t.dflt) k with
            | some ⟨u, y⟩ => bif Nat.beq u.size i.size && (u.isSt == i.agg) then some (n < l.length, .v i.agg (u.leaves y)) else none
            | none => none
          | _, _ => none) else none
    | some (.arr _ _ cs) => bif Nat.ble (n * s + k + i.size) cs.length then some (True, .v i.agg ((cs.drop (n * s + k)).take i.size)) else none
    | some (.rox _ t l1 _ l2) => bif Nat.beq s t.size && (Nat.beq k 0 && (Nat.beq t.size i.size && (t.isSt == i.agg))) then some (n ≠ l1.length ∧ n < l1.length + 1 + l2.length, .v i.agg (t.leaves (roxAt t l1 l2 n))) else none
    | _ => none
  | .px b n s k => match hp b with
    | some (.rox _ t l1 cs _) => bif Nat.beq s t.size && Nat.ble (k + i.size) cs.length then some (n = l1.length, .v i.agg ((cs.drop k).take i.size)) else none
    | _ => none
  | _ => none

theorem cells_block {w : World} {g : Nat} {vs : Array Value} {T : TypeId} (h : w.heap[g]? = some (.cells vs T (0, 0))) (o n : Nat) (hle : o + n ≤ vs.toList.length) :
    ((vs.toList.drop o).take n).length = n ∧ ∀ j (hj : j < ((vs.toList.drop o).take n).length), w.cell? ⟨g, o + j, none⟩ = some ((vs.toList.drop o).take n)[j] := by
  refine ⟨by rw [List.length_take, List.length_drop]; omega, fun j hj => ?_⟩
  rw [cell_of_row w g (o + j) vs T (0, 0) h]
  rw [List.getElem_take, List.getElem_drop]
  rw [List.length_take, List.length_drop] at hj
  rw [← Array.getElem?_toList, List.getElem?_eq_getElem (by omega)]

theorem relE_mk {w : World} {G : Gh} {A : Nat → Prop} {agg : Bool} {ls : List Lf} {vs : List Value} (h : relL w G A ls vs) (h1 : agg = false → vs.length = 1) : (AV.v agg ls).rel w G A (mkV agg vs) := ⟨vs, h, rfl, h1⟩

theorem row_cells {w : World} {E : TypeId} {size n : Nat} {v : Value} {vs : List Value} {g : Nat} (h : w.ownsRow 0 E size v n vs) (hg : v.ownBlock = some g) (j : Nat) (hj : j < vs.length) : w.cell? ⟨g, j, none⟩ = some vs[j] := by
  have := h.cells (g := g) hg j vs[j] (by rw [List.getElem?_eq_getElem hj])
  rw [addr_add0, Nat.zero_add] at this
  exact this

theorem cLoad_sound {P : Program} {F : Fr} {hp : Nat → Option Ob} {G : Gh} {ρ : Operand → Value} {o : Oper} {w : World} (t : TypeId) (x : Operand) (ho : o.op = .load t x) {i : TI} (hi : i.ok P t) (h1 : i.agg = false → i.size = 1)
    {l : Lf} {sd : Prop} {y : AV} (e : cLoad i hp l = some (sd, y)) (hsd : sd) (h : RepH F hp G w) (hx : l.rel w G (Okay F hp G) (ρ x)) :
    Runs P ρ o w (Aft F hp G w hp y []) := by
  unfold cLoad at e
  split at e
  · rename_i b off
    obtain ⟨g, hg, hv⟩ := hx
    split at e
    · rename_i T cs hb
      cases hle : Nat.ble (off + i.size) cs.length
      · rw [hle] at e; cases e
      · rw [hle] at e
        cases e
        obtain ⟨g', vs, hg', hblk, hrl, hf⟩ := h.sat b _ hb
        have : g = g' := by
          unfold boxAt at hg hg'; rw [hg] at hg'; cases hg'; rfl
        subst this
        have hlen := relL_len hrl
        obtain ⟨c1, c2⟩ := cells_block hblk off i.size (by rw [hlen]; exact Nat.le_of_ble_eq_true hle)
        refine Runs.of_ok (run_load t x ho hi hv c1 h1 c2) (Aft.still h (relE_mk (relL_take _ (relL_drop _ hrl)) fun ha => by rw [c1]; exact h1 ha))
    · cases e
  · rename_i t' x'
    obtain ⟨g, off, cs, hv, h2, h3, h4, h5⟩ := hx
    cases hq : (Nat.beq t'.size i.size && (t'.isSt == i.agg))
    · rw [hq] at e; cases e
    · rw [hq] at e
      cases e
      have hs := Nat.eq_of_beq_eq_true (Bool.and_eq_true_iff.1 hq).1
      have hl := Ty.rd_len t' x' cs h4
      exact Runs.of_ok (run_load t x ho hi hv (by rw [hl, hs]) h1 h5) (Aft.still h (relE_mk (leaves_rel t' x' cs h4) fun ha => by rw [hl, hs]; exact h1 ha))
  · rename_i b n s k
    obtain ⟨g, hg, hv⟩ := hx
    split at e
    · rename_i E t' l' hb
      obtain ⟨vs, hr1, hr2, hr3⟩ := h.sat b _ hb
      have hvl := rdL_len hr1
      cases hs : Nat.beq s t'.size
      · rw [hs] at e; cases e
      · rw [hs] at e
        have hs' := Nat.eq_of_beq_eq_true hs
        subst hs'
        simp only [cond_true] at e
        have base : ∀ (hn : n < l'.length), t'.rd w (Okay F hp G) (l'.getD n t'.dflt) ((vs.drop (n * t'.size)).take t'.size) ∧ (n + 1) * t'.size ≤ vs.length := by
          intro hn
          have := rdL_at hr1 n hn
          rw [List.getD_eq_getElem?_getD, List.getElem?_eq_getElem hn]
          refine ⟨this, ?_⟩
          rw [hvl]
          exact Nat.mul_le_mul_right _ hn
        cases hq : (Nat.beq k 0 && (Nat.beq t'.size i.size && (t'.isSt == i.agg)))
        · rw [hq] at e
          simp only [cond_false] at e
          split at e
          · rename_i t2 l2
            split at e
            · rename_i u y' hc
              cases hq2 : (Nat.beq u.size i.size && (u.isSt == i.agg))
              · rw [hq2] at e; cases e
              · rw [hq2] at e
                cases e
                obtain ⟨b1, b2⟩ := base hsd
                obtain ⟨c1, c2, c3, k1, k2, k3⟩ := comp_rd t2 _ _ k u y' b1 hc
                have hs2 := Nat.eq_of_beq_eq_true (Bool.and_eq_true_iff.1 hq2).1
                have hl2 := Ty.rd_len u y' c2 k3
                refine Runs.of_ok (run_load t x ho hi hv (vs := c2) (by rw [hl2, hs2]) h1 ?_) (Aft.still h (relE_mk (leaves_rel u y' c2 k3) fun ha => by rw [hl2, hs2]; exact h1 ha))
                intro j hj
                have hlen : ((vs.drop (n * (Ty.st t2).size)).take (Ty.st t2).size).length = (Ty.st t2).size := by
                  rw [List.length_take, List.length_drop]
                  have : (n + 1) * (Ty.st t2).size = n * (Ty.st t2).size + (Ty.st t2).size := by rw [Nat.add_mul, Nat.one_mul]
                  omega
                have hkj : k + j < (Ty.st t2).size := by
                  rw [← hlen, k1]
                  simp only [List.length_append, k2]
                  omega
                have hidx : n * (Ty.st t2).size + k + j < vs.length := by
                  have : (n + 1) * (Ty.st t2).size = n * (Ty.st t2).size + (Ty.st t2).size := by rw [Nat.add_mul, Nat.one_mul]
                  omega
                rw [row_cells hr2 hg _ hidx]
                congr 1
                have q : ((vs.drop (n * (Ty.st t2).size)).take (Ty.st t2).size)[k + j]? = (c1 ++ (c2 ++ c3))[k + j]? := by rw [k1]
                rw [List.getElem?_take_of_lt hkj, List.getElem?_drop, List.getElem?_append_right (by omega), k2, Nat.add_sub_cancel_left, List.getElem?_append_left hj, ← Nat.add_assoc] at q
                rw [List.getElem?_eq_getElem hidx, List.getElem?_eq_getElem hj] at q
                exact Option.some.inj q
            · cases e
          · cases e
        · rw [hq] at e
          cases e
          obtain ⟨q1, q2⟩ := Bool.and_eq_true_iff.1 hq
          obtain rfl := Nat.eq_of_beq_eq_true q1
          have hs2 := Nat.eq_of_beq_eq_true (Bool.and_eq_true_iff.1 q2).1
          obtain ⟨b1, b2⟩ := base hsd
          have hl2 := Ty.rd_len t' _ _ b1
          refine Runs.of_ok (run_load t x ho hi hv (by rw [hl2, hs2]) h1 ?_) (Aft.still h (relE_mk (leaves_rel t' _ _ b1) fun ha => by rw [hl2, hs2]; exact h1 ha))
          intro j hj
          rw [hl2] at hj
          have : (n + 1) * t'.size = n * t'.size + t'.size := by rw [Nat.add_mul, Nat.one_mul]
          rw [row_cells hr2 hg (n * t'.size + 0 + j) (by omega)]
          congr 1
          rw [List.getElem_take, List.getElem_drop]
          simp only [Nat.add_zero]
    · rename_i E m cs hb
      obtain ⟨g', vs, hg', _, hblk, hrl, hf⟩ := h.sat b _ hb
      have hg2 : (G.r b).ownBlock = some g' := by rw [hg']; rfl
      obtain rfl : g = g' := by rw [hg] at hg2; cases hg2; rfl
      cases hle : Nat.ble (n * s + k + i.size) cs.length
      · rw [hle] at e; cases e
      · rw [hle] at e
        cases e
        have hlen := relL_len hrl
        obtain ⟨c1, c2⟩ := cells_block hblk (n * s + k) i.size (by rw [hlen]; exact Nat.le_of_ble_eq_true hle)
        refine Runs.of_ok (run_load t x ho hi hv c1 h1 c2) (Aft.still h (relE_mk (relL_take _ (relL_drop _ hrl)) fun ha => by rw [c1]; exact h1 ha))
    · rename_i E t' l1 cs l2 hb
      cases hq : (Nat.beq s t'.size && (Nat.beq k 0 && (Nat.beq t'.size i.size && (t'.isSt == i.agg))))
      · rw [hq] at e; cases e
      · rw [hq] at e
        cases e
        obtain ⟨q0, q1⟩ := Bool.and_eq_true_iff.1 hq
        obtain ⟨q1, q2⟩ := Bool.and_eq_true_iff.1 q1
        obtain rfl := Nat.eq_of_beq_eq_true q0
        obtain rfl := Nat.eq_of_beq_eq_true q1
        have hs2 := Nat.eq_of_beq_eq_true (Bool.and_eq_true_iff.1 q2).1
        obtain ⟨v1, c, v2, m1, m2, m3, m4, m5, m6⟩ := h.sat b _ hb
        obtain ⟨n1, n2⟩ := hsd
        have len1 := rdL_len m1
        have len2 := rdL_len m4
        have key : ∃ us, t'.rd w (Okay F hp G) (roxAt t' l1 l2 n) us ∧ ∀ j (hj : j < us.length), (v1 ++ (c ++ v2))[n * t'.size + j]? = some us[j] := by
          unfold roxAt
          by_cases hlt : n < l1.length
          · rw [if_pos hlt, List.getD_eq_getElem?_getD, List.getElem?_eq_getElem hlt]
            have r1 := rdL_at m1 n hlt
            refine ⟨_, r1, fun j hj => ?_⟩
            have hj' : j < t'.size := by simp only [List.length_take] at hj; omega
            have : (n + 1) * t'.size ≤ l1.length * t'.size := Nat.mul_le_mul_right _ hlt
            rw [Nat.add_mul, Nat.one_mul] at this
            rw [List.getElem?_append_left (by omega), List.getElem_take, List.getElem_drop, List.getElem?_eq_getElem (by omega)]
          · rw [if_neg hlt]
            have hlt2 : n - (l1.length + 1) < l2.length := by omega
            rw [List.getD_eq_getElem?_getD, List.getElem?_eq_getElem hlt2]
            have r1 := rdL_at m4 _ hlt2
            refine ⟨_, r1, fun j hj => ?_⟩
            have hj' : j < t'.size := by simp only [List.length_take] at hj; omega
            have e1 : n * t'.size = l1.length * t'.size + t'.size + (n - (l1.length + 1)) * t'.size := by
              have : n = l1.length + 1 + (n - (l1.length + 1)) := by omega
              calc n * t'.size = (l1.length + 1 + (n - (l1.length + 1))) * t'.size := by rw [← this]
                _ = _ := by rw [Nat.add_mul, Nat.add_mul, Nat.one_mul]
            have : (n - (l1.length + 1) + 1) * t'.size ≤ l2.length * t'.size := Nat.mul_le_mul_right _ hlt2
            rw [Nat.add_mul, Nat.one_mul] at this
            rw [List.getElem?_append_right (by omega), List.getElem?_append_right (by omega), List.getElem_take, List.getElem_drop, show n * t'.size + j - v1.length - c.length = (n - (l1.length + 1)) * t'.size + j by omega, List.getElem?_eq_getElem (by omega)]
        obtain ⟨us, u1, u2⟩ := key
        have hl2 := Ty.rd_len t' _ _ u1
        refine Runs.of_ok (run_load t x ho hi hv (by rw [hl2, hs2]) h1 ?_) (Aft.still h (relE_mk (leaves_rel t' _ _ u1) fun ha => by rw [hl2, hs2]; exact h1 ha))
        intro j hj
        obtain ⟨z1, z2⟩ := List.getElem?_eq_some_iff.1 (u2 j hj)
        rw [Nat.add_zero, row_cells m5 hg _ z1, z2]
    · cases e
  · rename_i b n s k
    obtain ⟨g, hg, hv⟩ := hx
    split at e
    · rename_i E t' l1 cs l2 hb
      cases hq : (Nat.beq s t'.size && Nat.ble (k + i.size) cs.length)
      · rw [hq] at e; cases e
      · rw [hq] at e
        cases e
        obtain ⟨q0, q1⟩ := Bool.and_eq_true_iff.1 hq
        obtain rfl := Nat.eq_of_beq_eq_true q0
        have q1 := Nat.le_of_ble_eq_true q1
        obtain ⟨v1, c, v2, m1, m2, m3, m4, m5, m6⟩ := h.sat b _ hb
        obtain rfl : n = l1.length := hsd
        have len1 := rdL_len m1
        have lenc := relL_len m2
        have hl : ((c.drop k).take i.size).length = i.size := by rw [List.length_take, List.length_drop]; omega
        refine Runs.of_ok (run_load t x ho hi hv (vs := (c.drop k).take i.size) hl h1 ?_) (Aft.still h (relE_mk (relL_take _ (relL_drop _ m2)) fun ha => by rw [hl]; exact h1 ha))
        intro j hj
        rw [hl] at hj
        have hidx : l1.length * t'.size + k + j < (v1 ++ (c ++ v2)).length := by simp only [List.length_append]; omega
        rw [row_cells m5 hg _ hidx]
        congr 1
        rw [List.getElem_append_right (by omega), List.getElem_append_left (by omega), List.getElem_take, List.getElem_drop]
        congr 1
        omega
    · cases e
  · cases e
end Go.Proofs.Ytdpcbffmmndhcaa
