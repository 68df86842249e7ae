/- Sx, part F: what makes memory: alloc, box, composite literals, make, append. -/
import Derived.Test.YtdpcbffmmndhcaaSxE
namespace Go.Proofs.Ytdpcbffmmndhcaa
open Go.RowKit

def Ty.zc : Ty → List Value
  | .int k => [.int k 0]
  | .bool => [.bool false]
  | .str => [.string .empty]
  | .slice _ => [.slice none 0 0]
  | .pair a b => a.zc ++ b.zc
  | .st a => a.zc

theorem zc_rd {w : World} {A : Nat → Prop} : ∀ t : Ty, t.rd w A t.dflt t.zc
  | .int k => ⟨rfl, by cases k <;> decide, by cases k <;> decide⟩
  | .bool => rfl
  | .str => ⟨rfl, by decide⟩
  | .slice e => ⟨none, 0, rfl, Nat.le_refl _, Nat.zero_le _, fun _ => rfl, fun i hi => by simp [Ty.dflt] at hi⟩
  | .pair a b => ⟨a.zc, b.zc, rfl, zc_rd a, zc_rd b⟩
  | .st a => zc_rd a

/-- the type of data that a type of the program is -/
structure TyOk (P : Program) (E : TypeId) (i : TI) (t : Ty) : Prop where
  ok : i.ok P E
  zc : i.zc = t.zc
  sz : i.size = t.size

theorem TI.ok.info {P : Program} {t : TypeId} {i : TI} (h : i.ok P t) : ∃ j, P.info? t = some j ∧ j.zero = some (mkV i.agg i.zc) ∧ j.size = i.size ∧ j.bytes = i.bytes := by
  have := h.inf
  cases hj : P.info? t with
  | none => rw [hj] at this; cases this
  | some j =>
    rw [hj] at this
    simp only [Option.map_some, Option.some.injEq, Prod.mk.injEq] at this
    exact ⟨j, rfl, this⟩
theorem TI.ok.zone {P : Program} {t : TypeId} {i : TI} (h : i.ok P t) : ∀ u ∈ i.zc, u.oneCell' = true := by
  have := h.z.2
  rw [List.all_eq_true] at this
  exact this
theorem TI.ok.zcells {P : Program} {t : TypeId} {i : TI} (h : i.ok P t) (h1 : i.agg = false → i.size = 1) : (mkV i.agg i.zc).cells = i.zc.toArray := by
  have := cells_mkV (agg := i.agg) (vs := i.zc) (fun ha => by rw [h.z.1]; exact h1 ha) h.zone
  exact Array.toList_inj.1 (by rw [List.toList_toArray]; exact this)
theorem TI.ok.slice {P : Program} {t : TypeId} {i : TI} {e : TypeId} (h : i.ok P t) (hk : i.kind = .slice e) : P.underlying t = some (.slice e) := by
  obtain ⟨d, hd, hkk⟩ := h.und
  rw [hk] at hkk
  rw [hd, hkk.1]

/-! ### alloc, box -/
theorem alloc_sound {P : Program} {F : Fr} {hp : Nat → Option Ob} {G : Gh} {ρ : Operand → Value} {o : Oper} {w : World} (T : TypeId) (ho : o.op = .alloc T) {i : TI} (hi : i.ok P T) (h1 : i.agg = false → i.size = 1) (d : Nat) (h : RepH F hp G w) :
    Runs P ρ o w (Aft F hp G w (upd (scrH hp d d) d (some (.box T (i.zc.map lfOf)))) (.v false [.p d 0]) [d]) := by
  have hr : (execOp ρ o).run P w = .ok (.value (.pointer (some ⟨w.heap.size, 0, none⟩))) (w.alloc (.cells i.zc.toArray T)) := by
    simp only [execOp, ho, Instr.alloc, Sem.run_bind, run_zero hi, Result.andThen_ok, Sem.run_pure, newVar, newRow, newObj, hi.zcells h1]
    rfl
  obtain ⟨G', e1, e2, e3⟩ := alloc_step h d (.pointer (some ⟨w.heap.size, 0, none⟩)) i.zc.toArray T (.box T (i.zc.map lfOf)) (fun A' G' k1 k2 k3 =>
    ⟨w.heap.size, _, k1, heap_alloc_new w _, lfOf_rels _ _ _ i.zc hi.z.2, k2⟩)
  exact Runs.of_ok hr ⟨G', e1, e2, AV.rel_of ⟨w.heap.size, e3, rfl⟩⟩

theorem box_sound {P : Program} {F : Fr} {hp : Nat → Option Ob} {G : Gh} {ρ : Operand → Value} {o : Oper} {w : World} (T : TypeId) (x : Operand) (ho : o.op = .box T x) {agg : Bool} {ls : List Lf} (d : Nat) (h : RepH F hp G w) (hx : (AV.v agg ls).rel w G (Okay F hp G) (ρ x)) :
    Runs P ρ o w (Aft F hp G w (upd (scrH hp d d) d (some (.box T (ls.map (Lf.scrub d))))) (.v false [.p d 0]) [d]) := by
  obtain ⟨vs, h1, h2, h3⟩ := hx
  have hc : (ρ x).cells = vs.toArray := Array.toList_inj.1 (by rw [List.toList_toArray, h2]; exact cells_mkV h3 (relL_one h1))
  have hr : (execOp ρ o).run P w = .ok (.value (.pointer (some ⟨w.heap.size, 0, none⟩))) (w.alloc (.cells vs.toArray T)) := by
    simp only [execOp, ho, Instr.box, Sem.run_bind, Sem.run_pure, newVar, newRow, newObj, hc]
    rfl
  obtain ⟨G', e1, e2, e3⟩ := alloc_step h d (.pointer (some ⟨w.heap.size, 0, none⟩)) vs.toArray T (.box T (ls.map (Lf.scrub d))) (fun A' G' k1 k2 k3 =>
    ⟨w.heap.size, _, k1, heap_alloc_new w _, k3.lsS h1, k2⟩)
  exact Runs.of_ok hr ⟨G', e1, e2, AV.rel_of ⟨w.heap.size, e3, rfl⟩⟩

/-! ### composite literals -/
/-- parts laid into cells -/
def cFill (place : Nat → Option (Nat × Nat)) (cells : List Lf) : List (Nat × AV) → Option (List Lf)
  | [] => some cells
  | (i, x) :: r => match place i, x with
    | some (off, size), .v _ ls => bif Nat.beq ls.length size && Nat.ble (off + ls.length) cells.length then cFill place (cells.take off ++ ls ++ cells.drop (off + ls.length)) r else none
    | _, _ => none

theorem fold_seg : ∀ (vs : List Value) (off k : Nat) (cur : Array Value), off + k + vs.length ≤ cur.size →
    ((vs.zipIdx k).foldl (fun cs (x : Value × Nat) => cs.setIfInBounds (off + x.2) x.1) cur).toList = cur.toList.take (off + k) ++ vs ++ cur.toList.drop (off + k + vs.length)
  | [], off, k, cur, _ => by simp
  | v :: vs, off, k, cur, h => by
    simp only [List.length_cons] at h
    rw [List.zipIdx_cons, List.foldl_cons, fold_seg vs off (k + 1) _ (by simp; omega)]
    have e := list_seg_step cur.toList (off + k) v vs (by simp; omega)
    rw [Array.toList_setIfInBounds, ← Nat.add_assoc]
    exact e

def relP (w : World) (G : Gh) (A : Nat → Prop) : List (Nat × AV) → List (Nat × Value) → Prop
  | [], vs => vs = []
  | x :: xs, vs => ∃ v r, vs = (x.1, v) :: r ∧ x.2.rel w G A v ∧ relP w G A xs r

theorem cFill_rel {w : World} {G : Gh} {A : Nat → Prop} (place : Nat → Option (Nat × Nat)) : ∀ (ps : List (Nat × AV)) (cells ls : List Lf) (vs : List (Nat × Value)) (cur : Array Value),
    cFill place cells ps = some ls → relP w G A ps vs → relL w G A cells cur.toList → ∃ res, Instr.fill place cur vs = some res ∧ relL w G A ls res.toList
  | [], cells, ls, vs, cur, e, h, hl => by
    obtain rfl := (show vs = _ from h)
    cases e
    exact ⟨cur, rfl, hl⟩
  | (i, x) :: r, cells, ls, vs, cur, e, h, hl => by
    obtain ⟨v, r', rfl, h1, h2⟩ := h
    unfold cFill at e
    split at e
    · rename_i off size agg ls' hpl
      cases hq : (Nat.beq ls'.length size && Nat.ble (off + ls'.length) cells.length)
      · rw [hq] at e; cases e
      · rw [hq] at e
        simp only [cond_true] at e
        obtain ⟨q1, q2⟩ := Bool.and_eq_true_iff.1 hq
        have q1 := Nat.eq_of_beq_eq_true q1
        have q2 := Nat.le_of_ble_eq_true q2
        obtain ⟨us, u1, u2, u3⟩ := h1
        have hc : v.cells.toList = us := by rw [u2]; exact cells_mkV u3 (relL_one u1)
        have ul : us.length = ls'.length := relL_len u1
        have cl := relL_len hl
        have hsz : v.cells.size = us.length := by rw [← Array.length_toList, hc]
        have cl' : cur.size = cells.length := by rw [← Array.length_toList]; exact cl
        have hfold : (v.cells.zipIdx.foldl (fun cs (x : Value × Nat) => cs.setIfInBounds (off + x.2) x.1) cur).toList = cur.toList.take off ++ us ++ cur.toList.drop (off + us.length) := by
          rw [← Array.foldl_toList, Array.toList_zipIdx, hc]
          exact fold_seg us off 0 cur (by omega)
        obtain ⟨res, k1, k2⟩ := cFill_rel place r _ ls r' _ e h2 (by rw [hfold]; exact relL_splice hl u1 off)
        refine ⟨res, ?_, k2⟩
        unfold Instr.fill
        simp only [hpl]
        rw [if_neg (by simp only [ne_eq, Bool.or_eq_true, decide_eq_true_eq, not_or, Nat.not_lt, Decidable.not_not]; omega)]
        exact k1
    · cases e

def structPlace (tl : TypeId → Option TI) (fs : List (Nat × TypeId)) (i : Nat) : Option (Nat × Nat) :=
  match fs[i]? with
  | some (off, ft) => (tl ft).map fun j => (off, j.size)
  | none => none

theorem relP_map {w : World} {G : Gh} {A : Nat → Prop} {ρ : Operand → Value} {ev : Operand → AV} (h : ∀ x, (ev x).rel w G A (ρ x)) : ∀ (ps : List (Nat × Operand)), relP w G A (ps.map fun p => (p.1, ev p.2)) (ps.map fun p => (p.1, ρ p.2))
  | [] => rfl
  | p :: ps => ⟨_, _, rfl, h p.2, relP_map h ps⟩

theorem mapM_fields {P : Program} {w : World} {tl : TypeId → Option TI} (htl : ∀ t i, tl t = some i → i.ok P t) : ∀ (fs : List Field), (∀ f ∈ fs, (tl f.type).isSome) →
    (fs.mapM fun f => (do pure (f.offset, ← sizeOf f.type) : Sem (Nat × Nat))).run P w = .ok (fs.map fun f => (f.offset, ((tl f.type).map (·.size)).getD 0)) w
  | [], _ => rfl
  | f :: fs, h => by
    have ih := mapM_fields (P := P) (w := w) htl fs (fun g hg => h g (by simp [hg]))
    obtain ⟨i, hi⟩ := Option.isSome_iff_exists.1 (h f (by simp))
    simp only [List.mapM_cons, Sem.run_bind, run_size (htl _ _ hi), Result.andThen_ok, Sem.run_pure, ih, List.map_cons, hi, Option.map_some, Option.getD_some]

theorem build_sound {P : Program} {F : Fr} {hp : Nat → Option Ob} {G : Gh} {ρ : Operand → Value} {o : Oper} {w : World} {tl : TypeId → Option TI} (htl : ∀ t i, tl t = some i → i.ok P t)
    (T : TypeId) (parts : Array (Nat × Operand)) (ho : o.op = .build T parts) {i : TI} (hi : i.ok P T) (h1 : i.agg = false → i.size = 1) {fs : List (Nat × TypeId)} (hk : i.kind = .struct fs) (hall : fs.all (fun f => (tl f.2).isSome) = true)
    {ev : Operand → AV} (hev : ∀ x, (ev x).rel w G (Okay F hp G) (ρ x)) {ls : List Lf} (e : cFill (structPlace tl fs) (i.zc.map lfOf) (parts.toList.map fun p => (p.1, ev p.2)) = some ls) (h : RepH F hp G w) :
    Runs P ρ o w (Aft F hp G w hp (.v true ls) []) := by
  obtain ⟨d, hd, hkk⟩ := hi.und
  rw [hk] at hkk
  obtain ⟨hagg, a, rfl, rfl⟩ := hkk
  have hsome : ∀ f ∈ a.toList, (tl f.type).isSome := by
    intro f hf
    rw [List.all_eq_true] at hall
    exact hall (f.offset, f.type) (List.mem_map.2 ⟨f, hf, rfl⟩)
  have hm := mapM_fields (P := P) (w := w) htl a.toList hsome
  obtain ⟨res, k1, k2⟩ := cFill_rel _ _ _ ls (parts.toList.map fun p => (p.1, ρ p.2)) i.zc.toArray e (relP_map hev _) (lfOf_rels _ _ _ i.zc hi.z.2)
  have hplace : structPlace tl (a.toList.map fun f => (f.offset, f.type)) = fun j => (a.toList.map fun f => (f.offset, ((tl f.type).map (·.size)).getD 0)).toArray[j]? := by
    funext j
    unfold structPlace
    simp only [List.getElem?_map, List.getElem?_toArray]
    cases hj : a.toList[j]? with
    | none => rfl
    | some f =>
      obtain ⟨i, hi⟩ := Option.isSome_iff_exists.1 (hsome f (List.mem_of_getElem? hj))
      simp [hi]
  rw [hplace] at k1
  have hr : (execOp ρ o).run P w = .ok (.value (.agg res)) w := by
    simp only [execOp, ho, Instr.build, Sem.run_bind, run_zero hi, Result.andThen_ok, run_underlying hd, hi.zcells h1, Array.mapM_eq_mapM_toList, Sem.run_map, hm]
    simp only [Array.toList_map, k1]
    rfl
  exact Runs.of_ok hr (Aft.still h ⟨res.toList, k2, by simp [mkV], fun ha => by cases ha⟩)
theorem buildArr_sound {P : Program} {F : Fr} {hp : Nat → Option Ob} {G : Gh} {ρ : Operand → Value} {o : Oper} {w : World}
    (T : TypeId) (parts : Array (Nat × Operand)) (ho : o.op = .build T parts) {i j : TI} (hi : i.ok P T) (h1 : i.agg = false → i.size = 1) {m : Nat} {el : TypeId} (hk : i.kind = .array m el) (hj : j.ok P el)
    {ev : Operand → AV} (hev : ∀ x, (ev x).rel w G (Okay F hp G) (ρ x)) {ls : List Lf} (e : cFill (fun q => some (q * j.size, j.size)) (i.zc.map lfOf) (parts.toList.map fun p => (p.1, ev p.2)) = some ls) (h : RepH F hp G w) :
    Runs P ρ o w (Aft F hp G w hp (.v true ls) []) := by
  obtain ⟨d, hd, hkk⟩ := hi.und
  rw [hk] at hkk
  rw [hkk.1] at hd
  obtain ⟨res, k1, k2⟩ := cFill_rel _ _ _ ls (parts.toList.map fun p => (p.1, ρ p.2)) i.zc.toArray e (relP_map hev _) (lfOf_rels _ _ _ i.zc hi.z.2)
  have hr : (execOp ρ o).run P w = .ok (.value (.agg res)) w := by
    simp only [execOp, ho, Instr.build, Sem.run_bind, run_zero hi, Result.andThen_ok, run_underlying hd, hi.zcells h1, run_size hj]
    simp only [Array.toList_map, k1]
    rfl
  exact Runs.of_ok hr (Aft.still h ⟨res.toList, k2, by simp [mkV], fun ha => by cases ha⟩)
end Go.Proofs.Ytdpcbffmmndhcaa
