/- Arguments of a law as data; from a law's spec to its statement. -/
import Derived.Test.YtgdlbpihkodeoaaSxTab
import Derived.SizedLaws
namespace Go.Proofs.Ytgdlbpihkodeoaa
open Go.ChangeShapes Go.WideShapes Go.ChangeAt Go.RowKit

def TFs (P : Program) (R : TypeId → Ty → Prop) : Nat → List (Nat × TypeId) → Ty → Prop
  | _, [], _ => False
  | o, [(o', ft)], t => o' = o ∧ P.cellsOf ft = t.size ∧ R ft t
  | o, (o', ft) :: q :: r, .pair a b => o' = o ∧ P.cellsOf ft = a.size ∧ R ft a ∧ TFs P R (o + a.size) (q :: r) b
  | _, _ :: _ :: _, _ => False
/-- a type of the program is a type of data -/
def TT (P : Program) : Nat → TypeId → Ty → Prop
  | 0, _, _ => False
  | _ + 1, T, .int k => P.underlying T = some (.int k)
  | _ + 1, T, .bool => P.underlying T = some .bool
  | _ + 1, T, .str => P.underlying T = some .string
  | n + 1, T, .slice e => ∃ te, P.underlying T = some (.slice te) ∧ P.cellsOf te = e.size ∧ TT P n te e
  | n + 1, T, .st t => ∃ fs, P.underlying T = some (.struct fs) ∧ P.cellsOf T = t.size ∧ TFs P (TT P n) 0 (fs.toList.map fun f => (f.offset, f.type)) t
  | _ + 1, _, .pair _ _ => False

section
variable {H : Type} {enc : TypeId × Value → H} {P : Program} {w : World} {held : Bool} {spare : Nat → Bool}

theorem fields_rd {R : TypeId → Ty → Prop} {A : Nat → Prop} {cs : List Value} {m : Nat} (hR : ∀ T t cs x, R T t → DataW.trod enc P w 0 spare held m T cs = some x → ∃ y : t.den, t.rd w A y cs) :
    ∀ (fs : List (Nat × TypeId)) (t : Ty) (o : Nat), TFs P R o fs t → o + t.size = cs.length → (∀ f ∈ fs, ∃ x, DataW.trod enc P w 0 spare held m f.2 ((cs.drop f.1).take (P.cellsOf f.2)) = some x) → ∃ y : t.den, t.rd w A y (cs.drop o)
  | [], t, o, h, _, _ => h.elim
  | [(o', ft)], t, o, h, hl, ha => by
    obtain ⟨rfl, h1, h2⟩ := h
    obtain ⟨x, hx⟩ := ha (o', ft) (by simp)
    have e : (cs.drop o').take (P.cellsOf ft) = cs.drop o' := List.take_of_length_le (by rw [List.length_drop, h1]; omega)
    rw [e] at hx
    exact hR _ _ _ _ h2 hx
  | (o', ft) :: q :: r, .pair a b, o, h, hl, ha => by
    obtain ⟨rfl, h1, h2, h3⟩ := h
    obtain ⟨x, hx⟩ := ha (o', ft) (by simp)
    obtain ⟨y1, k1⟩ := hR _ _ _ _ h2 hx
    have hsz : o' + (a.size + b.size) = cs.length := hl
    obtain ⟨y2, k2⟩ := fields_rd hR (q :: r) b (o' + a.size) h3 (by omega) (fun f hf => ha f (by simp [hf]))
    refine ⟨(y1, y2), (cs.drop o').take (P.cellsOf ft), cs.drop (o' + a.size), ?_, k1, k2⟩
    rw [h1, ← List.drop_drop, List.take_append_drop]
  | _ :: _ :: _, .int _, o, h, _, _ => h.elim
  | _ :: _ :: _, .bool, o, h, _, _ => h.elim
  | _ :: _ :: _, .str, o, h, _, _ => h.elim
  | _ :: _ :: _, .slice _, o, h, _, _ => h.elim
  | _ :: _ :: _, .st _, o, h, _, _ => h.elim

theorem tt_rd : ∀ (n fuel : Nat) (T : TypeId) (t : Ty) (cs : List Value) (x : DataW H × List MemPlace), TT P n T t → DataW.trod enc P w 0 spare held fuel T cs = some x → ∃ y : t.den, t.rd w (fun _ => True) y cs
  | 0, _, _, _, _, _, h, _ => h.elim
  | n + 1, fuel, T, .int k, cs, x, h, hx => by
    obtain ⟨m, rfl, _, hw⟩ := DataW.trod_int h hx
    refine ⟨m, rfl, ?_⟩
    simpa [Lit.wf] using hw
  | n + 1, fuel, T, .bool, cs, x, h, hx => by
    obtain ⟨b, rfl, _⟩ := DataW.trod_bool h hx
    exact ⟨b, rfl⟩
  | n + 1, fuel, T, .str, cs, x, h, hx => by
    obtain ⟨s, rfl, _, hs⟩ := DataW.trod_string h hx
    exact ⟨s, rfl, hs⟩
  | n + 1, fuel, T, .slice e, cs, x, h, hx => by
    obtain ⟨te, h1, h2, h3⟩ := h
    rcases DataW.trod_slice h1 hx with ⟨rfl, _⟩ | ⟨a, len, cap, elems, rest, m, rfl, rfl, _, hb, hl, hm, hlen, hel, _, _⟩
    · exact ⟨[], none, 0, rfl, Nat.le_refl _, Nat.zero_le _, fun _ => rfl, fun i hi => by simp at hi⟩
    · have each : ∀ i, ∃ y : e.den, i < len → ∃ es, w.cells? 0 (a.add (i * e.size)) e.size = some es ∧ e.rd w (fun _ => True) y es := by
        intro i
        by_cases hi : i < len
        · have := hel i hi
          rw [List.getElem?_eq_getElem (by omega), h2, Option.bind_eq_some_iff] at this
          obtain ⟨es, k1, k2⟩ := this
          obtain ⟨y, k3⟩ := tt_rd n m te e es _ h3 k2
          exact ⟨y, fun _ => ⟨es, k1, k3⟩⟩
        · exact ⟨e.dflt, fun h => absurd h hi⟩
      obtain ⟨f, hf⟩ := Classical.axiomOfChoice each
      have hll : ((List.range len).map f).length = len := by simp
      refine ⟨(List.range len).map f, some a, cap, by rw [hll], by rw [hll]; exact hl, hm, fun h => (by cases h), fun i hi => ?_⟩
      have hi' : i < len := by rw [hll] at hi; exact hi
      obtain ⟨es, k1, k2⟩ := hf i hi'
      obtain ⟨_, k3, k4⟩ := World.cells?_some k1
      have hs := e.size_pos
      have spot : a.spot = none := by
        obtain ⟨es0, z1, _⟩ := hf 0 (by omega)
        obtain ⟨_, z3, z4⟩ := World.cells?_some z1
        have z5 := z4 0 hs
        rw [Nat.zero_mul, List.getElem?_eq_getElem (by omega)] at z5
        have : ((a.add 0).add 0) = a := by simp [Addr.add]
        rw [this] at z5
        unfold World.cell? at z5
        split at z5
        · cases hsp : a.spot with
          | none => rfl
          | some q => rw [hsp] at z5; simp at z5
        · cases z5
      have ea : a = ⟨a.block, a.off, none⟩ := by cases a; simp at spot; subst spot; rfl
      have hc : ∀ j (hj : j < es.length), w.cell? ⟨a.block, a.off + (i * e.size + j), none⟩ = some es[j] := by
        intro j hj
        have := k4 j (by omega)
        rw [ea, addr_add, addr_add, List.getElem?_eq_getElem hj] at this
        rw [← Nat.add_assoc]
        exact this
      refine ⟨a.block, a.off, es, by rw [← ea], trivial, ?_, by simpa using k2, hc⟩
      have h0 := hc 0 (by omega)
      have := cell_lt h0
      exact this
  | n + 1, fuel, T, .st t, cs, x, h, hx => by
    obtain ⟨fs, h1, h2, h3⟩ := h
    obtain ⟨xs, m, rfl, _, hl, hxs, hf⟩ := DataW.trod_struct h1 hx
    have := fields_rd (A := fun _ => True) (cs := cs) (m := m) (fun T t cs x h hx => tt_rd n m T t cs x h hx) _ t 0 h3 (by rw [hl, h2]; omega) (fun f hfm => by
      obtain ⟨g, hg, rfl⟩ := List.mem_map.1 hfm
      obtain ⟨i, hi⟩ := List.getElem?_of_mem hg
      rw [Array.getElem?_toList] at hi
      have := hf i g hi
      have hlt : i < fs.size := (Array.getElem?_eq_some_iff.1 hi).1
      rw [List.getElem?_eq_getElem (by omega)] at this
      exact ⟨_, this⟩)
    exact this
  | n + 1, fuel, T, .pair a b, cs, x, h, hx => h.elim

theorem open_ty {n : Nat} {T : TypeId} {t : Ty} {b0 : Nat} {v : Value} {d : DataW H} {p : List MemPlace} (htt : TT P n T t) (hv : Value.okWide P w .any b0 T v) (h : DataW.Trod enc P w 0 spare held T v d p) :
    ∃ x : t.den, ∀ G, (AV.v t.isSt (t.leaves x)).rel w G (fun _ => True) v := by
  have htt0 := htt
  have hh := h
  obtain ⟨fuel, hf⟩ := h
  obtain ⟨x, hx⟩ := tt_rd n fuel T t _ _ htt hf
  have one : t.isSt = false → v.cells = #[v] → ∃ x : t.den, ∀ G, (AV.v t.isSt (t.leaves x)).rel w G (fun _ => True) v := by
    intro h1 h2
    rw [h2] at hx
    exact ⟨x, fun G => ⟨[v], leaves_rel t x _ hx, by rw [h1]; rfl, fun _ => rfl⟩⟩
  match n, t with
  | 0, _ => exact htt.elim
  | n + 1, .int k => obtain ⟨m, rfl, _⟩ := open_int htt hv hh; exact one rfl rfl
  | n + 1, .bool => obtain ⟨m, rfl, _⟩ := open_bool htt hv hh; exact one rfl rfl
  | n + 1, .str => obtain ⟨m, rfl, _⟩ := Go.ChangeMaps.open_string htt hv hh; exact one rfl rfl
  | n + 1, .slice e =>
    obtain ⟨te, h1, h2, h3⟩ := htt
    obtain ⟨ao, len, cap, rfl⟩ := okWide_slice h1 hv
    exact one rfl rfl
  | n + 1, .st t =>
    obtain ⟨fs, h1, h2, h3⟩ := htt
    unfold Value.okWide at hv
    rw [h1] at hv
    obtain ⟨cs, rfl, _⟩ := hv
    exact ⟨x, fun G => ⟨cs.toList, leaves_rel (.st t) x _ hx, by simp [mkV, Ty.isSt], fun e => by cases e⟩⟩
  | n + 1, .pair a b => exact htt.elim
end

/-- a law's spec, at the arguments of its statement -/
theorem law_of {f : FuncId} {ts : List Ty} {pre : dens ts → Prop} (h : SpFact f (pureSp false ts pre (fun _ => .v false [.d .bool true]))) (W : World) (xs : dens ts) (vals : List Value) (hp : pre xs)
    (htb : ∀ w', Below W.heap.size W w' → Tb w') (ha : ∀ G, relAs W G (fun _ => True) (argAV ts xs) vals) (hx : argsOf (fun _ => none) ts (argAV ts xs) = some xs) : Calls Try.prog f vals.toArray W fun e w' => e = .returned (.bool true) ∧ Below W.heap.size W w' := by
  obtain ⟨fn, _, _, _, hsp⟩ := h.fn
  let F : Fr := ⟨W, fun _ => True, fun _ => False, fun _ => undef⟩
  let G : Gh := ⟨fun _ => undef, fun _ _ => False⟩
  have hr : RepH F (fun _ => none) G W := ⟨fun b ob h => (by cases h), fun b c ob oc _ h => (by cases h), fun b ob h => (by cases h), Only.refl _ _, fun _ h => h.elim, fun w' ho => htb w' ⟨ho.os, ho.tape, ho.output, ho.size, fun k hk => ho.block k hk id⟩⟩
  have hA : Okay F (fun _ => none) G = fun _ => True := by
    funext k
    have : ¬ Foot (fun _ => none) G k := by rintro ⟨b, ob, h1, _⟩; cases h1
    exact propext ⟨fun _ => trivial, fun _ => ⟨.inl trivial, this⟩⟩
  obtain ⟨_, h2⟩ := hsp 0 (argAV ts xs) (fun _ => none) ⟨pre xs, .v false [.d .bool true], [], []⟩ (by unfold pureSp; rw [hx]) hp
  refine Calls.mono (h2 F G W vals hr (by rw [hA]; exact ha G)) ?_
  rintro e w' ⟨v, rfl, G', _, q2, q3⟩
  have hb : v = .bool true := by
    have := AV.one_rel (x := .v false [.d .bool true]) rfl q3
    simpa using (show [v] = [.bool true] from this)
  have hfr := q2.fr
  exact ⟨by rw [hb], ⟨hfr.os, hfr.tape, hfr.output, hfr.size, fun k hk => hfr.block k hk id⟩⟩
end Go.Proofs.Ytgdlbpihkodeoaa
