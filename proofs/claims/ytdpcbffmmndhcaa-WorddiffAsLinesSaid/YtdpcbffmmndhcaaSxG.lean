/- Sx, part G: slices that are made: literals, make, append. -/
import Derived.Test.YtdpcbffmmndhcaaSxF
import Derived.Laws.OwnMore
namespace Go.Proofs.Ytdpcbffmmndhcaa
open Go.RowKit

theorem map_range_mod {zc : List Value} {size : Nat} (hz : zc.length = size) (hp : 0 < size) (z : Array Value) (hzz : z.toList = zc) : ∀ n, ((Array.range (n * size)).map fun i => z[i % z.size]!).toList = (List.replicate n zc).flatten
  | 0 => by simp
  | n + 1 => by
    have ih := map_range_mod hz hp z hzz n
    have hs : z.size = size := by rw [← Array.length_toList, hzz, hz]
    rw [Array.toList_map, Array.toList_range] at ih ⊢
    rw [Nat.add_mul, Nat.one_mul, List.range_add, List.map_append, ih, List.replicate_succ', List.flatten_append]
    congr 1
    rw [List.map_map]
    simp only [List.flatten_cons, List.flatten_nil, List.append_nil]
    apply List.ext_getElem
    · simp [hz]
    · intro j h1 h2
      simp only [List.length_map, List.length_range] at h1
      simp only [List.getElem_map, List.getElem_range, Function.comp]
      have : (n * size + j) % z.size = j := by rw [hs, Nat.mul_comm, Nat.mul_add_mod, Nat.mod_eq_of_lt h1]
      rw [this, getElem!_pos z j (by omega)]
      simp only [← hzz, Array.getElem_toList]

theorem relL_flatten {w : World} {G : Gh} {A : Nat → Prop} {ls : List Lf} {vs : List Value} (h : relL w G A ls vs) : ∀ n, relL w G A (List.replicate n ls).flatten (List.replicate n vs).flatten
  | 0 => rfl
  | n + 1 => by rw [List.replicate_succ, List.replicate_succ, List.flatten_cons, List.flatten_cons]; exact relL_append h (relL_flatten h n)

theorem rdL_replicate {w : World} {A : Nat → Prop} (t : Ty) : ∀ n, rdL w A t (List.replicate n t.dflt) (List.replicate n t.zc).flatten
  | 0 => rfl
  | n + 1 => by rw [List.replicate_succ, List.replicate_succ, List.flatten_cons]; exact ⟨t.zc, _, rfl, zc_rd t, rdL_replicate t n⟩

theorem buildSlice_sound {P : Program} {F : Fr} {hp : Nat → Option Ob} {G : Gh} {ρ : Operand → Value} {o : Oper} {w : World} (T E : TypeId) (n : Nat) (parts : Array (Nat × Operand)) (ho : o.op = .buildSlice T n parts)
    {i j : TI} (hi : i.ok P T) (hk : i.kind = .slice E) (hj : j.ok P E) (h1 : j.agg = false → j.size = 1) (hz : 0 < j.size) (hb : n * j.size ≤ 1000000)
    {ev : Operand → AV} (hev : ∀ x, (ev x).rel w G (Okay F hp G) (ρ x)) {ls : List Lf} (d : Nat)
    (e : cFill (fun i => some (i * j.size, j.size)) (List.replicate n (j.zc.map lfOf)).flatten (parts.toList.map fun p => (p.1, ev p.2)) = some ls) (h : RepH F hp G w) :
    Runs P ρ o w (Aft F hp G w (upd (scrH hp d d) d (some (.arr E n (ls.map (Lf.scrub d))))) (.v false [.o d]) [d]) := by
  have hcells : (mkV j.agg j.zc).cells.toList = j.zc := by rw [hj.zcells h1]
  have hinit : ((Array.range (n * j.size)).map fun i => (if n * j.size = 0 then (#[] : Array Value) else (mkV j.agg j.zc).cells)[i % (if n * j.size = 0 then (#[] : Array Value) else (mkV j.agg j.zc).cells).size]!).toList = (List.replicate n j.zc).flatten := by
    by_cases h0 : n * j.size = 0
    · have : n = 0 := by
        rcases Nat.mul_eq_zero.1 h0 with q | q
        · exact q
        · omega
      subst this
      simp
    · simp only [h0, if_false]
      exact map_range_mod hj.z.1 hz _ hcells n
  obtain ⟨res, k1, k2⟩ := cFill_rel (fun i => some (i * j.size, j.size)) _ _ ls (parts.toList.map fun p => (p.1, ρ p.2)) _ e (relP_map hev _) (by rw [hinit]; exact relL_flatten (lfOf_rels _ _ _ j.zc hj.z.2) n)
  have hle : ¬ n * j.size > 2 ^ 24 := by omega
  have hr : (execOp ρ o).run P w = .ok (.value (.slice (some ⟨w.heap.size, 0, none⟩) n n)) (w.alloc (.cells res E)) := by
    by_cases h0 : n * j.size = 0
    · have hle0 : ¬ (0 : Nat) > 2 ^ 24 := by decide
      simp only [h0, if_true] at k1
      simp only [execOp, ho, Instr.buildSlice, Sem.run_bind, Result.andThen_ok, run_underlying (hi.slice hk), run_size hj, h0, hle0, if_false, if_true, Sem.run_pure, Array.toList_map, k1, newRow, newObj]
      rfl
    · simp only [h0, if_false] at k1
      simp only [execOp, ho, Instr.buildSlice, Sem.run_bind, Result.andThen_ok, run_underlying (hi.slice hk), run_size hj, hle, if_false, h0, run_zero hj, Sem.run_pure, Array.toList_map, k1, newRow, newObj]
      rfl
  have hn : n ≤ maxLen := by
    have : n * 1 ≤ n * j.size := Nat.mul_le_mul_left _ hz
    have : (1000000 : Nat) ≤ maxLen := by decide
    omega
  obtain ⟨G', e1, e2, e3⟩ := alloc_step h d (.slice (some ⟨w.heap.size, 0, none⟩) n n) res E (.arr E n (ls.map (Lf.scrub d))) (fun A' G' k3 k4 k5 =>
    ⟨w.heap.size, _, k3, hn, heap_alloc_new w _, k5.lsS k2, k4⟩)
  exact Runs.of_ok hr ⟨G', e1, e2, AV.rel_of ⟨e3.symm, rfl⟩⟩

theorem owns_foot {w : World} {E : TypeId} {size n : Nat} {v : Value} {vs : List Value} (h : w.ownsRow 0 E size v n vs) {k : Nat} (hk : v.ownBlock = some k) : k < w.heap.size := (h.lt k hk).2

theorem make_sound {P : Program} {F : Fr} {hp : Nat → Option Ob} {G : Gh} {ρ : Operand → Value} {o : Oper} {w : World} (T E : TypeId) (x y : Operand) (ho : o.op = .makeSlice T x y)
    {i j : TI} {t : Ty} (hi : i.ok P T) (hk : i.kind = .slice E) (hj : TyOk P E j t) (h1 : j.agg = false → j.size = 1) {n : Int} {k1 k2 : IntKind} (hx : ρ x = .int k1 n) (hy : ρ y = .int k2 n) (h0 : 0 ≤ n) (hb : n * j.bytes ≤ 140737488355328) (h63 : n ≤ 1000000000000)
    (d : Nat) (h : RepH F hp G w) :
    Runs P ρ o w (Aft F hp G w (upd (scrH hp d d) d (some (.row E t (List.replicate n.toNat t.dflt)))) (.v false [.o d]) [d]) := by
  obtain ⟨jj, j1, j2, j3, j4⟩ := hj.ok.info
  obtain ⟨m, rfl⟩ : ∃ m : Nat, n = m := ⟨n.toNat, by omega⟩
  have hb' : jj.bytes * m ≤ 281474976710656 := by
    rw [j4, Nat.mul_comm]
    have : ((m * j.bytes : Nat) : Int) ≤ 140737488355328 := by rw [Int.natCast_mul]; exact hb
    omega
  have hmax : m ≤ maxLen := by rw [maxLen_eq]; omega
  have hb2 : (jj.bytes : Int) * (m : Int) ≤ 281474976710656 := by
    have : ((jj.bytes * m : Nat) : Int) ≤ 281474976710656 := by omega
    rwa [Int.natCast_mul] at this
  have hrun := run_make (P := P) w T E jj _ (hi.slice hk) j1 j2 k1 k2 m m (by omega) (Int.le_refl _) hb2 (by omega)
  simp only [Int.toNat_natCast] at hrun ⊢
  rw [j3] at hrun
  have hcells : (mkV j.agg j.zc).cells = t.zc.toArray := by rw [hj.ok.zcells h1, hj.zc]
  rw [hcells] at hrun
  have hsz : t.zc.length = t.size := by rw [← hj.zc, hj.ok.z.1, hj.sz]
  have hlist : (madeCells t.zc.toArray (m * j.size)).toList = (List.replicate m t.zc).flatten := by
    rw [hj.sz]
    exact map_range_mod hsz t.size_pos t.zc.toArray (by simp) m
  have hr : (execOp ρ o).run P w = .ok (.value (.slice (some ⟨w.heap.size, 0, none⟩) m m)) (w.alloc (.cells (madeCells t.zc.toArray (m * j.size)) E)) := by
    simp only [execOp, ho, Sem.run_bind, hx, hy, hrun, Result.andThen_ok, Sem.run_pure]
  obtain ⟨G', e1, e2, e3⟩ := alloc_step h d (.slice (some ⟨w.heap.size, 0, none⟩) m m) _ E (.row E t (List.replicate m t.dflt)) (fun A' G' k3 k4 k5 => by
    refine ⟨_, rdL_replicate t m, ?_, fun k => by rw [k3]; exact (k4 k).trans ⟨fun e => by rw [e]; rfl, fun e => by cases e; rfl⟩⟩
    rw [k3, List.length_replicate]
    have := World.ownsRow_lit (e := E) (base := 0) (size := t.size) w (madeCells t.zc.toArray (m * j.size)) m (Nat.zero_le _) hmax (by rw [size_madeCells, hj.sz])
    rw [hlist] at this
    exact this)
  exact Runs.of_ok hr ⟨G', e1, e2, AV.rel_of ⟨e3.symm, rfl⟩⟩

/-! ### append -/
/-- a slice as data that are read: what lies there -/
def packN (t : Ty) : Nat → List Lf → Option (List t.den)
  | 0, [] => some []
  | 0, _ => none
  | n + 1, ls => match t.pack ls with
    | some (x, r) => (packN t n r).map (x :: ·)
    | none => none
theorem packN_rd {w : World} {G : Gh} {A : Nat → Prop} {t : Ty} : ∀ (n : Nat) (ls : List Lf) (l : List t.den) (vs : List Value), packN t n ls = some l → relL w G A ls vs → rdL w A t l vs ∧ l.length = n
  | 0, [], l, vs, e, h => by cases e; exact ⟨h, rfl⟩
  | 0, _ :: _, l, vs, e, h => by cases e
  | n + 1, ls, l, vs, e, h => by
    unfold packN at e
    split at e
    · rename_i x r hp
      rw [Option.map_eq_some_iff] at e
      obtain ⟨l', e1, rfl⟩ := e
      obtain ⟨c, q, rfl, k1, k2⟩ := pack_rd t ls x r vs hp h
      obtain ⟨m1, m2⟩ := packN_rd n r l' q e1 k2
      exact ⟨⟨c, q, rfl, k1, m1⟩, by simp [m2]⟩
    · cases e

def castL {u v : Ty} (h : u = v) (l : List u.den) : List v.den := h ▸ l

def asList (hp : Nat → Option Ob) (t : Ty) : Lf → Option (List t.den)
  | .nl => some []
  | .d u l => if h : u = .slice t then some (castD h l) else none
  | .o b => match hp b with
    | some (.row _ u l) => if h : u = t then some (castL h l) else none
    | some (.arr _ n cs) => packN t n cs
    | _ => none
  | _ => none

/-- a slice value whose cells can be read -/
def Reads (w : World) (A : Nat → Prop) (t : Ty) (v : Value) (l : List t.den) : Prop :=
  ∃ vs, rdL w A t l vs ∧ SlN w v l.length vs

theorem rdL_of_rd {w : World} {A : Nat → Prop} {t : Ty} : ∀ (l : List t.den) (cs : Nat → List Value), (∀ i (h : i < l.length), t.rd w A l[i] (cs i)) → ∃ vs, rdL w A t l vs ∧ ∀ i (h : i < l.length) j (hj : j < (cs i).length), vs[i * t.size + j]? = some (cs i)[j]
  | [], cs, _ => ⟨[], rfl, fun i h => by simp at h⟩
  | x :: xs, cs, h => by
    obtain ⟨vs, k1, k2⟩ := rdL_of_rd xs (fun i => cs (i + 1)) (fun i hi => h (i + 1) (by simpa using hi))
    have h0 := h 0 (by simp)
    have hl := Ty.rd_len t x (cs 0) h0
    refine ⟨cs 0 ++ vs, ⟨cs 0, vs, rfl, h0, k1⟩, fun i hi j hj => ?_⟩
    cases i with
    | zero => rw [Nat.zero_mul, Nat.zero_add, List.getElem?_append_left hj, List.getElem?_eq_getElem hj]
    | succ i =>
      have e : (i + 1) * t.size + j = (cs 0).length + (i * t.size + j) := by rw [Nat.add_mul, hl]; omega
      rw [e, List.getElem?_append_right (by omega), Nat.add_sub_cancel_left]
      exact k2 i (by simpa using hi) j hj

theorem rd_reads {w : World} {A : Nat → Prop} {t : Ty} {l : List t.den} {v : Value} (h : (Ty.slice t).rd w A l [v]) : Reads w A t v l := by
  obtain ⟨ao, cap, h0, h1, h2, h3, h4⟩ := h
  cases h0
  cases l with
  | nil => exact ⟨[], rfl, ao, cap, rfl, h1, h2, fun i hi => by simp at hi, h3⟩
  | cons x xs =>
    obtain ⟨b, off, _, rfl, _⟩ := h4 0 (by simp)
    have h5 : ∀ i, ∃ es, ∀ (h : i < (x :: xs).length), t.rd w A (x :: xs)[i] es ∧ ∀ j (hj : j < es.length), w.cell? ⟨b, off + (i * t.size + j), none⟩ = some es[j] := by
      intro i
      by_cases hi : i < (x :: xs).length
      · obtain ⟨b', off', es, e, _, _, k1, k2⟩ := h4 i hi
        cases e
        exact ⟨es, fun _ => ⟨k1, k2⟩⟩
      · exact ⟨[], fun h => absurd h hi⟩
    obtain ⟨cs, hcs⟩ := Classical.axiomOfChoice h5
    obtain ⟨vs, k1, k2⟩ := rdL_of_rd (x :: xs) cs (fun i hi => (hcs i hi).1)
    refine ⟨vs, k1, some ⟨b, off, none⟩, cap, rfl, h1, h2, fun q hq => ⟨b, off, rfl, ?_⟩, fun e => by cases e⟩
    have hvl := rdL_len k1
    have hs := t.size_pos
    have hi : q / t.size < (x :: xs).length := by rw [Nat.div_lt_iff_lt_mul hs]; omega
    have hl := Ty.rd_len t _ _ (hcs _ hi).1
    have hj : q % t.size < (cs (q / t.size)).length := by rw [hl]; exact Nat.mod_lt _ hs
    have e : q / t.size * t.size + q % t.size = q := by rw [Nat.mul_comm]; exact Nat.div_add_mod q t.size
    have c1 := (hcs _ hi).2 _ hj
    have c2 := k2 _ hi _ hj
    rw [e] at c1 c2
    rw [c1, ← c2, List.getElem?_eq_getElem hq]

theorem asList_reads {F : Fr} {hp : Nat → Option Ob} {G : Gh} {w : World} {t : Ty} {x : Lf} {l : List t.den} {v : Value} (e : asList hp t x = some l) (h : RepH F hp G w) (hx : x.rel w G (Okay F hp G) v) : Reads w (Okay F hp G) t v l := by
  unfold asList at e
  split at e
  · cases e
    obtain rfl := (show v = _ from hx)
    exact ⟨[], rfl, none, 0, rfl, Nat.le_refl _, Nat.zero_le _, fun i hi => by simp at hi, fun _ => rfl⟩
  · split at e
    · rename_i u l' hu
      subst hu
      cases e
      exact rd_reads hx
    · cases e
  · rename_i b
    obtain ⟨hv, h1⟩ := hx
    split at e
    · rename_i E u l' hb
      split at e
      · rename_i hu
        subst hu
        cases e
        obtain ⟨vs, k1, k2, k3⟩ := h.sat b _ hb
        rw [hv]
        exact ⟨vs, k1, sl_of_owns k2⟩
      · cases e
    · rename_i E n cs hb
      obtain ⟨g, vs, k1, k2, k3, k4, k5⟩ := h.sat b _ hb
      obtain ⟨m1, m2⟩ := packN_rd n cs l vs.toList e k4
      refine ⟨vs.toList, m1, some ⟨g, 0, none⟩, n, by rw [hv, k1, m2], by omega, k2, fun q hq => ⟨g, 0, rfl, ?_⟩, fun e => by cases e⟩
      rw [Nat.zero_add, cell_of_row w g q vs E (0, 0) k3, ← Array.getElem?_toList, List.getElem?_eq_getElem hq]
    · cases e
  · cases e

/-- what append may write to: nil, a named row, a literal -/
def ownOf (hp : Nat → Option Ob) (t : Ty) (d : Nat) : Lf → Option (Nat × List t.den)
  | .nl => some (d, [])
  | .o b => match hp b with
    | some (.row _ u l) => if h : u = t then some (b, castL h l) else none
    | some (.arr _ n cs) => (packN t n cs).map (b, ·)
    | _ => none
  | _ => none
def rowE (hp : Nat → Option Ob) : Lf → TypeId → Bool
  | .nl, _ => true
  | .o b, E => match hp b with
    | some (.row E' _ _) => Nat.beq E' E
    | some (.arr E' _ _) => Nat.beq E' E
    | _ => false
  | _, _ => false

theorem owns_one {w : World} {base : Nat} {E : TypeId} {size n : Nat} {v : Value} {vs : List Value} (h : w.ownsRow base E size v n vs) : v.oneCell' = true := by
  rcases h.2 with ⟨rfl, _⟩ | ⟨g, cap, cur, rfl, _⟩ <;> rfl

theorem ownOf_owns {F : Fr} {hp : Nat → Option Ob} {G : Gh} {w : World} {t : Ty} {d b : Nat} {E : TypeId} {x : Lf} {l : List t.den} {v : Value} (e : ownOf hp t d x = some (b, l)) (hE : rowE hp x E = true) (h : RepH F hp G w) (hx : x.rel w G (Okay F hp G) v) :
    ∃ vs, rdL w (Okay F hp G) t l vs ∧ w.ownsRow 0 E t.size v l.length vs ∧ ∀ k, v.ownBlock = some k → ∃ o0, hp b = some o0 ∧ G.f b k := by
  unfold ownOf at e
  split at e
  · cases e
    obtain rfl := (show v = _ from hx)
    exact ⟨[], rfl, World.ownsRow_nil _ _ _ _, fun k hk => by cases hk⟩
  · rename_i b'
    obtain ⟨hv, h1⟩ := hx
    split at e
    · rename_i E' u l' hb
      simp only [rowE, hb] at hE
      obtain rfl := Nat.eq_of_beq_eq_true hE
      split at e
      · rename_i hu
        subst hu
        cases e
        obtain ⟨vs, k1, k2, k3⟩ := h.sat _ _ hb
        rw [hv]
        exact ⟨vs, k1, k2, fun k hk => ⟨_, hb, (k3 k).2 hk⟩⟩
      · cases e
    · rename_i E' n cs hb
      simp only [rowE, hb] at hE
      obtain rfl := Nat.eq_of_beq_eq_true hE
      rw [Option.map_eq_some_iff] at e
      obtain ⟨l', e1, e2⟩ := e
      cases e2
      obtain ⟨g, vs, k1, k2, k3, k4, k5⟩ := h.sat _ _ hb
      obtain ⟨m1, m2⟩ := packN_rd n cs l vs.toList e1 k4
      have hlen := rdL_len m1
      refine ⟨vs.toList, m1, ⟨by rw [hlen], .inr ⟨g, n, vs, by rw [hv, k1, m2], Nat.zero_le _, k3, by omega, k2, ?_, ?_⟩⟩, fun k hk => ?_⟩
      · rw [← Array.length_toList, hlen, m2]
      · rw [List.take_of_length_le (by rw [hlen]; exact Nat.le_refl _)]
      · rw [hv, k1] at hk
        cases hk
        exact ⟨_, hb, (k5 _).2 rfl⟩
    · cases e
  · cases e

theorem append_sound {P : Program} {F : Fr} {hp : Nat → Option Ob} {G : Gh} {ρ : Operand → Value} {o : Oper} {w : World} (T E : TypeId) (s x : Operand) (ho : o.op = .call { callee := .builtin .append, args := #[s, x], argTypes := #[T, T] })
    {i j : TI} {t : Ty} (hi : i.ok P T) (hk : i.kind = .slice E) (hj : TyOk P E j t) (h1 : j.agg = false → j.size = 1) {a c : Lf} {b d : Nat} {l m : List t.den}
    (e1 : ownOf hp t d a = some (b, l)) (e2 : rowE hp a E = true) (e3 : asList hp t c = some m) (hb : (l.length + m.length) * j.bytes ≤ 140737488355328) (h63 : l.length + m.length ≤ 1000000000000)
    (h : RepH F hp G w) (ha : a.rel w G (Okay F hp G) (ρ s)) (hc : c.rel w G (Okay F hp G) (ρ x)) :
    Runs P ρ o w (Aft F hp G w (upd (scrH hp b d) d (some (.row E t (l ++ m)))) (.v false [.o d]) [d]) := by
  obtain ⟨vs, v1, v2, v3⟩ := ownOf_owns e1 e2 h ha
  obtain ⟨us, u1, ao, cap, u2, u3, u4, u5, u6⟩ := asList_reads e3 h hc
  obtain ⟨jj, j1, j2, j3, j4⟩ := hj.ok.info
  have hmax : l.length + m.length ≤ maxLen := by rw [maxLen_eq]; omega
  have hcells : (mkV j.agg j.zc).cells.size = t.size := by rw [hj.ok.zcells h1, hj.zc, List.size_toArray, ← hj.zc, hj.ok.z.1, hj.sz]
  have hrun : ∃ v' w', (Builtin.append_ #[T, T] o.type #[ρ s, ρ x]).run P w = .ok v' w' ∧ w'.ownsRow 0 E t.size v' (l.length + m.length) (vs ++ us) ∧ w.grownBy w' (ρ s).ownBlock ∧ (v'.ownBlock = (ρ s).ownBlock ∨ v'.ownBlock = some w.heap.size) := by
    rw [u2]
    cases ao with
    | none =>
      have hc0 := u6 rfl
      subst hc0
      have hm : m = [] := List.eq_nil_of_length_eq_zero (by omega)
      subst hm
      obtain rfl := (show us = _ from u1)
      refine ⟨ρ s, w, run_append_owned_none (P := P) (w := w) 0 T o.type E jj t.size (hi.slice hk) j1 (ρ s) l.length vs v2, by simpa using v2, ⟨rfl, rfl, rfl, Nat.le_refl _, fun _ _ _ => rfl⟩, .inl rfl⟩
    | some ad =>
      obtain ⟨v', w', r1, r2, r3, _, r5⟩ := run_append_own_at (P := P) w 0 T o.type E jj _ t.size j.bytes (hi.slice hk) j1 j2 (by rw [j3, hj.sz]) j4 hcells t.size_pos (ρ s) l.length vs v2 ad m.length cap us (rdL_len u1) (fun q u hu => by
        obtain ⟨hq, rfl⟩ := List.getElem?_eq_some_iff.1 hu
        obtain ⟨g, off, e, hcell⟩ := u5 q hq
        cases e
        rw [addr_add0]
        exact hcell) (rdL_one u1) hmax hb (Nat.zero_le _)
      exact ⟨v', w', r1, r2, r3, r5⟩
  obtain ⟨v', w', r1, r2, r3, r4⟩ := hrun
  have hr : (execOp ρ o).run P w = .ok (.value v') w' := by
    simp only [execOp, ho, resolve, invoke, builtin, Sem.run_bind, Sem.run_pure, Result.andThen_ok, List.map_toArray, List.map_cons, List.map_nil, r1]
  obtain ⟨G', g1, g2, g3⟩ := grow_step h b d v' (fun k => v'.ownBlock = some k) (.row E t (l ++ m))
    (fun k hk hl => by
      rcases r4 with r4 | r4
      · rw [r4] at hk; exact v3 k hk
      · rw [r4] at hk; cases hk; omega)
    (fun k hk => owns_foot r2 hk)
    ((Only.refl _ _).grown r3 (fun k hk _ => v3 k hk))
    (fun A' G' q1 q2 _ q4 => by
      refine ⟨vs ++ us, ?_, ?_, fun k => by rw [q1]; exact q2 k⟩
      · have hmono : ∀ k, Okay F hp G k → k < w.heap.size → A' k ∧ w'.heap[k]? = w.heap[k]? := fun k k1 k2 => ⟨q4.keepA k k2 k1, q4.only.block k k2 (q4.apart k k1)⟩
        exact rdL_append (rdL_mono q4.only.size hmono v1) (rdL_mono q4.only.size hmono u1)
      · rw [q1, List.length_append]
        exact r2)
  exact Runs.of_ok hr ⟨G', g1, g2, AV.rel_of ⟨g3.symm, owns_one r2⟩⟩

/-- one element that is appended with cells that are not data yet -/
def opnL : Lf → Bool
  | .nl => true
  | .o _ => true
  | _ => false
def openE (hp : Nat → Option Ob) (t : Ty) : Lf → Option (List Lf)
  | .o k => match hp k with
    | some (.arr _ 1 cs) => bif cs.any opnL && Nat.beq cs.length t.size then some cs else none
    | _ => none
  | _ => none
theorem openE_reads {F : Fr} {hp : Nat → Option Ob} {G : Gh} {w : World} {t : Ty} {x : Lf} {cs : List Lf} {v : Value} (e : openE hp t x = some cs) (h : RepH F hp G w) (hx : x.rel w G (Okay F hp G) v) :
    cs.length = t.size ∧ ∃ vs g, relL w G (Okay F hp G) cs vs ∧ v = .slice (some ⟨g, 0, none⟩) 1 1 ∧ ∀ q (hq : q < vs.length), w.cell? ⟨g, q, none⟩ = some vs[q] := by
  unfold openE at e
  split at e
  · rename_i k
    split at e
    · rename_i E cs' hb
      cases hq : (cs'.any opnL && Nat.beq cs'.length t.size)
      · rw [hq] at e; cases e
      · rw [hq] at e
        cases e
        obtain ⟨g, vs, k1, k2, k3, k4, k5⟩ := h.sat k _ hb
        refine ⟨Nat.eq_of_beq_eq_true (Bool.and_eq_true_iff.1 hq).2, vs.toList, g, k4, hx.1.trans k1, fun q hq => ?_⟩
        rw [cell_of_row w g q vs E (0, 0) k3, ← Array.getElem?_toList, List.getElem?_eq_getElem hq]
    · cases e
  · cases e

theorem appendOpen_sound {P : Program} {F : Fr} {hp : Nat → Option Ob} {G : Gh} {ρ : Operand → Value} {o : Oper} {w : World} (T E : TypeId) (s x : Operand) (ho : o.op = .call { callee := .builtin .append, args := #[s, x], argTypes := #[T, T] })
    {i j : TI} {t : Ty} (hi : i.ok P T) (hk : i.kind = .slice E) (hj : TyOk P E j t) (h1 : j.agg = false → j.size = 1) {a c : Lf} {b d : Nat} {l : List t.den} {cs : List Lf}
    (e1 : ownOf hp t d a = some (b, l)) (e2 : rowE hp a E = true) (e3 : openE hp t c = some cs) (hb : (l.length + 1) * j.bytes ≤ 140737488355328) (h63 : l.length + 1 ≤ 1000000000000)
    (h : RepH F hp G w) (ha : a.rel w G (Okay F hp G) (ρ s)) (hc : c.rel w G (Okay F hp G) (ρ x)) :
    Runs P ρ o w (Aft F hp G w (upd (scrH hp b d) d (some (.rox E t l (cs.map (Lf.scrub d)) []))) (.v false [.o d]) [d]) := by
  obtain ⟨vs, v1, v2, v3⟩ := ownOf_owns e1 e2 h ha
  obtain ⟨u0, us, g0, u1, u2, u3⟩ := openE_reads e3 h hc
  obtain ⟨jj, j1, j2, j3, j4⟩ := hj.ok.info
  have hmax : l.length + 1 ≤ maxLen := by rw [maxLen_eq]; omega
  have hcells : (mkV j.agg j.zc).cells.size = t.size := by rw [hj.ok.zcells h1, hj.zc, List.size_toArray, ← hj.zc, hj.ok.z.1, hj.sz]
  have hul : us.length = t.size := by rw [relL_len u1, u0]
  obtain ⟨v', w', r1, r2, r3, _, r4⟩ := run_append_own_at (P := P) w 0 T o.type E jj (mkV j.agg j.zc) t.size j.bytes (hi.slice hk) j1 j2 (by rw [j3, hj.sz]) j4 hcells t.size_pos (ρ s) l.length vs v2 ⟨g0, 0, none⟩ 1 1 us (by rw [hul, Nat.one_mul]) (fun q u hu => by
    obtain ⟨hq, rfl⟩ := List.getElem?_eq_some_iff.1 hu
    rw [addr_add0, Nat.zero_add]
    exact u3 q hq) (relL_one u1) hmax hb (Nat.zero_le _)
  have hr : (execOp ρ o).run P w = .ok (.value v') w' := by
    simp only [execOp, ho, resolve, invoke, builtin, Sem.run_bind, Sem.run_pure, Result.andThen_ok, List.map_toArray, List.map_cons, List.map_nil, u2, r1]
  obtain ⟨G', g1, g2, g3⟩ := grow_step h b d v' (fun k => v'.ownBlock = some k) (.rox E t l (cs.map (Lf.scrub d)) [])
    (fun k hk hl => by
      rcases r4 with r4 | r4
      · rw [r4] at hk; exact v3 k hk
      · rw [r4] at hk; cases hk; omega)
    (fun k hk => owns_foot r2 hk)
    ((Only.refl _ _).grown r3 (fun k hk _ => v3 k hk))
    (fun A' G' q1 q2 _ q4 => by
      have hmono : ∀ k, Okay F hp G k → k < w.heap.size → A' k ∧ w'.heap[k]? = w.heap[k]? := fun k k1 k2 => ⟨q4.keepA k k2 k1, q4.only.block k k2 (q4.apart k k1)⟩
      refine ⟨vs, us, [], rdL_mono q4.only.size hmono v1, q4.lsS u1, hul, rfl, ?_, fun k => by rw [q1]; exact q2 k⟩
      rw [q1, List.append_nil]
      exact r2)
  exact Runs.of_ok hr ⟨G', g1, g2, AV.rel_of ⟨g3.symm, owns_one r2⟩⟩
end Go.Proofs.Ytdpcbffmmndhcaa
