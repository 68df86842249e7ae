/- Base: what a slice in memory reads as, kept over every later world. No program in sight. -/
import Derived.WalkKit
import Derived.WalkSpells
import Derived.WalkLawsBesides
import Derived.Lib.Hide
import Derived.Deep.QuietTactic
import Derived.BigQuiet
import Derived.Deep.RegionWith
import Derived.Deep.DeepMust
import Derived.Deep.DeepCutAuto
import Derived.Deep.CutRange
import Derived.ProofKit
import Derived.OpenShut
import Derived.Laws.AppendOwnNone
namespace Go.Proofs.Ytgdlbpihkodeoaa
open Go.RowKit

/-- the cells of a row, one cell an element -/
def Row (w : World) (ao : Option Addr) (xs : List Value) : Prop :=
  ∀ i (h : i < xs.length), ∃ b off, ao = some ⟨b, off, none⟩ ∧ w.cell? ⟨b, off + i, none⟩ = some xs[i]

/-- a slice value of n elements whose cells are xs -/
def SlN (w : World) (v : Value) (n : Nat) (xs : List Value) : Prop :=
  ∃ ao cap, v = .slice ao n cap ∧ n ≤ cap ∧ cap ≤ maxLen ∧ Row w ao xs ∧ (ao = none → cap = 0)
/-- one cell an element -/
def Sl (w : World) (v : Value) (xs : List Value) : Prop := SlN w v xs.length xs

theorem Sl.nil (w : World) : Sl w (.slice none 0 0) [] :=
  ⟨none, 0, rfl, Nat.le_refl _, Nat.zero_le _, fun i h => by simp at h, fun _ => rfl⟩

theorem cell_lt {w : World} {a : Addr} {v : Value} (h : w.cell? a = some v) : a.block < w.heap.size := by
  unfold World.cell? at h
  rcases Nat.lt_or_ge a.block w.heap.size with h1 | h1
  · exact h1
  · rw [Array.getElem?_eq_none h1] at h; simp at h

theorem Row.mono {w w' : World} {ao : Option Addr} {xs : List Value} (h : Row w ao xs) (b : Below w.heap.size w w') : Row w' ao xs := by
  intro i hi
  obtain ⟨k, off, e, hc⟩ := h i hi
  exact ⟨k, off, e, (b.cell (p := ⟨k, off + i, none⟩) (cell_lt hc)).trans hc⟩

theorem SlN.mono {w w' : World} {v : Value} {n : Nat} {xs : List Value} (h : SlN w v n xs) (b : Below w.heap.size w w') : SlN w' v n xs := by
  obtain ⟨ao, cap, e, h1, h2, h3, h4⟩ := h
  exact ⟨ao, cap, e, h1, h2, h3.mono b, h4⟩
theorem Sl.mono {w w' : World} {v : Value} {xs : List Value} (h : Sl w v xs) (b : Below w.heap.size w w') : Sl w' v xs := SlN.mono h b

/-- bytes -/
def u8v (c : UInt8) : Value := .int .u8 (c.toNat : Int)
def U8s (w : World) (v : Value) (l : List UInt8) : Prop := Sl w v (l.map u8v)
theorem U8s.mono {w w' : World} {v : Value} {l : List UInt8} (h : U8s w v l) (b : Below w.heap.size w w') : U8s w' v l := SlN.mono h b
theorem U8s.sl {w : World} {v : Value} {l : List UInt8} (h : U8s w v l) : SlN w v l.length (l.map u8v) := by
  have h' : SlN w v (l.map u8v).length (l.map u8v) := h
  rwa [List.length_map] at h'
theorem U8s.of {w : World} {v : Value} {l : List UInt8} (h : SlN w v l.length (l.map u8v)) : U8s w v l := by
  show SlN w v (l.map u8v).length (l.map u8v)
  rwa [List.length_map]
/-- strings -/
def Strs (w : World) (v : Value) (l : List ByteArray) : Prop := Sl w v (l.map Value.string) ∧ ∀ s ∈ l, s.size ≤ maxLen
theorem Strs.mono {w w' : World} {v : Value} {l : List ByteArray} (h : Strs w v l) (b : Below w.heap.size w w') : Strs w' v l := ⟨SlN.mono h.1 b, h.2⟩
theorem Strs.sl {w : World} {v : Value} {l : List ByteArray} (h : Strs w v l) : SlN w v l.length (l.map Value.string) := by
  have h' : SlN w v (l.map Value.string).length (l.map Value.string) := h.1
  rwa [List.length_map] at h'
theorem Strs.of {w : World} {v : Value} {l : List ByteArray} (h : SlN w v l.length (l.map Value.string)) (hm : ∀ s ∈ l, s.size ≤ maxLen) : Strs w v l := by
  refine ⟨?_, hm⟩
  show SlN w v (l.map Value.string).length (l.map Value.string)
  rwa [List.length_map]
theorem Strs.nil (w : World) : Strs w (.slice none 0 0) [] := ⟨Sl.nil w, fun _ h => by cases h⟩
/-- ints -/
def i64v (n : Int) : Value := .int .i64 n
def Ints (w : World) (v : Value) (l : List Int) : Prop := Sl w v (l.map i64v)

theorem Ints.mono {w w' : World} {v : Value} {l : List Int} (h : Ints w v l) (b : Below w.heap.size w w') : Ints w' v l := SlN.mono h b
theorem Ints.sl {w : World} {v : Value} {l : List Int} (h : Ints w v l) : SlN w v l.length (l.map i64v) := by
  have h' : SlN w v (l.map i64v).length (l.map i64v) := h
  rwa [List.length_map] at h'
theorem Ints.of {w : World} {v : Value} {l : List Int} (h : SlN w v l.length (l.map i64v)) : Ints w v l := by
  show SlN w v (l.map i64v).length (l.map i64v)
  rwa [List.length_map]

theorem str_eq {s t : ByteArray} (h : s = t) : (s.toList == t.toList) = true := by subst h; simp
theorem str_ne {s t : ByteArray} (h : ¬ s = t) : (s.toList == t.toList) = false := by
  rw [beq_eq_false_iff_ne, ByteArray.toList_eq, ByteArray.toList_eq]
  intro e
  apply h
  cases s; cases t
  congr 1
  exact Array.toList_inj.1 e

theorem bcell {W w1 : World} (hb : Below W.heap.size W w1) : (∀ b o, b < W.heap.size → w1.cell? ⟨b, o, none⟩ = W.cell? ⟨b, o, none⟩) ∧ (∀ b o, b < W.heap.size → w1.frozen? ⟨b, o, none⟩ = W.frozen? ⟨b, o, none⟩) :=
  ⟨fun b o h => hb.cell (p := ⟨b, o, none⟩) h, fun b o h => hb.frozen (p := ⟨b, o, none⟩) h⟩

theorem maxLen_eq : maxLen = 9223372036854775807 := rfl

theorem ret_int {k : IntKind} {a b : Int} (h : a = b) : Ending.returned (.int k a) = .returned (.int k b) := by rw [h]

/-- the steps by which a world grows out of another -/
theorem extAlloc {a w : World} {o : Obj} (h : Below a.heap.size a w) : Below a.heap.size a (w.alloc o) := h.alloc h.size o
theorem extDrew {a w : World} (h : Below a.heap.size a w) : Below a.heap.size a w.drew := h.drew
theorem extDrewN {a w : World} {n : Nat} (h : Below a.heap.size a w) : Below a.heap.size a (w.drewN n) := below_drewN h n
theorem extCall {a w w' : World} (h : Below a.heap.size a w) (k : Below w.heap.size w w') : Below a.heap.size a w' := h.trans (k.mono h.size)
theorem extSet {a w : World} {p : Addr} (h : Below a.heap.size a w) (hp : a.heap.size ≤ p.block) (u : Value) : Below a.heap.size a (w.setCell p u) := h.setCell hp u

theorem extStep {a w w' : World} {B : Nat} (h : Below a.heap.size a w) (k : Below B w w') (hB : a.heap.size ≤ B) : Below a.heap.size a w' := h.trans (k.mono hB)

/-- a block known whole -/
def Blk (w : World) (b : Nat) (cs : Array Value) (T : TypeId) : Prop := w.heap[b]? = some (.cells cs T (0, 0))

theorem Blk.lt {w : World} {b : Nat} {cs : Array Value} {T : TypeId} (h : Blk w b cs T) : b < w.heap.size := lt_of_block h
theorem Blk.cell {w : World} {b : Nat} {cs : Array Value} {T : TypeId} (h : Blk w b cs T) (i : Nat) : w.cell? ⟨b, i, none⟩ = cs[i]? := cell_of_row w b i cs T (0, 0) h
theorem Blk.fr {w : World} {b : Nat} {cs : Array Value} {T : TypeId} (h : Blk w b cs T) (i : Nat) : w.frozen? ⟨b, i, none⟩ = false := frozen_of_row w b i cs T h
theorem Blk.new (w : World) (cs : Array Value) (T : TypeId) : Blk (w.alloc (.cells cs T)) w.heap.size cs T := heap_alloc_new w _
theorem Blk.alloc {w : World} {b : Nat} {cs : Array Value} {T : TypeId} (h : Blk w b cs T) (o : Obj) : Blk (w.alloc o) b cs T := (Below.heap_alloc w o b h.lt).trans h
theorem Blk.mono {w w' : World} {b B : Nat} {cs : Array Value} {T : TypeId} (h : Blk w b cs T) (hb : Below B w w') (hB : b < B) : Blk w' b cs T := (hb.block b hB).trans h
theorem Blk.call {w w' : World} {b : Nat} {cs : Array Value} {T : TypeId} (h : Blk w b cs T) (hb : Below w.heap.size w w') : Blk w' b cs T := h.mono hb h.lt
theorem Blk.drew {w : World} {b : Nat} {cs : Array Value} {T : TypeId} (h : Blk w b cs T) : Blk w.drew b cs T := h
theorem Blk.drewN {w : World} {b : Nat} {cs : Array Value} {T : TypeId} (h : Blk w b cs T) (n : Nat) : Blk (w.drewN n) b cs T := h
theorem Blk.set {w : World} {b : Nat} {cs : Array Value} {T : TypeId} (h : Blk w b cs T) (i : Nat) (v : Value) : Blk (w.setCell ⟨b, i, none⟩ v) b (cs.setIfInBounds i v) T := heap_setCell_same w b i cs T v h
theorem Blk.other {w : World} {b : Nat} {cs : Array Value} {T : TypeId} (h : Blk w b cs T) (a : Addr) (v : Value) (ne : b ≠ a.block) : Blk (w.setCell a v) b cs T := (heap_setCell_other w a b v ne).trans h

/-- an old cell in a later world -/
theorem Row.at {w : World} {ao : Option Addr} {xs : List Value} (h : Row w ao xs) (i : Nat) (hi : i < xs.length) : ∃ b off, ao = some ⟨b, off, none⟩ ∧ b < w.heap.size ∧ w.cell? ⟨b, off + i, none⟩ = some xs[i] := by
  obtain ⟨b, off, e, hc⟩ := h i hi
  exact ⟨b, off, e, cell_lt hc, hc⟩


theorem addr_add (b off j : Nat) : (⟨b, off, none⟩ : Addr).add j = ⟨b, off + j, none⟩ := by unfold Addr.add; split <;> simp_all

/-- cells that a reading names one by one -/
theorem row_of_add {w : World} {a : Addr} {n : Nat} {xs : List Value} (h : ∀ i, i < n → ∃ v, w.cell? (a.add i) = some v ∧ ∀ hx : i < xs.length, xs[i] = v) (hn : xs.length ≤ n) : Row w (some a) xs := by
  intro i hi
  rcases a with ⟨b, off, spot⟩
  have hs0 : spot = none := by
    obtain ⟨v, h0, _⟩ := h 0 (by omega)
    have : (⟨b, off, spot⟩ : Addr).add 0 = ⟨b, off, spot⟩ := by simp [Addr.add]
    rw [this] at h0
    unfold World.cell? at h0
    split at h0
    · cases spot with
      | none => rfl
      | some x => simp at h0
    · cases h0
  subst hs0
  obtain ⟨v, hc, hx⟩ := h i (by omega)
  rw [addr_add] at hc
  exact ⟨b, off, rfl, by rw [hc, hx hi]⟩

/-- what the call owns, as a slice that is read -/
theorem sl_of_owns {w : World} {base : Nat} {e : TypeId} {size : Nat} {v : Value} {n : Nat} {xs : List Value} (h : w.ownsRow base e size v n xs) : SlN w v n xs := by
  obtain ⟨hl, hv⟩ := h
  rcases hv with ⟨rfl, rfl⟩ | ⟨g, cap, cur, rfl, hb, hg, hn, hm, hs, ht⟩
  · have : xs = [] := by simpa using hl
    subst this
    exact ⟨none, 0, rfl, Nat.le_refl _, Nat.zero_le _, fun i h => by simp at h, fun _ => rfl⟩
  · refine ⟨_, cap, rfl, hn, hm, ?_, fun h => by cases h⟩
    intro i hi
    refine ⟨g, 0, rfl, ?_⟩
    have hown : w.ownsRow base e size (.slice (some ⟨g, 0, none⟩) n cap) n xs := ⟨hl, .inr ⟨g, cap, cur, rfl, hb, hg, hn, hm, hs, ht⟩⟩
    have := hown.cells (g := g) rfl i xs[i] (by rw [List.getElem?_eq_getElem hi])
    rw [addr_add] at this
    exact this

/-- THE LAW: append to a slice that the call owns (or nil), whatever the source reads as. -/
theorem wpList_append_sl {P : Program} {w : World} {ops : Array Oper} {rest : List Oper} {o : Oper} {a : Act} {Q : Exit → Act → World → Prop} (hgd : o.guard = none) (s x : Operand) (t : TypeId)
    (ho : o.op = .call { callee := .builtin .append, args := #[s, x], argTypes := #[t, t] })
    (base : Nat) (e : TypeId) (i : TypeInfo) (z : Value) (size bytes : Nat) (ht : P.underlying t = some (.slice e)) (hi : P.info? e = some i) (hz : i.zero = some z)
    (hsize : i.size = size) (hby : i.bytes = bytes) (hzs : z.cells.size = size) (hsz : 0 < size)
    (v : Value) (n : Nat) (xs : List Value) (hs : a.eval s = v) (hown : w.ownsRow base e size v n xs)
    (sv : Value) (m : Nat) (news : List Value) (hx : a.eval x = sv) (hsl : SlN w sv m news) (hl : news.length = m * size) (h1 : ∀ u ∈ news, u.oneCell' = true)
    (hbytes : (n + m) * bytes ≤ 140737488355328) (h63 : n + m ≤ maxLen) (hbase : base ≤ w.heap.size)
    (h : ∀ v' w', w'.ownsRow base e size v' (n + m) (xs ++ news) → w.grownBy w' v.ownBlock → Below base w w' → wpList P ops Q rest (a.put o.dst v') w') : wpList P ops Q (o :: rest) a w := by
  replace h : ∀ v' w', w'.ownsRow base e size v' (n + m) (xs ++ news) → w.grownBy w' v.ownBlock → wpList P ops Q rest (a.put o.dst v') w' :=
    fun v' w' h1 h2 => h v' w' h1 h2 ((Below.refl base w).grown h2 hbase (fun k hk => (hown.lt k hk).1))
  obtain ⟨ao, cap, rfl, hmc, hcm, hrow, hnil⟩ := hsl
  cases ao with
  | some ad =>
    refine wpList_append_own w hgd s x t ho base e i z size bytes ht hi hz hsize hby hzs hsz v n xs hs hown ad m cap news hx hl ?_ h1 h63 hbytes hbase (fun v' w' h2 h3 _ => h v' w' h2 h3)
    intro j u hu
    obtain ⟨hj, rfl⟩ := List.getElem?_eq_some_iff.1 hu
    obtain ⟨b, off, hb, hc⟩ := hrow j hj
    obtain rfl : ad = ⟨b, off, none⟩ := by simpa using hb
    rw [addr_add]
    exact hc
  | none =>
    have hc := hnil rfl
    subst hc
    obtain rfl : m = 0 := by omega
    obtain rfl : news = [] := by simpa using hl
    refine wpList_append_own_none hgd s x t ho base e i size ht hi v n xs hs hown hx ?_
    refine h v w ?_ ⟨rfl, rfl, rfl, Nat.le_refl _, fun _ _ _ => rfl⟩
    simpa using hown

theorem below_grown {B : Nat} {a w w' : World} {v : Value} (h : Below B a w) (hg : w.grownBy w' v.ownBlock) {base : Nat} {e : TypeId} {size n : Nat} {xs : List Value} (ho : w.ownsRow base e size v n xs) (hB : B ≤ base) (hw : B ≤ w.heap.size) : Below B a w' :=
  h.grown hg hw (fun k hk => Nat.le_trans hB (ho.lt k hk).1)

/-- what one call owns, another world keeps -/
theorem owns_call {w w' : World} {base : Nat} {e : TypeId} {size : Nat} {v : Value} {n : Nat} {xs : List Value} (h : w.ownsRow base e size v n xs) (b : Below w.heap.size w w') : w'.ownsRow base e size v n xs :=
  h.kept (row := none) ⟨b.os, b.tape, b.output, b.size, fun k hk _ => b.block k hk⟩ (by cases hv : v.ownBlock <;> simp)

theorem owns_made {w : World} {base n : Nat} {e : TypeId} {size : Nat} (hn : n = w.heap.size) (hb : base ≤ n) : (w.alloc (.cells #[] e)).ownsRow base e size (.slice (some ⟨n, 0, none⟩) 0 0) 0 [] := by
  subst hn
  exact World.ownsRow_made w #[] 0 hb (Nat.zero_le _) (by simp)

theorem owns_low {w : World} {base base' : Nat} {e : TypeId} {size : Nat} {v : Value} {n : Nat} {xs : List Value} (h : w.ownsRow base e size v n xs) (hb : base' ≤ base) : w.ownsRow base' e size v n xs := by
  obtain ⟨h1, h2⟩ := h
  refine ⟨h1, ?_⟩
  rcases h2 with h2 | ⟨g, cap, cur, hv, hg, r⟩
  · exact .inl h2
  · exact .inr ⟨g, cap, cur, hv, Nat.le_trans hb hg, r⟩

theorem owns_drewN {w : World} {base : Nat} {e : TypeId} {size : Nat} {v : Value} {n : Nat} {xs : List Value} (h : w.ownsRow base e size v n xs) (k : Nat) : (w.drewN k).ownsRow base e size v n xs := h

theorem sl_one {w : World} {n T : Nat} (v : Value) (hn : n = w.heap.size) : Sl (w.alloc (.cells #[v] T)) (.slice (some ⟨n, 0, none⟩) 1 1) [v] := by
  subst hn
  refine ⟨some ⟨w.heap.size, 0, none⟩, 1, rfl, Nat.le_refl _, by decide, ?_, fun h => by cases h⟩
  intro i hi
  obtain rfl : i = 0 := by simpa using hi
  exact ⟨_, _, rfl, by simp⟩

theorem u8v_one (c : UInt8) : (u8v c).oneCell' = true := rfl
theorem map_oneCell {α : Type} (f : α → Value) (hf : ∀ a, (f a).oneCell' = true) (l : List α) : ∀ u ∈ l.map f, u.oneCell' = true := by
  intro u hu
  obtain ⟨a, _, rfl⟩ := List.mem_map.1 hu
  exact hf a

end Go.Proofs.Ytgdlbpihkodeoaa
