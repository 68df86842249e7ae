/- Worlds that differ in some blocks alone. -/
import Derived.Test.YtgdlbpihkodeoaaBase
namespace Go.Proofs.Ytgdlbpihkodeoaa
open Go.RowKit

/-- only the blocks of S have changed (new ones may have come) -/
structure Only (S : Nat → Prop) (w w' : World) : Prop where
  os : w'.os = w.os
  tape : w'.tape = w.tape
  output : w'.output = w.output
  size : w.heap.size ≤ w'.heap.size
  block : ∀ k, k < w.heap.size → ¬ S k → w'.heap[k]? = w.heap[k]?

theorem Only.refl (S : Nat → Prop) (w : World) : Only S w w := ⟨rfl, rfl, rfl, Nat.le_refl _, fun _ _ _ => rfl⟩
theorem Only.call {S : Nat → Prop} {w x y : World} (h : Only S w x) (b : Below x.heap.size x y) : Only S w y :=
  ⟨b.os.trans h.os, b.tape.trans h.tape, b.output.trans h.output, Nat.le_trans h.size b.size, fun k hk hs => (b.block k (Nat.lt_of_lt_of_le hk h.size)).trans (h.block k hk hs)⟩
theorem Only.alloc {S : Nat → Prop} {w x : World} (h : Only S w x) (o : Obj) : Only S w (x.alloc o) := h.call (extAlloc (Below.refl _ _))
theorem Only.drewN {S : Nat → Prop} {w x : World} (h : Only S w x) (n : Nat) : Only S w (x.drewN n) := ⟨h.os, h.tape, h.output, h.size, h.block⟩
theorem Only.drew {S : Nat → Prop} {w x : World} (h : Only S w x) : Only S w x.drew := ⟨h.os, h.tape, h.output, h.size, h.block⟩
theorem Only.grown {S : Nat → Prop} {w x y : World} {r : Option Nat} (h : Only S w x) (g : x.grownBy y r) (hr : ∀ k, r = some k → k < w.heap.size → S k) : Only S w y :=
  ⟨g.os.trans h.os, g.tape.trans h.tape, g.output.trans h.output, Nat.le_trans h.size g.size, fun k hk hs => (g.block k (Nat.lt_of_lt_of_le hk h.size) (fun e => hs (hr k e.symm hk))).trans (h.block k hk hs)⟩
theorem Only.set {S : Nat → Prop} {w x : World} (h : Only S w x) {a : Addr} (ha : a.block < w.heap.size → S a.block) (u : Value) : Only S w (x.setCell a u) :=
  ⟨h.os, h.tape, h.output, by rw [show (x.setCell a u).heap.size = x.heap.size by simp [World.setCell]]; exact h.size, fun k hk hs => by
    rw [Below.heap_setCell _ _ _ _ (fun e => hs (by subst e; exact ha hk))]
    exact h.block k hk hs⟩
theorem Only.below {S : Nat → Prop} {w x : World} {B : Nat} (h : Only S w x) (hS : ∀ k, k < B → ¬ S k) (hB : B ≤ w.heap.size) : Below B w x :=
  ⟨h.os, h.tape, h.output, h.size, fun k hk => h.block k (Nat.lt_of_lt_of_le hk hB) (hS k hk)⟩
theorem Blk.only {S : Nat → Prop} {w x : World} {b : Nat} {cs : Array Value} {T : TypeId} (h : Blk w b cs T) (o : Only S w x) (hb : ¬ S b) : Blk x b cs T := (o.block b h.lt hb).trans h
theorem owns_only {S : Nat → Prop} {w x : World} {base : Nat} {e : TypeId} {size : Nat} {v : Value} {n : Nat} {xs : List Value} (h : w.ownsRow base e size v n xs) (o : Only S w x) (hv : ∀ k, v.ownBlock = some k → ¬ S k) : x.ownsRow base e size v n xs := by
  obtain ⟨h1, h2⟩ := h
  refine ⟨h1, ?_⟩
  rcases h2 with h2 | ⟨g, cap, cur, rfl, hg, hh, r⟩
  · exact .inl h2
  · exact .inr ⟨g, cap, cur, rfl, hg, (o.block g (lt_of_block hh) (hv g rfl)).trans hh, r⟩
end Go.Proofs.Ytgdlbpihkodeoaa
