/- Slices of ints that a call makes: append. -/
import Derived.Test.YtdpcbffmmndhcaaRows
import Derived.Test.YtdpcbffmmndhcaaBase
namespace Go.Proofs.Ytdpcbffmmndhcaa
open Go.RowKit

theorem info3 : (Try.prog.info? 3).map (fun i => (i.zero, i.size, i.bytes)) = some (some (.int .i64 0), 1, 8) := by kernel_rfl

/-- a slice of ints that the call owns (its block's number is at least base) -/
def OwnInts (w : World) (base : Nat) (v : Value) (l : List Int) : Prop := w.ownsRow base 3 1 v l.length (l.map i64v)

theorem OwnInts.ints {w : World} {base : Nat} {v : Value} {l : List Int} (h : OwnInts w base v l) : Ints w v l := Ints.of (sl_of_owns h)
theorem OwnInts.alloc {w : World} {base : Nat} {v : Value} {l : List Int} (h : OwnInts w base v l) {o : Obj} : OwnInts (w.alloc o) base v l := World.ownsRow.alloc h o
theorem OwnInts.call {w w' : World} {base : Nat} {v : Value} {l : List Int} (h : OwnInts w base v l) (b : Below w.heap.size w w') : OwnInts w' base v l := owns_call h b
theorem OwnInts.low {w : World} {base base' : Nat} {v : Value} {l : List Int} (h : OwnInts w base v l) (hb : base' ≤ base) : OwnInts w base' v l := owns_low h hb
theorem OwnInts.set {w : World} {base : Nat} {v : Value} {l : List Int} (h : OwnInts w base v l) {a : Addr} (ha : a.block < base) (u : Value) : OwnInts (w.setCell a u) base v l := ownsRow_setCell_below h ha u
theorem OwnInts.drewN {w : World} {base : Nat} {v : Value} {l : List Int} (h : OwnInts w base v l) (k : Nat) : OwnInts (w.drewN k) base v l := h
theorem OwnInts.nil {w : World} {base : Nat} : OwnInts w base (.slice none 0 0) [] := World.ownsRow_nil _ _ _ _
theorem OwnInts.made {w : World} {base n : Nat} (hn : n = w.heap.size) (hb : base ≤ n) : OwnInts (w.alloc (.cells #[] 3)) base (.slice (some ⟨n, 0, none⟩) 0 0) [] := owns_made hn hb
theorem ints_one {w : World} {n : Nat} {v : Value} (c : Int) (hn : n = w.heap.size) (hv : v = i64v c) : Ints (w.alloc (.cells #[v] 3)) (.slice (some ⟨n, 0, none⟩) 1 1) [c] := by
  subst hv
  exact sl_one _ hn

theorem app_ints {w : World} {ops : Array Oper} {rest : List Oper} {o : Oper} {a : Act} {Q : Exit → Act → World → Prop} (hgd : o.guard = none) (s x : Operand)
    (ho : o.op = .call { callee := .builtin .append, args := #[s, x], argTypes := #[60, 60] })
    (base : Nat) {v sv : Value} (hs : a.eval s = v) (hx : a.eval x = sv) {l m : List Int} (hown : OwnInts w base v l) (hsl : Ints w sv m)
    (hbytes : (l.length + m.length) * 8 ≤ 140737488355328) (hbase : base ≤ w.heap.size)
    (h : ∀ v' w', OwnInts w' base v' (l ++ m) → w.grownBy w' v.ownBlock → Below base w w' → wpList Try.prog ops Q rest (a.put o.dst v') w') : wpList Try.prog ops Q (o :: rest) a w := by
  obtain ⟨i0, hi, hz0, hz1, hz2⟩ := info_parts info3
  refine wpList_append_sl hgd s x 60 ho base 3 i0 (.int .i64 0) 1 8 Try.underlying60 hi hz0 hz1 hz2 rfl (by decide) v l.length (l.map i64v) hs hown sv m.length (m.map i64v) hx hsl.sl (by simp) (map_oneCell _ (fun _ => rfl) _) hbytes (by unfold maxLen; omega) hbase ?_
  intro v' w' h1 h2 h3
  refine h v' w' ?_ h2 h3
  unfold OwnInts
  rw [List.length_append, List.map_append]
  exact h1
end Go.Proofs.Ytdpcbffmmndhcaa
