/- Slices of strings that a call makes: append. -/
import Derived.Test.YtdpcbffmmndhcaaRows
import Derived.Test.YtdpcbffmmndhcaaBase
namespace Go.Proofs.Ytdpcbffmmndhcaa
open Go.RowKit

theorem info9 : (Try.prog.info? 9).map (fun i => (i.zero, i.size, i.bytes)) = some (some (.string .empty), 1, 16) := by kernel_rfl

/-- a slice of strings that the call owns (its block's number is at least base) -/
def OwnStrs (w : World) (base : Nat) (v : Value) (l : List ByteArray) : Prop := w.ownsRow base 9 1 v l.length (l.map Value.string)

theorem OwnStrs.strs {w : World} {base : Nat} {v : Value} {l : List ByteArray} (h : OwnStrs w base v l) (hm : ∀ s ∈ l, s.size ≤ maxLen) : Strs w v l := Strs.of (sl_of_owns h) hm
theorem OwnStrs.alloc {w : World} {base : Nat} {v : Value} {l : List ByteArray} (h : OwnStrs w base v l) {o : Obj} : OwnStrs (w.alloc o) base v l := World.ownsRow.alloc h o
theorem OwnStrs.call {w w' : World} {base : Nat} {v : Value} {l : List ByteArray} (h : OwnStrs w base v l) (b : Below w.heap.size w w') : OwnStrs w' base v l := owns_call h b
theorem OwnStrs.low {w : World} {base base' : Nat} {v : Value} {l : List ByteArray} (h : OwnStrs w base v l) (hb : base' ≤ base) : OwnStrs w base' v l := owns_low h hb
theorem OwnStrs.set {w : World} {base : Nat} {v : Value} {l : List ByteArray} (h : OwnStrs w base v l) {a : Addr} (ha : a.block < base) (u : Value) : OwnStrs (w.setCell a u) base v l := ownsRow_setCell_below h ha u
theorem OwnStrs.drewN {w : World} {base : Nat} {v : Value} {l : List ByteArray} (h : OwnStrs w base v l) (k : Nat) : OwnStrs (w.drewN k) base v l := h
theorem OwnStrs.nil {w : World} {base : Nat} : OwnStrs w base (.slice none 0 0) [] := World.ownsRow_nil _ _ _ _
theorem OwnStrs.made {w : World} {base n : Nat} (hn : n = w.heap.size) (hb : base ≤ n) : OwnStrs (w.alloc (.cells #[] 9)) base (.slice (some ⟨n, 0, none⟩) 0 0) [] := owns_made hn hb
theorem strs_one {w : World} {n : Nat} (s : ByteArray) (hn : n = w.heap.size) (hm : s.size ≤ maxLen) : Strs (w.alloc (.cells #[.string s] 9)) (.slice (some ⟨n, 0, none⟩) 1 1) [s] :=
  ⟨sl_one _ hn, by simpa using hm⟩

theorem app_strs {w : World} {ops : Array Oper} {rest : List Oper} {o : Oper} {a : Act} {Q : Exit → Act → World → Prop} (hgd : o.guard = none) (s x : Operand)
    (ho : o.op = .call { callee := .builtin .append, args := #[s, x], argTypes := #[22, 22] })
    (base : Nat) {v sv : Value} (hs : a.eval s = v) (hx : a.eval x = sv) {l m : List ByteArray} (hown : OwnStrs w base v l) (hsl : Strs w sv m)
    (hbytes : (l.length + m.length) * 16 ≤ 140737488355328) (hbase : base ≤ w.heap.size)
    (h : ∀ v' w', OwnStrs w' base v' (l ++ m) → w.grownBy w' v.ownBlock → Below base w w' → wpList Try.prog ops Q rest (a.put o.dst v') w') : wpList Try.prog ops Q (o :: rest) a w := by
  obtain ⟨i0, hi, hz0, hz1, hz2⟩ := info_parts info9
  refine wpList_append_sl hgd s x 22 ho base 9 i0 (.string .empty) 1 16 Try.underlying22 hi hz0 hz1 hz2 rfl (by decide) v l.length (l.map Value.string) hs hown sv m.length (m.map Value.string) hx hsl.sl (by simp) (map_oneCell _ (fun _ => rfl) _) hbytes (by unfold maxLen; omega) hbase ?_
  intro v' w' h1 h2 h3
  refine h v' w' ?_ h2 h3
  unfold OwnStrs
  rw [List.length_append, List.map_append]
  exact h1
end Go.Proofs.Ytdpcbffmmndhcaa
