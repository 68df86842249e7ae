/- Slices of bytes that a call makes: append. -/
import Derived.Test.YtkokleicgpimbaaRows
import Derived.Test.YtkokleicgpimbaaBase
namespace Go.Proofs.Ytkokleicgpimbaa
open Go.RowKit

theorem info5 : (Try.prog.info? 5).map (fun i => (i.zero, i.size, i.bytes)) = some (some (.int .u8 0), 1, 1) := by kernel_rfl

/-- a slice of bytes that the call owns (its block's number is at least base) -/
def OwnU8 (w : World) (base : Nat) (v : Value) (l : List UInt8) : Prop := w.ownsRow base 5 1 v l.length (l.map u8v)

theorem OwnU8.u8s {w : World} {base : Nat} {v : Value} {l : List UInt8} (h : OwnU8 w base v l) : U8s w v l := U8s.of (sl_of_owns h)
theorem OwnU8.alloc {w : World} {base : Nat} {v : Value} {l : List UInt8} (h : OwnU8 w base v l) {o : Obj} : OwnU8 (w.alloc o) base v l := World.ownsRow.alloc h o
theorem OwnU8.call {w w' : World} {base : Nat} {v : Value} {l : List UInt8} (h : OwnU8 w base v l) (b : Below w.heap.size w w') : OwnU8 w' base v l := owns_call h b
theorem OwnU8.nil {w : World} {base : Nat} : OwnU8 w base (.slice none 0 0) [] := World.ownsRow_nil _ _ _ _
theorem OwnU8.made {w : World} {base n : Nat} (hn : n = w.heap.size) (hb : base ≤ n) : OwnU8 (w.alloc (.cells #[] 5)) base (.slice (some ⟨n, 0, none⟩) 0 0) [] := owns_made hn hb
theorem u8s_one {w : World} {n : Nat} {v : Value} (c : UInt8) (hn : n = w.heap.size) (hv : v = u8v c) : U8s (w.alloc (.cells #[v] 5)) (.slice (some ⟨n, 0, none⟩) 1 1) [c] := by
  subst hv
  exact sl_one _ hn

theorem app_u8 {w : World} {ops : Array Oper} {rest : List Oper} {o : Oper} {a : Act} {Q : Exit → Act → World → Prop} (hgd : o.guard = none) (s x : Operand)
    (ho : o.op = .call { callee := .builtin .append, args := #[s, x], argTypes := #[22, 22] })
    (base : Nat) {v sv : Value} (hs : a.eval s = v) (hx : a.eval x = sv) {l m : List UInt8} (hown : OwnU8 w base v l) (hsl : U8s w sv m)
    (hbytes : l.length + m.length ≤ 140737488355328) (hbase : base ≤ w.heap.size)
    (h : ∀ v' w', OwnU8 w' base v' (l ++ m) → w.grownBy w' v.ownBlock → Below base w w' → wpList Try.prog ops Q rest (a.put o.dst v') w') : wpList Try.prog ops Q (o :: rest) a w := by
  obtain ⟨i0, hi, hz0, hz1, hz2⟩ := info_parts info5
  refine wpList_append_sl hgd s x 22 ho base 5 i0 (.int .u8 0) 1 1 Try.underlying22 hi hz0 hz1 hz2 rfl (by decide) v l.length (l.map u8v) hs hown sv m.length (m.map u8v) hx hsl.sl (by simp) (map_oneCell _ u8v_one _) (by omega) (by unfold maxLen; omega) hbase ?_
  intro v' w' h1 h2 h3
  refine h v' w' ?_ h2 h3
  unfold OwnU8
  rw [List.length_append, List.map_append]
  exact h1
end Go.Proofs.Ytkokleicgpimbaa
