/- Conversions between strings and slices of bytes, as laws for the walk. No program in sight. -/
import Derived.Test.YtkokleicgpimbaaBase
import Derived.Lib.ConvBytes
import Derived.Laws.BytesString
namespace Go.Proofs.Ytkokleicgpimbaa
open Go.RowKit

theorem foldl_push_u8 (l : List UInt8) (s : ByteArray) : (l.map fun c => (c.toNat : Int)).foldl (fun r n => r.push (UInt8.ofNat n.toNat)) s = ⟨s.data ++ l.toArray⟩ := by
  induction l generalizing s with
  | nil => simp
  | cons c l ih =>
    simp only [List.map_cons, List.foldl_cons]
    rw [ih]
    have : UInt8.ofNat ((c.toNat : Int)).toNat = c := by simp
    rw [this]
    simp [ByteArray.push]

theorem run_bs {P : Program} (w : World) (src dst e : TypeId) (v : Value) (l : List UInt8) (h : U8s w v l)
    (hs : P.underlying src = some (.slice e)) (he : P.underlying e = some (.int .u8)) (hd : P.underlying dst = some .string) :
    (convert src dst v).run P w = .ok (.string ⟨l.toArray⟩) w := by
  obtain ⟨ao, cap, rfl, h1, h2, h3, h4⟩ := h
  rw [List.length_map] at h1 ⊢
  rw [run_convert_bytes_string w src dst e _ _ cap hs he hd]
  cases ao with
  | none =>
    have := h4 rfl
    have : l = [] := by cases l with
      | nil => rfl
      | cons => simp at h1; omega
    subst this
    simp [Conv.bytesToString]
    rfl
  | some a =>
    have hl : (loadCells a l.length).run P w = .ok ((l.map fun c => (c.toNat : Int)).map (Value.int .u8)).toArray w := by
      have := run_loadCells_list (P := P) w a ((l.map fun c => (c.toNat : Int)).map (Value.int .u8)) (fun j v hj => by
        obtain ⟨hj', rfl⟩ := List.getElem?_eq_some_iff.1 hj
        simp only [List.length_map] at hj'
        obtain ⟨b, off, e, hc⟩ := h3 j (by simpa using hj')
        obtain rfl : a = ⟨b, off, none⟩ := by simpa using e
        rw [addr_add, hc]
        simp [u8v])
      simpa using this
    rw [run_bytesToString w a l.length cap (l.map fun c => (c.toNat : Int)) hl, foldl_push_u8]
    simp [ByteArray.empty, ByteArray.emptyWithCapacity]
    rfl

theorem wpList_conv_bs {P : Program} {w : World} {ops : Array Oper} {rest : List Oper} {o : Oper} {a : Act} {Q : Exit → Act → World → Prop} (hgd : o.guard = none) (src dst e : TypeId) (x : Operand)
    (ho : o.op = .convert src dst x) {v : Value} (hx : a.eval x = v) {l : List UInt8} (hl : U8s w v l)
    (hs : P.underlying src = some (.slice e)) (he : P.underlying e = some (.int .u8)) (hd : P.underlying dst = some .string)
    (h : wpList P ops Q rest (a.put o.dst (.string ⟨l.toArray⟩)) w) : wpList P ops Q (o :: rest) a w := by
  refine wpList_plain hgd fun K hK => ?_
  have hrun := run_bs (P := P) w src dst e v l hl hs he hd
  unfold Oper.wp
  simp [execOp, ho, hx, hrun, Result.andThen]
  exact hK _ _ h

theorem run_sb {P : Program} (w : World) (src dst e : TypeId) (s : ByteArray) (hs : P.underlying src = some .string) (hd : P.underlying dst = some (.slice e)) (he : P.underlying e = some (.int .u8)) (hm : s.size ≤ maxLen) :
    ∃ v' w', (convert src dst (.string s)).run P w = .ok v' w' ∧ U8s w' v' s.data.toList ∧ Below w.heap.size w w' := by
  refine ⟨_, _, Lib.run_convert_string_bytes w src dst e s hs hd he, ?_, ?_⟩
  · apply U8s.of
    refine ⟨_, _, by simp only [Array.length_toList]; rfl, ?_, grownCap_le_maxLen w s.size 0 e hm, ?_, fun h => by cases h⟩
    · simp only [Array.length_toList]; exact grownCap_ge w s.size 0 e
    · intro i hi
      simp only [List.length_map, Array.length_toList] at hi
      refine ⟨_, _, rfl, ?_⟩
      rw [Nat.zero_add, Lib.bytesWorld_cell w e s i hi]
      have hi' : i < s.data.size := hi
      simp only [u8v, List.getD, Array.getElem?_toList, Array.getElem?_eq_getElem hi', Option.getD_some, List.getElem_map, Array.getElem_toList]
  · refine ⟨?_, ?_, ?_, ?_, ?_⟩
    · simp [Lib.bytesWorld, World.freeze, World.alloc, World.drew, -World.alloc_eq, -World.drew_eq]
    · simp [Lib.bytesWorld, World.freeze, World.alloc, World.drew, -World.alloc_eq, -World.drew_eq]
    · simp [Lib.bytesWorld, World.freeze, World.alloc, World.drew, -World.alloc_eq, -World.drew_eq]
    · rw [Lib.bytesWorld_size]; omega
    · intro k hk; exact Lib.bytesWorld_at_old w e s k hk

theorem wpList_conv_sb {P : Program} {w : World} {ops : Array Oper} {rest : List Oper} {o : Oper} {a : Act} {Q : Exit → Act → World → Prop} (hgd : o.guard = none) (src dst e : TypeId) (x : Operand)
    (ho : o.op = .convert src dst x) {s : ByteArray} (hx : a.eval x = .string s)
    (hs : P.underlying src = some .string) (hd : P.underlying dst = some (.slice e)) (he : P.underlying e = some (.int .u8)) (hm : s.size ≤ maxLen)
    (h : ∀ v' w', U8s w' v' s.data.toList → Below w.heap.size w w' → wpList P ops Q rest (a.put o.dst v') w') : wpList P ops Q (o :: rest) a w := by
  refine wpList_plain hgd fun K hK => ?_
  obtain ⟨v', w', hrun, h1, h2⟩ := run_sb (P := P) w src dst e s hs hd he hm
  unfold Oper.wp
  simp [execOp, ho, hx, hrun, Result.andThen]
  exact hK _ _ (h v' w' h1 h2)
end Go.Proofs.Ytkokleicgpimbaa
