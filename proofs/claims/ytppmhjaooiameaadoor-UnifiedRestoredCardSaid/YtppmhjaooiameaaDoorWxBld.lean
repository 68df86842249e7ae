/- strings.Builder as an object: the specs of WriteByte, WriteString. -/
import Derived.Test.YtppmhjaooiameaaDoorBldStep
import Derived.Test.YtppmhjaooiameaaDoorBuildW
import Derived.Test.YtppmhjaooiameaaDoorSxTab
namespace Go.Proofs.YtppmhjaooiameaaDoor
open Go.RowKit
set_option maxRecDepth 20000

theorem u8_back (c : Int) (h1 : 0 ≤ c) (h2 : c ≤ 255) : ((UInt8.ofNat c.toNat).toNat : Int) = c := by
  have e1 : (UInt8.ofNat c.toNat).toNat = c.toNat := by rw [UInt8.toNat_ofNat']; omega
  rw [e1]; omega
/-- the bytes of a builder: one that is written, or a fresh box -/
def bldOf (T e : TypeId) : Option Ob → Option (List UInt8)
  | some (.bld T' e' l) => if T' = T ∧ e' = e then some l else none
  | some (.box T' [.np, .nl]) => if T' = T then some [] else none
  | _ => none
theorem bld_sat {T e : TypeId} {w : World} {G : Gh} {A : Nat → Prop} {b : Nat} {ob : Ob} {l : List UInt8} (h : Sat w G A b ob) (hb : bldOf T e (some ob) = some l) : Sat w G A b (.bld T e l) := by
  unfold bldOf at hb
  split at hb
  · rename_i T' e' l' q
    cases q
    split at hb
    · rename_i hh
      cases hb
      obtain ⟨rfl, rfl⟩ := hh
      exact h
    · cases hb
  · rename_i T' q
    cases q
    split at hb
    · rename_i hh
      cases hb
      subst hh
      obtain ⟨g, vs, h1, h2, ⟨x, r, e1, q1, ⟨y, r2, e2, q2, q3⟩⟩, h4⟩ := h
      have q3 : r2 = [] := q3
      have q1 : x = .pointer none := q1
      have q2 : y = .slice none 0 0 := q2
      subst q1 q2 q3 e2
      have : vs = #[.pointer none, .slice none 0 0] := by
        rcases vs with ⟨l⟩
        exact congrArg Array.mk e1
      subst this
      exact ⟨g, _, _, h1, .inl rfl, h2, ⟨rfl, .inl ⟨rfl, rfl⟩⟩, by simp [Value.ownBlock], fun k => (h4 k).trans (by simp [Value.ownBlock])⟩
    · cases hb
  · cases hb
theorem sat_bd {T e : TypeId} {w : World} {G : Gh} {A : Nat → Prop} {b : Nat} {l : List UInt8} (h : Sat w G A b (.bld T e l)) : ∃ g p v, G.r b = .pointer (some ⟨g, 0, none⟩) ∧ (p = .pointer none ∨ p = .pointer (some ⟨g, 0, none⟩)) ∧ w.heap[g]? = some (.cells #[p, v] T (0, 0)) ∧ w.ownsRow 0 e 1 v (bcs l).length (bcs l) ∧ v.ownBlock ≠ some g ∧ ∀ k, G.f b k ↔ (k = g ∨ v.ownBlock = some k) := by
  obtain ⟨g, p, v, h1, h2, h3, h4, h5, h6⟩ := h
  exact ⟨g, p, v, h1, h2, h3, by rw [show (bcs l).length = l.length from List.length_map ..]; exact h4, h5, h6⟩
theorem bld_step {F : Fr} {hp : Nat → Option Ob} {G : Gh} {w w' : World} (h : RepH F hp G w) (b : Nat) (ob : Ob) (hb : hp b = some ob) {g : Nat} {v v1 : Value} {bs : List UInt8}
    (h1 : G.r b = .pointer (some ⟨g, 0, none⟩)) (h6 : ∀ k, G.f b k ↔ (k = g ∨ v.ownBlock = some k)) (hd : Bd g (.pointer (some ⟨g, 0, none⟩)) v1 (bcs bs) w') (hl : ∀ k, v1.ownBlock = some k → v.ownBlock = some k ∨ w.heap.size ≤ k)
    (ho : Only (fun k => k = g ∨ v.ownBlock = some k) w w') :
    ∃ G', Ext (Foot hp G) (Okay F hp G) G w (Okay F (upd hp b (some (.bld 48 5 bs))) G') G' w' [] ∧ RepH F (upd hp b (some (.bld 48 5 bs))) G' w' := by
  refine same_step h b ob hb (fun k => k = g ∨ v1.ownBlock = some k) _ ?_ ?_ ⟨ho.os, ho.tape, ho.output, ho.size, fun k hk hn => ho.block k hk (fun q => hn ((h6 k).2 q))⟩ ?_
  · rintro k (q | q) hk
    · exact (h6 k).2 (.inl q)
    · rcases hl k q with q | q
      · exact (h6 k).2 (.inr q)
      · omega
  · rintro k (q | q)
    · subst q; exact lt_of_block hd.1
    · exact (hd.2.1.lt k q).2
  · intro A' G' hr hf
    exact ⟨g, _, v1, hr.trans h1, .inr rfl, hd.1, by have := hd.2.1; rwa [show (bcs bs).length = bs.length from List.length_map ..] at this, hd.2.2, hf⟩
def sp_WS : SpecF := fun _ args hp => match args with
  | [.v false [.p b 0], .v false [.d .str s]] => (bldOf 48 5 (hp b)).map fun l => ⟨l.length + ByteArray.size s ≤ 1000000000, .tu [(false, [.d (.int .i64) (ByteArray.size s : Int)]), (false, [.un])], [.put b (.bld 48 5 (l ++ s.data.toList))], []⟩
  | _ => none
theorem WS_ok : SpecOk Tryd.prog 42 sp_WS := by
  intro d args hp r hr hside
  unfold sp_WS at hr
  split at hr
  · rename_i b s
    obtain ⟨l, hl, rfl⟩ := Option.map_eq_some_iff.1 hr
    refine ⟨.inl rfl, fun F G w vals hrep ha => ?_⟩
    obtain ⟨v1, r1, rfl, q1, v2, r2, rfl, q2, q3⟩ := ha
    have q3 : r2 = [] := q3
    subst q3
    have q1 := AV.one_rel (x := .v false [.p b 0]) rfl q1
    have q2 := AV.one_rel (x := .v false [.d .str s]) rfl q2
    cases hb : hp b with
    | none => rw [hb] at hl; cases hl
    | some ob =>
      rw [hb] at hl
      obtain ⟨g, p, v, h1, h2, h3, h4, h5, h6⟩ := sat_bd (bld_sat (hrep.sat b ob hb) hl)
      obtain ⟨g', k1, rfl⟩ := q1
      obtain rfl : g' = g := by have := k1.symm.trans h1; injection this with e1; injection e1 with e1; injection e1
      obtain ⟨k2, k3⟩ := q2
      injection k2 with k2 _
      subst k2
      have hside : l.length + s.size ≤ 1000000000 := hside
      refine Calls.mono (WriteString_bd g' p v (bcs l) s w ⟨h3, h4, h5⟩ h2 (by simp only [bcs, List.length_map]; omega)) ?_
      rintro e w' ⟨rfl, ⟨v1, hb', hloc⟩, ho⟩
      have hcs : bcs l ++ Lib.strCells s = bcs (l ++ s.data.toList) := by simp [bcs, Lib.strCells]
      rw [hcs] at hb'
      obtain ⟨G', hx, hr'⟩ := bld_step hrep b ob hb (v := v) (v1 := v1) h1 h6 hb' hloc ho
      refine ⟨_, rfl, G', hx, hr', ⟨[.int .i64 s.size, .nilIface], rfl, _, _, rfl, ⟨[_], ⟨_, [], rfl, ⟨rfl, ?_, ?_⟩, rfl⟩, rfl, fun _ => rfl⟩, _, _, rfl, ⟨[Value.nilIface], ⟨_, [], rfl, rfl, rfl⟩, rfl, fun _ => rfl⟩, rfl⟩⟩
      · show (-9223372036854775808 : Int) ≤ ((s.size : Nat) : Int)
        omega
      · show ((s.size : Nat) : Int) ≤ 9223372036854775807
        unfold maxLen at k3; omega
  · cases hr

def sp_WB : SpecF := fun _ args hp => match args with
  | [.v false [.p b 0], .v false [.d (.int .u8) c]] => (bldOf 48 5 (hp b)).map fun l => ⟨l.length + 1 ≤ 1000000000, .v false [.un], [.put b (.bld 48 5 (l ++ [UInt8.ofNat (c : Int).toNat]))], []⟩
  | _ => none
theorem WB_ok : SpecOk Tryd.prog 59 sp_WB := by
  intro d args hp r hr hside
  unfold sp_WB at hr
  split at hr
  · rename_i b c
    obtain ⟨l, hl, rfl⟩ := Option.map_eq_some_iff.1 hr
    refine ⟨.inl rfl, fun F G w vals hrep ha => ?_⟩
    obtain ⟨v1, r1, rfl, q1, v2, r2, rfl, q2, q3⟩ := ha
    have q3 : r2 = [] := q3
    subst q3
    have q1 := AV.one_rel (x := .v false [.p b 0]) rfl q1
    have q2 := AV.one_rel (x := .v false [.d (.int .u8) c]) rfl q2
    cases hb : hp b with
    | none => rw [hb] at hl; cases hl
    | some ob =>
      rw [hb] at hl
      obtain ⟨g, p, v, h1, h2, h3, h4, h5, h6⟩ := sat_bd (bld_sat (hrep.sat b ob hb) hl)
      obtain ⟨g', k1, rfl⟩ := q1
      obtain rfl : g' = g := by have := k1.symm.trans h1; injection this with e1; injection e1 with e1; injection e1
      obtain ⟨k2, k3, k4⟩ := q2
      injection k2 with k2 _
      subst k2
      have hside : l.length + 1 ≤ 1000000000 := hside
      refine Calls.mono (WriteByte_bd g' p v (bcs l) c w ⟨h3, h4, h5⟩ h2 (by simp only [bcs, List.length_map]; omega)) ?_
      rintro e w' ⟨rfl, ⟨v1, hb', hloc⟩, ho⟩
      have k3 : (0 : Int) ≤ c := k3
      have k4 : c ≤ 255 := k4
      have hcs : bcs l ++ [Value.int .u8 c] = bcs (l ++ [UInt8.ofNat c.toNat]) := by
        simp only [bcs, List.map_append, List.map_cons, List.map_nil]
        congr 3
        exact (u8_back c k3 k4).symm
      rw [hcs] at hb'
      obtain ⟨G', hx, hr'⟩ := bld_step hrep b ob hb (v := v) (v1 := v1) h1 h6 hb' hloc ho
      exact ⟨_, rfl, G', hx, hr', ⟨[Value.nilIface], ⟨_, [], rfl, rfl, rfl⟩, rfl, fun _ => rfl⟩⟩
  · cases hr

/-- the box that is left behind of a builder -/
def deadBld : Ob := .box 48 [.un, .un]
def sp_BStr : SpecF := fun _ args hp => match args with
  | [.v false [.p b 0]] => (bldOf 48 5 (hp b)).map fun l => ⟨l.length ≤ 1000000000, .v false [.d .str (⟨l.toArray⟩ : ByteArray)], [.put b deadBld], []⟩
  | _ => none
theorem BStr_ok : SpecOk Tryd.prog 20 sp_BStr := by
  intro d args hp r hr hside
  unfold sp_BStr at hr
  split at hr
  · rename_i b
    obtain ⟨l, hl, rfl⟩ := Option.map_eq_some_iff.1 hr
    refine ⟨.inl rfl, fun F G w vals hrep ha => ?_⟩
    obtain ⟨v1, r1, rfl, q1, q3⟩ := ha
    have q3 : r1 = [] := q3
    subst q3
    have q1 := AV.one_rel (x := .v false [.p b 0]) rfl q1
    cases hb : hp b with
    | none => rw [hb] at hl; cases hl
    | some ob =>
      rw [hb] at hl
      obtain ⟨g, p, v, h1, h2, h3, h4, h5, h6⟩ := sat_bd (bld_sat (hrep.sat b ob hb) hl)
      obtain ⟨g', k1, rfl⟩ := q1
      obtain rfl : g' = g := by have := k1.symm.trans h1; injection this with e1; injection e1 with e1; injection e1
      have hside : l.length ≤ 1000000000 := hside
      refine Calls.mono (String_bd g' p v l w ⟨h3, h4, h5⟩) ?_
      rintro e w' ⟨rfl, ho⟩
      have hkeep : w'.heap[g']? = some (.cells #[p, v] 48 (0, 0)) := (ho.block g' (lt_of_block h3) h5).trans h3
      obtain ⟨G', hx, hr'⟩ := same_step hrep b ob hb (fun k => k = g') deadBld (fun k q hk => (h6 k).2 (.inl q)) (fun k q => by subst q; exact lt_of_block hkeep)
        ⟨ho.os, ho.tape, ho.output, ho.size, fun k hk hn => ho.block k hk (fun q => hn ((h6 k).2 (.inr q)))⟩
        (fun A' G' hr hf => ⟨g', _, hr.trans h1, hkeep, ⟨p, [v], rfl, by rcases h2 with h2 | h2 <;> (subst h2; rfl), v, [], rfl, (by rcases h4.2 with ⟨hv, _⟩ | ⟨_, _, _, hv, _⟩ <;> (subst hv; rfl)), rfl⟩, hf⟩)
      refine ⟨_, rfl, G', hx, hr', ⟨[_], ⟨_, [], rfl, ⟨rfl, ?_⟩, rfl⟩, rfl, fun _ => rfl⟩⟩
      show l.toArray.size ≤ maxLen
      simp only [List.size_toArray]
      unfold maxLen
      omega
  · cases hr
theorem WS_sp : SpFact 42 sp_WS := ⟨⟨Tryd.f42, rfl, rfl, rfl, WS_ok⟩, fun d args hp hp' h => by
  unfold sp_WS
  split
  · rw [h _ (by simp [AV.names, Lf.names])]
  · rfl⟩
theorem WB_sp : SpFact 59 sp_WB := ⟨⟨Tryd.f59, rfl, rfl, rfl, WB_ok⟩, fun d args hp hp' h => by
  unfold sp_WB
  split
  · rw [h _ (by simp [AV.names, Lf.names])]
  · rfl⟩
theorem BStr_sp : SpFact 20 sp_BStr := ⟨⟨Tryd.f20, rfl, rfl, rfl, BStr_ok⟩, fun d args hp hp' h => by
  unfold sp_BStr
  split
  · rw [h _ (by simp [AV.names, Lf.names])]
  · rfl⟩
end Go.Proofs.YtppmhjaooiameaaDoor
