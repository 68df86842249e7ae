/- strings.Cut and CutPrefix as specs; unified.number. -/
import Derived.Test.YtppmhjaooiameaaDoorWxItoa
import Derived.Test.YtppmhjaooiameaaDoorPrsStr
namespace Go.Proofs.YtppmhjaooiameaaDoor
open Go.RowKit
set_option maxRecDepth 20000
set_option linter.unusedSimpArgs false

theorem only_below {S : Nat → Prop} {w w' : World} (h : Only S w w') (hs : ∀ k, ¬ S k) : Below w.heap.size w w' := ⟨h.os, h.tape, h.output, h.size, fun k hk => h.block k hk (hs k)⟩
theorem below_only {w w' : World} (h : Below w.heap.size w w') : Only (fun _ => False) w w' := ⟨h.os, h.tape, h.output, h.size, fun k hk _ => h.block k hk⟩
theorem below_bytes (w : World) (E : TypeId) (s : ByteArray) : Below w.heap.size w (Lib.bytesWorld w E s) := by
  refine ⟨?_, ?_, ?_, ?_, fun k hk => Lib.bytesWorld_at_old w E s k hk⟩
  · simp [Lib.bytesWorld, World.freeze, World.alloc, World.drew, -World.alloc_eq, -World.drew_eq]
  · simp [Lib.bytesWorld, World.freeze, World.alloc, World.drew, -World.alloc_eq, -World.drew_eq]
  · simp [Lib.bytesWorld, World.freeze, World.alloc, World.drew, -World.alloc_eq, -World.drew_eq]
  · rw [Lib.bytesWorld_size]; omega
/-- the bytes of a string -/
def sb (s : ByteArray) : List UInt8 := s.data.toList
def cutS (s p : ByteArray) : List UInt8 × List UInt8 × Bool := Lib.cut (sb s) (sb p)
def sp_Cut : SpecF := pureSp true [.str, .str] (fun (s', p', _) => (cutS s' p').2.2 = true ∧ (show ByteArray from s').size < 4294967281) (fun (s', p', _) => .tu [(false, [.d .str (bs (cutS s' p').1)]), (false, [.d .str (bs (cutS s' p').2.1)]), (false, [.d .bool true])])
theorem cut_sizes (l p : List UInt8) : (Lib.cut l p).1.length ≤ l.length ∧ (Lib.cut l p).2.1.length ≤ l.length := by
  unfold Lib.cut
  split
  · exact ⟨by show (List.take _ l).length ≤ _; rw [List.length_take]; omega, by show (List.drop _ l).length ≤ _; rw [List.length_drop]; omega⟩
  · exact ⟨Nat.le_refl _, Nat.zero_le _⟩
theorem Cut_sp : SpFact 37 sp_Cut := by
  refine ⟨⟨_, rfl, rfl, rfl, callsSpT_ok (fun _ _ => rfl) ?_⟩, pureSp_loc _ _ _ _⟩
  rintro ⟨s, p, u⟩ w G A vals htb ⟨hs, hp, -⟩ hpre ha
  obtain ⟨v1, r1, rfl, q1, v2, r2, rfl, q2, rfl⟩ := ha
  have q1 := AV.one_rel (x := .v false [.d .str s]) rfl q1
  have q2 := AV.one_rel (x := .v false [.d .str p]) rfl q2
  obtain ⟨q1, q1'⟩ := q1
  obtain ⟨q2, q2'⟩ := q2
  cases q1
  cases q2
  change ByteArray at s p
  obtain ⟨-, m, hm⟩ := htb
  have hs : s.size ≤ maxLen := q1'
  refine Calls.mono (Tryd.strings_Cut s p m w hpre.2 hm) ?_
  rintro e w' ⟨rfl, k, rfl⟩
  have hpre : (Lib.cut s.data.toList p.data.toList).2.2 = true := hpre.1
  obtain ⟨c1, c2⟩ := cut_sizes s.data.toList p.data.toList
  have hl : s.data.toList.length = s.size := rfl
  rw [hpre]
  refine ⟨_, rfl, below_only (by exact (by repeat (first | exact Below.refl _ _ | assumption | apply extAlloc | apply extDrewN | apply extDrew | (refine extStep ?_ (by assumption) (by first | (simp; done) | (simp; omega) | omega)) | (refine extCall ?_ (by assumption)) | (refine extSet ?_ (by first | (simp; done) | (simp; omega) | omega) _)))), ⟨[_, _, _], rfl, _, _, rfl, ⟨[_], ⟨_, [], rfl, ⟨rfl, ?_⟩, rfl⟩, rfl, fun _ => rfl⟩, _, _, rfl, ⟨[_], ⟨_, [], rfl, ⟨rfl, ?_⟩, rfl⟩, rfl, fun _ => rfl⟩, _, _, rfl, ⟨[_], ⟨_, [], rfl, rfl, rfl⟩, rfl, fun _ => rfl⟩, rfl⟩⟩
  · show (Lib.cut s.data.toList p.data.toList).1.toArray.size ≤ maxLen
    rw [List.size_toArray]; omega
  · show (Lib.cut s.data.toList p.data.toList).2.1.toArray.size ≤ maxLen
    rw [List.size_toArray]; omega
def trS (s p : ByteArray) : List UInt8 := Lib.trimPrefix (sb s) (sb p)
def sp_CutPrefix : SpecF := pureSp true [.str, .str] (fun (s', p', _) => Lib.hasPrefix (sb s') (sb p') = true) (fun (s', p', _) => .tu [(false, [.d .str (bs (trS s' p'))]), (false, [.d .bool true])])
theorem CutPrefix_sp : SpFact 62 sp_CutPrefix := by
  refine ⟨⟨_, rfl, rfl, rfl, callsSpT_ok (fun _ _ => rfl) ?_⟩, pureSp_loc _ _ _ _⟩
  rintro ⟨s, p, u⟩ w G A vals htb ⟨hs, hp, -⟩ hpre ha
  obtain ⟨v1, r1, rfl, q1, v2, r2, rfl, q2, rfl⟩ := ha
  have q1 := AV.one_rel (x := .v false [.d .str s]) rfl q1
  have q2 := AV.one_rel (x := .v false [.d .str p]) rfl q2
  obtain ⟨q1, q1'⟩ := q1
  obtain ⟨q2, q2'⟩ := q2
  cases q1
  cases q2
  change ByteArray at s p
  have hs : s.size ≤ maxLen := q1'
  refine Calls.mono (Tryd.strings_CutPrefix s p w) ?_
  rintro e w' ⟨rfl, rfl⟩
  have hpre : Lib.hasPrefix s.data.toList p.data.toList = true := hpre
  have hl : s.data.toList.length = s.size := rfl
  have hle : (trS s p).length ≤ s.size := by
    unfold trS Lib.trimPrefix sb
    split <;> first | (rw [List.length_drop]; omega) | exact Nat.le_of_eq hl
  rw [hpre]
  refine ⟨_, rfl, Only.refl _ _, ⟨[_, _], rfl, _, _, rfl, ⟨[_], ⟨_, [], rfl, ⟨rfl, ?_⟩, rfl⟩, rfl, fun _ => rfl⟩, _, _, rfl, ⟨[_], ⟨_, [], rfl, rfl, rfl⟩, rfl, fun _ => rfl⟩, rfl⟩⟩
  show (trS s p).toArray.size ≤ maxLen
  rw [List.size_toArray]; omega

/-- what number reads -/
def nmN (s p : ByteArray) : Int := (Lib.atoi (cutS s p).1).getD 0
def nmR (s p : ByteArray) : ByteArray := bs (cutS s p).2.1
def nmOk (s p : ByteArray) : Prop := (cutS s p).2.2 = true ∧ ∃ n, (0 ≤ n ∧ n ≤ 121) ∧ (cutS s p).1 = num n
theorem number_any (s p : ByteArray) (n : Int) (r : List UInt8) (w : World) (hs : s.size ≤ 140737488355328) (hc : cutS s p = (num n, r, true)) (h0 : 0 ≤ n) (h1 : n ≤ 121) (hs2 : s.size < 4294967281) (htb : Tb w) :
    Calls Tryd.prog 63 #[.string s, .string p] w fun e w' => e = .returned (.tuple #[.int .i64 n, .string (bs r), .bool true]) ∧ Below w.heap.size w w' := by
  obtain ⟨g1, -, g3⟩ := num_good h0 h1
  have hcut : Lib.cut s.data.toList p.data.toList = (num n, r, true) := hc
  have hsz : (⟨(num n).toArray⟩ : ByteArray).size ≤ 18 := by show (num n).toArray.size ≤ 18; rw [List.size_toArray]; omega
  have hat : Lib.atoi (⟨(num n).toArray⟩ : ByteArray).data.toList = some n := g1
  obtain ⟨m, hm⟩ := htb.2
  have hb1 : ∀ k t, Below w.heap.size w (Lib.bytesWorld (w.drewN k) 5 t) := fun k t => (show Below w.heap.size w (w.drewN k) from by exact (by repeat (first | exact Below.refl _ _ | assumption | apply extAlloc | apply extDrewN | apply extDrew | (refine extStep ?_ (by assumption) (by first | (simp; done) | (simp; omega) | omega)) | (refine extCall ?_ (by assumption)) | (refine extSet ?_ (by first | (simp; done) | (simp; omega) | omega) _)))).trans (below_bytes (w.drewN k) 5 t)
  have hb2 := fun k t => (Tb_below htb _ (hb1 k t)).1
  replace hb2 := Lib.hid hb2
  replace hb1 := Lib.hid hb1
  replace htb := Lib.hid htb
  replace hm := Lib.hid hm
  replace hcut := Lib.hid hcut
  replace hat := Lib.hid hat
  replace g1 := Lib.hid g1
  clear hc
  go_enter Tryd.func63, Tryd.ntmps63
  go_wp2_with (first
    | (go_at_call 37; with_reducible refine Calls.mono (Tryd.strings_Cut s p m w hs2 hm.out) ?_; rintro e w1 ⟨rfl, k1, rfl⟩; rw [hcut.out])
    | (go_at_call 74; with_reducible refine Calls.mono (Tryd.strconv_Atoi _ n hsz hat.out _) ?_; rintro e w1 ⟨rfl, t1, rfl⟩)
    | (go_at_call 58; with_reducible refine Calls.mono (Tryd.strconv_Itoa n (by omega) (by omega) _ (hb2.out k1 t1)) ?_; rintro e w1 ⟨rfl, k2, os, rfl⟩))
  refine bodyPost_ret (v := .tuple #[.int .i64 n, .string (bs r), .bool true]) (by simp [results, Tryd.results63, go_sem]; rfl) rfl ?_
  have hg := only_below (only_grow (Lib.bytesWorld (w.drewN k1) 5 t1) k2 os) (fun _ h => h)
  have hb := hb1.out k1 t1
  exact ⟨rfl, hg.os.trans hb.os, hg.tape.trans hb.tape, hg.output.trans hb.output, Nat.le_trans hb.size hg.size, fun k hk => (hg.block k (Nat.lt_of_lt_of_le hk hb.size)).trans (hb.block k hk)⟩
def sp_number : SpecF := pureSp true [.str, .str] (fun (s', p', _) => nmOk s' p' ∧ (show ByteArray from s').size < 4294967281) (fun (s', p', _) => .tu [(false, [.d (.int .i64) (nmN s' p')]), (false, [.d .str (nmR s' p')]), (false, [.d .bool true])])
theorem number_sp : SpFact 63 sp_number := by
  refine ⟨⟨_, rfl, rfl, rfl, callsSpT_ok (fun _ _ => rfl) ?_⟩, pureSp_loc _ _ _ _⟩
  rintro ⟨s, p, u⟩ w G A vals htb ⟨hs, hp, -⟩ ⟨hpre, hsz⟩ ha
  obtain ⟨v1, r1, rfl, q1, v2, r2, rfl, q2, rfl⟩ := ha
  have q1 := AV.one_rel (x := .v false [.d .str s]) rfl q1
  have q2 := AV.one_rel (x := .v false [.d .str p]) rfl q2
  obtain ⟨q1, q1'⟩ := q1
  obtain ⟨q2, q2'⟩ := q2
  cases q1
  cases q2
  change ByteArray at s p
  obtain ⟨hok, n, ⟨h0, h1⟩, hn⟩ := hpre
  have hsz : s.size < 4294967281 := hsz
  have hc : cutS s p = (num n, (cutS s p).2.1, true) := by rw [← hn, ← hok]
  refine Calls.mono (number_any s p n _ w (by omega) hc h0 h1 hsz htb) ?_
  rintro e w' ⟨rfl, hb⟩
  have en : nmN s p = n := by unfold nmN; rw [hn, (num_good h0 h1).1]; rfl
  have er : (cutS s p).2.1.length ≤ s.size := (cut_sizes (sb s) (sb p)).2
  show ∃ v, _ ∧ _ ∧ AV.rel _ _ _ (.tu [(false, [.d (.int .i64) (nmN s p)]), (false, [.d .str (nmR s p)]), (false, [.d .bool true])]) v
  rw [en]
  refine ⟨_, rfl, below_only hb, ⟨[_, _, _], rfl, _, _, rfl, ⟨[_], ⟨_, [], rfl, ⟨rfl, ?_, ?_⟩, rfl⟩, rfl, fun _ => rfl⟩, _, _, rfl, ⟨[_], ⟨_, [], rfl, ⟨rfl, ?_⟩, rfl⟩, rfl, fun _ => rfl⟩, _, _, rfl, ⟨[_], ⟨_, [], rfl, rfl, rfl⟩, rfl, fun _ => rfl⟩, rfl⟩⟩
  · show (-9223372036854775808 : Int) ≤ n; omega
  · show n ≤ (9223372036854775807 : Int); omega
  · show (cutS s p).2.1.toArray.size ≤ maxLen
    rw [List.size_toArray]; unfold maxLen; omega
end Go.Proofs.YtppmhjaooiameaaDoor
