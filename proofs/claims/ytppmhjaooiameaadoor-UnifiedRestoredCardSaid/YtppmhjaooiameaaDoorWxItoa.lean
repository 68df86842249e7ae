/- strconv.Itoa of every number, by the table; prefixed and side. -/
import Derived.Test.YtppmhjaooiameaaDoorWxBldF
import Derived.Test.YtppmhjaooiameaaDoorWxBase
import Derived.Test.YtppmhjaooiameaaDoorUniFmt
namespace Go.Proofs.YtppmhjaooiameaaDoor
open Go.RowKit
set_option maxRecDepth 20000
set_option linter.unusedSimpArgs false

/-- as callsSp_ok, where the contract asks for the tables -/
theorem callsSpT_ok {P : Program} {f : FuncId} {bw : Bool} {ts : List Ty} {pre : dens ts → Prop} {res : dens ts → AV} (hpl : ∀ xs, pre xs → (res xs).plain bw = true)
    (h : ∀ xs w (G : Gh) (A : Nat → Prop) vals, Tb w → saneAll ts xs → pre xs → relAs w G A (argAV ts xs) vals → Calls P f vals.toArray w fun e w' => ∃ v, e = .returned v ∧ Only (fun _ => False) w w' ∧ (res xs).rel w' G A v) : SpecOk P f (pureSp bw ts pre res) := by
  intro d args hp r hr hside
  unfold pureSp at hr
  split at hr
  · rename_i xs hxs
    cases hr
    refine ⟨.inl rfl, fun F G w vals hrep ha => ?_⟩
    refine Calls.mono (h xs w G _ vals (hrep.tb w hrep.fr) (args_sane _ _ _ (frOf_args (n := 0) hrep hxs ha)) hside (frOf_args (n := 0) hrep hxs ha)) ?_
    rintro e w' ⟨v, rfl, k1, k2⟩
    obtain ⟨m1, m2⟩ := hrep.after k1
    exact ⟨v, rfl, G, m2, m1, plain_av (fun hb t x cs hh => Ty.rd_mono (Nat.le_refl _) (fun b hb' _ => ⟨frOf_okay hrep hb hb', rfl⟩) t x cs hh) (hpl xs hside) k2⟩
  · cases hr
theorem only_grow (w : World) (k : Nat) (os : Array Obj) : Only (fun _ => False) w (Go.Sort.grow (w.drewN k) os) :=
  ⟨rfl, rfl, rfl, by show w.heap.size ≤ (w.heap ++ os).size; rw [Array.size_append]; omega, fun j hj _ => Array.getElem?_append_left hj⟩
def bs (l : List UInt8) : ByteArray := ⟨l.toArray⟩
def sp_Itoa : SpecF := pureSp true [.int .i64] (fun _ => True) (fun (n', _) => .v false [.d .str (bs (num n'))])
theorem Itoa_sp : SpFact 58 sp_Itoa := by
  refine ⟨⟨_, rfl, rfl, rfl, callsSpT_ok (fun _ _ => rfl) ?_⟩, pureSp_loc _ _ _ _⟩
  rintro ⟨n, u⟩ w G A vals htb ⟨⟨h0, h1⟩, -⟩ - ha
  obtain ⟨v1, r1, rfl, q1, rfl⟩ := ha
  have q1 := AV.one_rel (x := .v false [.d (.int .i64) n]) rfl q1
  obtain ⟨q1, q1'⟩ := q1
  cases q1
  change Int at n
  have h0 : -9223372036854775808 ≤ n := h0
  have h1 : n ≤ 9223372036854775807 := h1
  refine Calls.mono (Tryd.strconv_Itoa n h0 h1 w htb.1) ?_
  rintro e w' ⟨rfl, k, os, rfl⟩
  refine ⟨_, rfl, only_grow _ _ _, AV.rel_of ⟨rfl, ?_⟩⟩
  have := num_len n h0 h1
  show (num n).toArray.size ≤ maxLen
  rw [List.size_toArray]
  unfold maxLen
  omega
def sp_prefixed : SpecF := bldSp [.int .u8, .slice .str] (fun l (m', t', _) => l.length + (pfx (UInt8.ofNat (Int.toNat m')) t').length ≤ 100000000) (fun _ => .tu []) (fun l (m', t', _) => l ++ pfx (UInt8.ofNat (Int.toNat m')) t')
theorem pfx_mono (m : UInt8) (l : List ByteArray) (i : Nat) : (pfx m (l.take i)).length ≤ (pfx m l).length := by
  have : pfx m l = pfx m (l.take i) ++ pfx m (l.drop i) := by
    unfold pfx
    rw [← List.flatMap_append, List.take_append_drop]
  rw [this, List.length_append]; omega
theorem prefixed_sp : SpFact 44 sp_prefixed := by
  refine ⟨⟨Tryd.f44, rfl, rfl, rfl, bldSp_ok (env_fine (sp := [(42, sp_WS), (59, sp_WB)]) (eq := []) ⟨WS_sp, WB_sp, True.intro⟩ True.intro) rfl (fun _ => rfl) ?_⟩, bldSp_loc _ _ _ _⟩
  rintro l ⟨m, t, u⟩ ⟨⟨hm0, hm1⟩, ⟨ht, -⟩, -⟩ hpre
  change List ByteArray at t
  change Int at m
  rw [maxLen_eq] at ht
  dsimp only at ht hpre
  (refine fnB_of rfl rfl rfl rfl ?_; dsimp only [params, argAV, Ty.leaves, Ty.isSt, List.cons_append, List.nil_append])
  (repeat' (first | (with_reducible refine Cend.go ?_) | (with_reducible refine Step.mk True.intro ?_) | (with_reducible refine Step.mk ?_ ?_; focus (((try simp only [true_and, and_true, and_self, kmin, kmax, decide_eq_true_eq, decide_eq_false_iff_not, castD_self, castL_self, List.length_cons, List.length_nil, List.length_append, Int.natCast_add] at *) <;> omega))) | (with_reducible refine Step.mk ?_ ?_) | (with_reducible refine Way.t1 ?_) | (with_reducible refine Way.f1 ?_) | ((with_reducible refine Way.dec (fun _ => ?_) (fun _ => ?_)) <;> try (exfalso; omega)) | (with_reducible refine Way.nt ?_) | (with_reducible refine Way.mk (fun _ => ?_) (fun _ => ?_)) | (with_reducible refine Drawn.mk (by kernel_rfl) ?_) | (refine Run.mk ?_)))
  refine loop_by (X := Nat) (fun x => [.put 0 (.v false [.p RT 0]), .put 1 (.v false [.d (.int .u8) m]), .put 8 (.v false [.d (.slice .str) t]), .put 9 (.v false [.d (.int .i64) (t.length : Int)]), .put 10 (.v false [.d (.int .i64) (x : Int)]), .mark, .put 0 (.v false [.p RT 0])])
    (fun x => [.put RT (.bld 48 5 (l ++ pfx (UInt8.ofNat m.toNat) (t.take x)))]) (fun x => x ≤ t.length) (fun x => t.length - x) 0 (Nat.zero_le _) ?_ ?_
  · rw [show l ++ pfx (UInt8.ofNat m.toNat) (t.take 0) = l from List.append_nil l]
    (refine Wk.keep ?_ ?_ <;> repeat' (first | exact True.intro | refine And.intro rfl ?_ | refine And.intro (congrArg (fun z : Int => AV.v false [Lf.d (.int .i64) z]) (by first | omega | (simp only [Int.natCast_add, List.length_cons, List.length_append, List.length_nil]; omega))) ?_ | refine And.intro ?_ ?_))
  intro x hx
  by_cases hxt : x < t.length
  · have hg := getD_at (a := t) Ty.str.dflt hxt
    have e := pfx_take (UInt8.ofNat m.toNat) hxt
    have hl := pfx_mono (UInt8.ofNat m.toNat) t (x + 1)
    rw [← hg] at e
    have hl2 : (l ++ pfx (UInt8.ofNat m.toNat) (t.take x)).length + ((t.getD ((x : Int)).toNat Ty.str.dflt).size + 2) ≤ 100000000 := by
      have e2 := congrArg List.length e
      simp only [List.length_append, List.length_singleton] at e2 ⊢
      have : (t.getD ((x : Int)).toNat Ty.str.dflt).size = (t.getD ((x : Int)).toNat Ty.str.dflt).data.toList.length := rfl
      omega
    replace hg := Lib.hid hg
    replace e := Lib.hid e
    have hd0 : (t.getD ((x : Int)).toNat Ty.str.dflt).size = (t.getD ((x : Int)).toNat Ty.str.dflt).data.toList.length := rfl
    (repeat' (first | (with_reducible refine Cend.go ?_) | (with_reducible refine Step.mk True.intro ?_) | (with_reducible refine Step.mk ?_ ?_; focus (((try simp only [true_and, and_true, and_self, kmin, kmax, decide_eq_true_eq, decide_eq_false_iff_not, castD_self, castL_self, List.length_cons, List.length_nil, List.length_append, Int.natCast_add] at *) <;> omega))) | (with_reducible refine Step.mk ?_ ?_) | (with_reducible refine Way.t1 ?_) | (with_reducible refine Way.f1 ?_) | ((with_reducible refine Way.dec (fun _ => ?_) (fun _ => ?_)) <;> try (exfalso; omega)) | (with_reducible refine Way.nt ?_) | (with_reducible refine Way.mk (fun _ => ?_) (fun _ => ?_)) | (with_reducible refine Drawn.mk (by kernel_rfl) ?_) | (refine Run.mk ?_)))
    refine Back.by (x + 1) ?_ hxt ?_
    · have e3 : l ++ pfx (UInt8.ofNat m.toNat) (t.take x) ++ [UInt8.ofNat m.toNat] ++ (t.getD ((x : Int)).toNat Ty.str.dflt).data.toList ++ [UInt8.ofNat (Int.toNat 10)] = l ++ pfx (UInt8.ofNat m.toNat) (t.take (x + 1)) := by
        rw [e.out]
        simp only [List.append_assoc]; rfl
      rw [← e3]
      (refine Wk.keep ?_ ?_ <;> repeat' (first | exact True.intro | refine And.intro rfl ?_ | refine And.intro (congrArg (fun z : Int => AV.v false [Lf.d (.int .i64) z]) (by first | omega | (simp only [Int.natCast_add, List.length_cons, List.length_append, List.length_nil]; omega))) ?_ | refine And.intro ?_ ?_))
    · show t.length - (x + 1) < t.length - x; omega
  · have et : t.take x = t := List.take_of_length_le (by omega)
    rw [et]
    (repeat' (first | (with_reducible refine Cend.go ?_) | (with_reducible refine Step.mk True.intro ?_) | (with_reducible refine Step.mk ?_ ?_; focus (((try simp only [true_and, and_true, and_self, kmin, kmax, decide_eq_true_eq, decide_eq_false_iff_not, castD_self, castL_self, List.length_cons, List.length_nil, List.length_append, Int.natCast_add] at *) <;> omega))) | (with_reducible refine Step.mk ?_ ?_) | (with_reducible refine Way.t1 ?_) | (with_reducible refine Way.f1 ?_) | ((with_reducible refine Way.dec (fun _ => ?_) (fun _ => ?_)) <;> try (exfalso; omega)) | (with_reducible refine Way.nt ?_) | (with_reducible refine Way.mk (fun _ => ?_) (fun _ => ?_)) | (with_reducible refine Drawn.mk (by kernel_rfl) ?_) | (refine Run.mk ?_)))
    exact Ret.mk ⟨rfl, rfl, rfl⟩
def sp_side : SpecF := bldSp [.int .i64, .int .i64] (fun l (a', n', _) => (-1000000 ≤ (show Int from a') ∧ (show Int from a') ≤ 1000000) ∧ (-1000000 ≤ (show Int from n') ∧ (show Int from n') ≤ 1000000) ∧ l.length ≤ 100000000) (fun _ => .tu []) (fun l (a', n', _) => l ++ side a' n')
theorem bs_append (a b : List UInt8) : bs a ++ bs b = bs (a ++ b) := by
  unfold bs
  apply ByteArray.ext
  simp
theorem bs_list (l : List UInt8) : (bs l).data.toList = l := rfl
theorem bs_size (l : List UInt8) : (bs l).size = l.length := by show l.toArray.size = _; rw [List.size_toArray]
theorem ba_list (a b : ByteArray) : (a ++ b).data.toList = a.data.toList ++ b.data.toList := by simp
theorem side_sp : SpFact 43 sp_side := by
  refine ⟨⟨Tryd.f43, rfl, rfl, rfl, bldSp_ok (env_fine (sp := [(42, sp_WS), (58, sp_Itoa)]) (eq := []) ⟨WS_sp, Itoa_sp, True.intro⟩ True.intro) rfl (fun _ => rfl) ?_⟩, bldSp_loc _ _ _ _⟩
  rintro l ⟨a, n, u⟩ - ⟨⟨ha0, ha1⟩, ⟨hn0, hn1⟩, hl⟩
  change Int at a n
  change -1000000 ≤ a at ha0
  change a ≤ 1000000 at ha1
  change -1000000 ≤ n at hn0
  change n ≤ 1000000 at hn1
  have e1 := num_len n (by omega) (by omega)
  have e2 := num_len a (by omega) (by omega)
  have e3 := num_len (a + 1) (by omega) (by omega)
  (refine fnB_of rfl rfl rfl rfl ?_; dsimp only [params, argAV, Ty.leaves, Ty.isSt, List.cons_append, List.nil_append])
  (repeat' (first | (with_reducible refine Cend.go ?_) | (with_reducible refine Step.mk True.intro ?_) | (with_reducible refine Step.mk ?_ ?_; focus (((try simp only [true_and, and_true, and_self, kmin, kmax, decide_eq_true_eq, decide_eq_false_iff_not, castD_self, castL_self, List.length_cons, List.length_nil, List.length_append, Int.natCast_add] at *) <;> omega))) | (with_reducible refine Step.mk ?_ ?_) | (with_reducible refine Way.t1 ?_) | (with_reducible refine Way.f1 ?_) | ((with_reducible refine Way.dec (fun _ => ?_) (fun _ => ?_)) <;> try (exfalso; omega)) | (with_reducible refine Way.nt ?_) | (with_reducible refine Way.mk (fun _ => ?_) (fun _ => ?_)) | (with_reducible refine Drawn.mk (by kernel_rfl) ?_) | (refine Run.mk ?_)))
  all_goals try (simp only [ByteArray.size_append, bs_size, (show (⟨#[44]⟩ : ByteArray).size = 1 from rfl)]; omega)
  · refine Ret.mk ⟨rfl, rfl, ?_⟩
    show some (Ob.bld _ _ (l ++ (bs (num (a + 1)) ++ ⟨#[44]⟩ ++ bs (num n)).data.toList)) = some (Ob.bld _ _ (l ++ side a n))
    rw [ba_list, ba_list, side, if_pos (by omega)]; rfl
  · refine Ret.mk ⟨rfl, rfl, ?_⟩
    show some (Ob.bld _ _ (l ++ (bs (num a) ++ ⟨#[44]⟩ ++ bs (num n)).data.toList)) = some (Ob.bld _ _ (l ++ side a n))
    rw [ba_list, ba_list, side, if_neg (by omega)]; rfl
end Go.Proofs.YtppmhjaooiameaaDoor
