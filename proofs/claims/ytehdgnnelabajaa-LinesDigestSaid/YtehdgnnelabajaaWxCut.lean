/- strings.Cut at a newline. -/
import Derived.Test.YtehdgnnelabajaaWxBase
namespace Go.Proofs.Ytehdgnnelabajaa
open Go.RowKit
set_option maxRecDepth 100000
set_option linter.unusedSimpArgs false

def nlS : ByteArray := ⟨#[10]⟩
theorem nlS_size : ByteArray.size nlS = 1 := rfl
theorem SIndexByte_sp : SpFact 63 (pureSp false [.str, .int .u8] (fun _ => True) (fun x => .v false [.d (.int .i64) (Lib.indexByte x.1.data.toList x.2.1.toNat.toUInt8)])) := by
  refine ⟨⟨_, rfl, rfl, rfl, callsSp_ok (fun _ _ => rfl) ?_⟩, pureSp_loc _ _ _ _⟩
  rintro ⟨s, c, u⟩ w G A vals ⟨hs, -⟩ - ha
  obtain ⟨v1, r1, rfl, h1, v2, r2, rfl, h2, rfl⟩ := ha
  have h1 := AV.one_rel (x := .v false [.d .str s]) rfl h1
  have h2 := AV.one_rel (x := .v false [.d (.int .u8) c]) rfl h2
  obtain ⟨h1, h1'⟩ := h1
  obtain ⟨h2, h2'⟩ := h2
  cases h1
  cases h2
  refine Calls.mono (Try.stringslite_IndexByte s c w) ?_
  rintro e w' ⟨rfl, rfl⟩
  refine ⟨_, rfl, Only.refl _ _, AV.rel_of ⟨rfl, ?_⟩⟩
  have hs : s.size ≤ maxLen := hs
  rw [maxLen_eq] at hs
  have hlen : s.data.toList.length = s.size := by rw [Array.length_toList]; rfl
  have g1 := Lib.indexByte_ge s.data.toList c.toNat.toUInt8
  have g2 := indexByte_le s.data.toList c.toNat.toUInt8
  show -9223372036854775808 ≤ Lib.indexByte s.data.toList c.toNat.toUInt8 ∧ Lib.indexByte s.data.toList c.toNat.toUInt8 ≤ 9223372036854775807
  omega
def sp_SIB : SpecF := pureSp false [.str, .int .u8] (fun _ => True) (fun x => .v false [.d (.int .i64) (Lib.indexByte x.1.data.toList x.2.1.toNat.toUInt8)])
def nlIx (s : ByteArray) : Int := Lib.indexByte s.data.toList 10
def sp_Index : SpecF := pureSp false [.str, .str] (fun (_, b', _) => b' = nlS) (fun (a', _, _) => .v false [.d (.int .i64) (nlIx a')])
theorem Index_sp : SpFact 78 sp_Index := by
  refine ⟨⟨Try.f78, rfl, rfl, rfl, pureSp_ok (env_fine (sp := [(63, sp_SIB)]) (eq := []) ⟨SIndexByte_sp, True.intro⟩ True.intro) rfl (fun ⟨_, _, _⟩ _ => rfl) ?_⟩, pureSp_loc _ _ _ _⟩
  rintro ⟨s, sep, u⟩ - hsep
  change sep = nlS at hsep
  have h1 : ByteArray.size sep = 1 := by rw [hsep]; rfl
  replace hsep := Lib.hid hsep
  (refine fnM_of rfl rfl rfl rfl ?_; dsimp only [params, argAV, Ty.leaves, Ty.isSt])
  (repeat' (first | (with_reducible refine Step.mk True.intro ?_) | (with_reducible refine Step.mk ?_ ?_; focus (((try simp only [true_and, and_true, and_self, kmin, kmax, decide_eq_true_eq, decide_eq_false_iff_not, castD_self, castL_self, List.length_cons, List.length_nil, List.length_append, Int.natCast_add] at *) <;> omega))) | (with_reducible refine Step.mk ?_ ?_) | (with_reducible refine Way.t1 ?_) | (with_reducible refine Way.f1 ?_) | ((with_reducible refine Way.dec (fun _ => ?_) (fun _ => ?_)) <;> try (exfalso; omega)) | (with_reducible refine Way.nt ?_) | (with_reducible refine Way.mk (fun _ => ?_) (fun _ => ?_)) | (with_reducible refine Drawn.mk (by kernel_rfl) ?_) | (refine Run.mk ?_)))
  · rename_i q
    refine Ret.mk ?_
    show AV.v false [.d (.int .i64) 0] = AV.v false [.d (.int .i64) (nlIx s)]
    rw [← q, hsep.out]
    rfl
  · refine Ret.mk ?_
    show AV.v false [.d (.int .i64) (Lib.indexByte s.data.toList (Int.toNat (byteAt sep 0)).toUInt8)] = AV.v false [.d (.int .i64) (nlIx s)]
    rw [hsep.out]
    rfl
theorem indexByte_lt (l : List UInt8) (c : UInt8) : Lib.indexByte l c < l.length := by
  induction l with
  | nil => simp [Lib.indexByte]
  | cons b l ih =>
    unfold Lib.indexByte
    simp only [List.length_cons]
    split
    · omega
    · split <;> omega
theorem nlIx_lt (s : ByteArray) : nlIx s < s.size := indexByte_lt s.data.toList 10
theorem nlIx_ge (s : ByteArray) : -1 ≤ nlIx s := Lib.indexByte_ge s.data.toList 10
/-- the line ahead of the first newline, what follows it, whether there is one -/
def cutA (s : ByteArray) : ByteArray := if 0 ≤ nlIx s then s.extract 0 (nlIx s).toNat else s
def cutB (s : ByteArray) : ByteArray := if 0 ≤ nlIx s then s.extract (nlIx s + 1).toNat s.size else ByteArray.empty
def sp_SCut : SpecF := pureSp false [.str, .str] (fun (_, b', _) => b' = nlS) (fun (a', _, _) => .tu [(false, [.d .str (cutA a')]), (false, [.d .str (cutB a')]), (false, [.d .bool (decide (0 ≤ nlIx a'))])])
theorem SCut_sp : SpFact 74 sp_SCut := by
  refine ⟨⟨Try.f74, rfl, rfl, rfl, pureSp_ok (env_fine (sp := [(78, sp_Index)]) (eq := []) ⟨Index_sp, True.intro⟩ True.intro) rfl (fun ⟨_, _, _⟩ _ => rfl) ?_⟩, pureSp_loc _ _ _ _⟩
  rintro ⟨s, sep, u⟩ ⟨hsz, -⟩ hsep
  change sep = nlS at hsep
  have hsz : s.size ≤ maxLen := hsz
  rw [maxLen_eq] at hsz
  have h1 : ByteArray.size sep = 1 := by rw [hsep]; rfl
  have h2 := nlIx_lt s
  have h3 := nlIx_ge s
  have h2 : nlIx s < ByteArray.size s := h2
  (refine fnM_of rfl rfl rfl rfl ?_; dsimp only [params, argAV, Ty.leaves, Ty.isSt])
  (repeat' (first | (with_reducible refine Step.mk True.intro ?_) | (with_reducible refine Step.mk ?_ ?_; focus (((try simp only [true_and, and_true, and_self, kmin, kmax, decide_eq_true_eq, decide_eq_false_iff_not, castD_self, castL_self, List.length_cons, List.length_nil, List.length_append, Int.natCast_add] at *) <;> omega))) | (with_reducible refine Step.mk ?_ ?_) | (with_reducible refine Way.t1 ?_) | (with_reducible refine Way.f1 ?_) | ((with_reducible refine Way.dec (fun _ => ?_) (fun _ => ?_)) <;> try (exfalso; omega)) | (with_reducible refine Way.nt ?_) | (with_reducible refine Way.mk (fun _ => ?_) (fun _ => ?_)) | (with_reducible refine Drawn.mk (by kernel_rfl) ?_) | (refine Run.mk ?_)))
  · rename_i q
    have q : 0 ≤ nlIx s := by omega
    refine Ret.mk ?_
    have e1 : cutA s = ByteArray.extract s (Int.toNat 0) (nlIx s).toNat := if_pos q
    have e2 : cutB s = ByteArray.extract s (nlIx s + ((ByteArray.size sep : Nat) : Int)).toNat (((ByteArray.size s : Nat) : Int)).toNat := by
      rw [show cutB s = _ from if_pos q, h1]; rfl
    have e3 : decide (0 ≤ nlIx s) = true := decide_eq_true q
    rw [e1, e2, e3]
    rfl
  · rename_i q
    have q : ¬ 0 ≤ nlIx s := by omega
    refine Ret.mk ?_
    have e1 : cutA s = s := if_neg q
    have e2 : cutB s = ByteArray.empty := if_neg q
    have e3 : decide (0 ≤ nlIx s) = false := decide_eq_false q
    rw [e1, e2, e3]
    rfl
def sp_Cut : SpecF := pureSp false [.str, .str] (fun (_, b', _) => b' = nlS) (fun (a', _, _) => .tu [(false, [.d .str (cutA a')]), (false, [.d .str (cutB a')]), (false, [.d .bool (decide (0 ≤ nlIx a'))])])
theorem Cut_sp : SpFact 61 sp_Cut := by
  refine ⟨⟨Try.f61, rfl, rfl, rfl, pureSp_ok (env_fine (sp := [(74, sp_SCut)]) (eq := []) ⟨SCut_sp, True.intro⟩ True.intro) rfl (fun ⟨_, _, _⟩ _ => rfl) ?_⟩, pureSp_loc _ _ _ _⟩
  rintro ⟨s, sep, u⟩ - hsep
  change sep = nlS at hsep
  (refine fnM_of rfl rfl rfl rfl ?_; dsimp only [params, argAV, Ty.leaves, Ty.isSt])
  (repeat' (first | (with_reducible refine Step.mk True.intro ?_) | (with_reducible refine Step.mk ?_ ?_; focus (((try simp only [true_and, and_true, and_self, kmin, kmax, decide_eq_true_eq, decide_eq_false_iff_not, castD_self, castL_self, List.length_cons, List.length_nil, List.length_append, Int.natCast_add] at *) <;> omega))) | (with_reducible refine Step.mk ?_ ?_) | (with_reducible refine Way.t1 ?_) | (with_reducible refine Way.f1 ?_) | ((with_reducible refine Way.dec (fun _ => ?_) (fun _ => ?_)) <;> try (exfalso; omega)) | (with_reducible refine Way.nt ?_) | (with_reducible refine Way.mk (fun _ => ?_) (fun _ => ?_)) | (with_reducible refine Drawn.mk (by kernel_rfl) ?_) | (refine Run.mk ?_)))
  exact Ret.mk rfl
end Go.Proofs.Ytehdgnnelabajaa
