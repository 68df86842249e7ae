/- The walk of the law's rest: the bytes outside of ranges. -/
import Derived.Test.YtdpcbffmmndhcaaWxEq
import Derived.Test.YtdpcbffmmndhcaaHlPure
namespace Go.Proofs.Ytdpcbffmmndhcaa
open Go.RowKit
set_option maxRecDepth 10000
set_option linter.unusedSimpArgs false

/-- the bytes outside of ranges -/
def gaps (L : List UInt8) : Int → List (Int × Int) → List UInt8
  | a, [] => L.drop a.toNat
  | a, p :: r => (L.drop a.toNat).take (p.1 - a).toNat ++ gaps L p.2 r
theorem gaps_gp (L : List UInt8) : ∀ (l : List (Int × Int)) (f : Bool) (a e : Int), gd f a l e → gaps L a l = gp L a l ++ L.drop e.toNat
  | [], f, a, e, h => by have h : e = a := h; subst h; rfl
  | p :: r, f, a, e, h => by
    show (L.drop a.toNat).take (p.1 - a).toNat ++ gaps L p.2 r = (L.drop a.toNat).take (p.1 - a).toNat ++ gp L p.2 r ++ _
    rw [gaps_gp L r false p.2 e h.2.2, List.append_assoc]
def restS (s : ByteArray) (l : List (Int × Int)) : ByteArray := ⟨(gaps s.data.toList 0 l).toArray⟩
theorem ext_bytes {a b : ByteArray} (h : a.data.toList = b.data.toList) : a = b := by
  cases a; cases b; congr 1; exact Array.toList_inj.1 h
theorem extract_bytes (s : ByteArray) (i j : Nat) : (s.extract i j).data.toList = (s.data.toList.drop i).take (j - i) := by
  simp [ByteArray.data_extract, List.extract_eq_take_drop]
theorem extract_size (s : ByteArray) (i j : Nat) : (s.extract i j).size ≤ s.size := by
  rw [← bytes_len, ← bytes_len, extract_bytes, List.length_take, List.length_drop]; omega
theorem append_bytes (a b : ByteArray) : (a ++ b).data.toList = a.data.toList ++ b.data.toList := by simp
theorem gaps_len (L : List UInt8) : ∀ (l : List (Int × Int)) (f : Bool) (a e : Int), gd f a l e → 0 ≤ a → e ≤ L.length → (gaps L a l).length + a.toNat ≤ L.length
  | [], f, a, e, h, h0, h1 => by
    have h : e = a := h
    show (L.drop a.toNat).length + a.toNat ≤ _
    rw [List.length_drop]; omega
  | p :: r, f, a, e, h, h0, h1 => by
    have := gaps_len L r false p.2 e h.2.2 (by have := h.1.1; have := h.2.1; omega) h1
    have h3 := gd_le _ _ _ _ h.2.2
    have := h.1.1; have := h.2.1
    show ((L.drop a.toNat).take (p.1 - a).toNat ++ gaps L p.2 r).length + _ ≤ _
    rw [List.length_append, List.length_take, List.length_drop]
    omega

def sp_rest : SpecF := pureSp false [.str, .slice tPr] (fun (a', b', _) => a'.size ≤ 80 ∧ ∃ e, gd true 0 b' e ∧ e ≤ a'.size) (fun (a', b', _) => .tu [(false, [.d .str (restS a' b')]), (false, [.d .bool true])])
theorem rest_sp : SpFact 28 sp_rest := by
  refine ⟨⟨Try.f28, rfl, rfl, rfl, pureSp_ok (env_fine (sp := []) (eq := []) True.intro True.intro) rfl (fun ⟨_, _, _⟩ _ => rfl) ?_⟩, pureSp_loc _ _ _ _⟩
  rintro ⟨s, l, u⟩ ⟨-, ⟨hl, -⟩, -⟩ ⟨hs, e, hg, he⟩
  rw [maxLen_eq] at hl
  dsimp only at hs hl hg he ⊢
  have hL : s.data.toList.length = s.size := bytes_len s
  (refine fnM_of rfl rfl rfl rfl ?_; dsimp only [params, argAV, Ty.leaves, Ty.isSt])
  (repeat' (first | (with_reducible refine Step.mk True.intro ?_) | (with_reducible refine Step.mk ?_ ?_; focus (((try simp only [true_and, and_true, and_self, kmin, kmax, decide_eq_true_eq, decide_eq_false_iff_not, castD_self, castL_self, List.length_cons, List.length_nil, List.length_append, Int.natCast_add] at *) <;> omega))) | (with_reducible refine Step.mk ?_ ?_) | (with_reducible refine Way.t1 ?_) | (with_reducible refine Way.f1 ?_) | ((with_reducible refine Way.dec (fun _ => ?_) (fun _ => ?_)) <;> try (exfalso; omega)) | (with_reducible refine Way.nt ?_) | (with_reducible refine Way.mk (fun _ => ?_) (fun _ => ?_)) | (with_reducible refine Drawn.mk (by kernel_rfl) ?_) | (refine Run.mk ?_)))
  refine loop_by (X := Nat × Int × ByteArray) (fun x => [.put 0 (.v false [.d .str s]), .put 1 (.v false [.d (.slice tPr) l]), .put 6 (.v false [.d .str x.2.2]), .put 7 (.v false [.d (.int .i64) x.2.1]), .put 8 (.v false [.d (.int .i64) (x.1 : Int)])]) (fun _ => [])
    (fun x => x.1 ≤ l.length ∧ 0 ≤ x.2.1 ∧ gd (decide (x.1 = 0)) x.2.1 (l.drop x.1) e ∧ gaps s.data.toList 0 l = x.2.2.data.toList ++ gaps s.data.toList x.2.1 (l.drop x.1)) (fun x => l.length - x.1) (0, 0, .empty) ⟨Nat.zero_le _, Int.le_refl _, hg, rfl⟩ ?_ ?_
  · (refine Wk.keep ?_ ?_ <;> repeat' (first | exact True.intro | refine And.intro rfl ?_ | refine And.intro (congrArg (fun z : Int => AV.v false [Lf.d (.int .i64) z]) (by first | omega | (simp only [Int.natCast_add, List.length_cons, List.length_append, List.length_nil]; omega))) ?_ | refine And.intro ?_ ?_))
  rintro ⟨i, a, o⟩ ⟨hi, ha, hgd, hgp⟩
  dsimp only at hi ha hgd hgp ⊢
  have hae := gd_le _ _ _ _ hgd
  have hgl := gaps_len s.data.toList l true 0 e hg (Int.le_refl _) (by omega)
  have hol : o.size ≤ 80 := by
    have := congrArg List.length hgp
    rw [List.length_append, bytes_len] at this
    omega
  by_cases hlt : i < l.length
  · have gl := getD_at (a := l) tPr.dflt hlt
    have hd := List.drop_eq_getElem_cons hlt
    rw [hd] at hgd
    obtain ⟨⟨k1, k2⟩, k3, k4⟩ := hgd
    have k5 := gd_le _ _ _ _ k4
    have hg1 : gaps s.data.toList a (l.drop i) = (s.data.toList.drop a.toNat).take (l[i].1 - a).toNat ++ gaps s.data.toList l[i].2 (l.drop (i + 1)) := by rw [hd]; rfl
    rw [← gl] at k1 k2 k3 k5
    have k2 : i = 0 ∨ a < (l.getD ((i : Int)).toNat tPr.dflt).1 := by
      rcases Nat.eq_zero_or_pos i with h | h
      · exact .inl h
      · exact .inr (k2 (by simp; omega))
    have hx := extract_size s a.toNat ((l.getD ((i : Int)).toNat tPr.dflt).1).toNat
    replace hgp := Lib.hid hgp
    replace hg1 := Lib.hid hg1
    replace k4 := Lib.hid k4
    replace hg := Lib.hid hg
    replace gl := Lib.hid gl
    replace hd := Lib.hid hd
    (repeat' (first | (with_reducible refine Step.mk True.intro ?_) | (with_reducible refine Step.mk ?_ ?_; focus (((try simp only [true_and, and_true, and_self, kmin, kmax, decide_eq_true_eq, decide_eq_false_iff_not, castD_self, castL_self, List.length_cons, List.length_nil, List.length_append, Int.natCast_add] at *) <;> omega))) | (with_reducible refine Step.mk ?_ ?_) | (with_reducible refine Way.t1 ?_) | (with_reducible refine Way.f1 ?_) | ((with_reducible refine Way.dec (fun _ => ?_) (fun _ => ?_)) <;> try (exfalso; omega)) | (with_reducible refine Way.nt ?_) | (with_reducible refine Way.mk (fun _ => ?_) (fun _ => ?_)) | (with_reducible refine Drawn.mk (by kernel_rfl) ?_) | (refine Run.mk ?_)))
    all_goals
      (refine Back.by ((i + 1, (l.getD ((i : Int)).toNat tPr.dflt).2, o ++ s.extract a.toNat ((l.getD ((i : Int)).toNat tPr.dflt).1).toNat)) ?_ ?_ ?_; focus (refine Wk.keep ?_ ?_ <;> repeat' (first | exact True.intro | refine And.intro rfl ?_ | refine And.intro (congrArg (fun z : Int => AV.v false [Lf.d (.int .i64) z]) (by first | omega | (simp only [Int.natCast_add, List.length_cons, List.length_append, List.length_nil]; omega))) ?_ | refine And.intro ?_ ?_)))
      · have gl' := gl.out
        refine ⟨hlt, by dsimp only; omega, ?_, ?_⟩
        · dsimp only
          rw [decide_eq_false (by omega), gl']; exact k4.out
        · dsimp only
          rw [hgp.out, hg1.out, append_bytes, extract_bytes, gl', List.append_assoc]
          congr 2
          rw [gl'] at k1
          congr 1
          omega
      · show l.length - (i + 1) < l.length - i; omega
  · have hx := extract_size s a.toNat ((s.size : Int)).toNat
    (repeat' (first | (with_reducible refine Step.mk True.intro ?_) | (with_reducible refine Step.mk ?_ ?_; focus (((try simp only [true_and, and_true, and_self, kmin, kmax, decide_eq_true_eq, decide_eq_false_iff_not, castD_self, castL_self, List.length_cons, List.length_nil, List.length_append, Int.natCast_add] at *) <;> omega))) | (with_reducible refine Step.mk ?_ ?_) | (with_reducible refine Way.t1 ?_) | (with_reducible refine Way.f1 ?_) | ((with_reducible refine Way.dec (fun _ => ?_) (fun _ => ?_)) <;> try (exfalso; omega)) | (with_reducible refine Way.nt ?_) | (with_reducible refine Way.mk (fun _ => ?_) (fun _ => ?_)) | (with_reducible refine Drawn.mk (by kernel_rfl) ?_) | (refine Run.mk ?_)))
    refine Ret.mk ?_
    have hend : restS s l = o ++ s.extract a.toNat ((s.size : Int)).toNat := by
      refine ext_bytes ?_
      show gaps s.data.toList 0 l = _
      rw [append_bytes, extract_bytes, hgp, List.drop_eq_nil_of_le (by omega)]
      congr 1
      show s.data.toList.drop a.toNat = _
      rw [List.take_of_length_le]
      rw [List.length_drop]
      omega
    rw [hend]
    rfl
end Go.Proofs.Ytdpcbffmmndhcaa
