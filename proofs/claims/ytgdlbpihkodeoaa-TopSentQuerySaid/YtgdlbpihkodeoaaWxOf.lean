/- history.Of. -/
import Derived.Test.YtgdlbpihkodeoaaWxBack
import Derived.Shelf.Abstract
import Derived.Test.YtgdlbpihkodeoaaOfPure
import Derived.Test.YtgdlbpihkodeoaaWxHist
namespace Go.Proofs.Ytgdlbpihkodeoaa
open Go.RowKit
set_option maxRecDepth 100000
set_option linter.unusedSimpArgs false

/-- the code ahead of the range -/
def preCode : Code → Code
  | .seq a (.seq b (.seq c (.seq (.seq d _) _))) => .seq a (.seq b (.seq c d))
  | c => c
def gbO : Nat := 27001
abbrev slO : List SEnt := [.put 5 (.v false [.p 5 0]), .put 26 (.v false [.fn 73 [27001]])]
abbrev hlO (l : List Cm) (s : List Bool) : List HEnt := [.put 5 (.box 51 [.o 14]), .put 14 (.row 4 .bool s), .put 27001 (.box 22 [.d (.slice tCm) l])]

set_option maxHeartbeats 1000000 in
theorem Of_pre {l : List Cm} {ns : List Int} (hl : l.length ≤ 60) (hns : ns.length ≤ 9223372036854775807) (hn : ∀ n ∈ ns, 0 ≤ n ∧ n < l.length) {E : Env} (hE : E = env1 [] [] [(65, Try.f65)]) :
    ∀ c, Try.f46.body = some c → mx (cH 5 E) E Try.f46.ntmps (preCode c) (params 0 (argAV [.slice tCm, .slice (.int .i64)] (l, ns, ()))) [] (fun e s t => e = .normal ∧ Wk Try.f46.ntmps s t slO (hlO l (stO l ns))) := by
  subst hE
  intro c hc
  cases hc
  dsimp only [preCode, params, argAV, Ty.leaves, Ty.isSt]
  (repeat' (first | (with_reducible refine Cend.go ?_) | (with_reducible refine Step.mk True.intro ?_) | (with_reducible refine Step.mk ?_ ?_; focus (((try simp only [true_and, and_true, and_self, kmin, kmax, decide_eq_true_eq, decide_eq_false_iff_not, castD_self, castL_self, List.length_cons, List.length_nil, List.length_append, Int.natCast_add] at *) <;> omega))) | (with_reducible refine Step.mk ?_ ?_) | (with_reducible refine Way.t1 ?_) | (with_reducible refine Way.f1 ?_) | ((with_reducible refine Way.dec (fun _ => ?_) (fun _ => ?_)) <;> try (exfalso; omega)) | (with_reducible refine Way.nt ?_) | (with_reducible refine Way.mk (fun _ => ?_) (fun _ => ?_)) | (with_reducible refine Drawn.mk (by kernel_rfl) ?_) | (refine Run.mk ?_)))
  refine loop_by (X := Nat) (fun x => [.put 0 (.v false [.d (.slice tCm) l]), .put 5 (.v false [.p 5 0]), .put 15 (.v false [.d (.slice (.int .i64)) ns]), .put 16 (.v false [.d (.int .i64) (ns.length : Int)]), .put 17 (.v false [.d (.int .i64) (x : Int)])])
    (fun x => [.put 5 (.box 51 [.o 14]), .put 14 (.row 4 .bool (onS (ns.take x) (List.replicate l.length false)))]) (fun x => x ≤ ns.length) (fun x => ns.length - x) 0 (Nat.zero_le _) ?_ ?_
  · (refine Wk.keep ?_ ?_ <;> repeat' (first | exact True.intro | refine And.intro rfl ?_ | refine And.intro (congrArg (fun z : Int => AV.v false [Lf.d (.int .i64) z]) (by first | omega | (simp only [Int.natCast_add, List.length_cons, List.length_append, List.length_nil]; omega))) ?_ | refine And.intro ?_ ?_))
  intro k hk
  dsimp only at hk ⊢
  by_cases hlt : k < ns.length
  · have hg : ns.getD ((k : Int)).toNat (Ty.int .i64).dflt = ns[k] := getD_of _ hlt
    obtain ⟨n0, n1⟩ := hn _ (List.getElem_mem hlt)
    have hlen : (onS (ns.take k) (List.replicate l.length false)).length = l.length := by rw [onS_len, List.length_replicate]
    have hst := onS_take (s := List.replicate l.length false) hlt
    rw [← hg] at n0 n1 hst
    clear hg hn
    replace hst := Lib.hid hst
    (repeat' (first | (with_reducible refine Cend.go ?_) | (with_reducible refine Step.mk True.intro ?_) | (with_reducible refine Step.mk ?_ ?_; focus (((try simp only [true_and, and_true, and_self, kmin, kmax, decide_eq_true_eq, decide_eq_false_iff_not, castD_self, castL_self, List.length_cons, List.length_nil, List.length_append, Int.natCast_add] at *) <;> omega))) | (with_reducible refine Step.mk ?_ ?_) | (with_reducible refine Way.t1 ?_) | (with_reducible refine Way.f1 ?_) | ((with_reducible refine Way.dec (fun _ => ?_) (fun _ => ?_)) <;> try (exfalso; omega)) | (with_reducible refine Way.nt ?_) | (with_reducible refine Way.mk (fun _ => ?_) (fun _ => ?_)) | (with_reducible refine Drawn.mk (by kernel_rfl) ?_) | (refine Run.mk ?_)))
    (refine Back.by (k + 1) ?_ ?_ ?_; focus (refine Wk.keep ?_ ?_ <;> repeat' (first | exact True.intro | refine And.intro rfl ?_ | refine And.intro (congrArg (fun z : Int => AV.v false [Lf.d (.int .i64) z]) (by first | omega | (simp only [Int.natCast_add, List.length_cons, List.length_append, List.length_nil]; omega))) ?_ | refine And.intro ?_ ?_)))
    · rw [hst.out]; exact rfl
    · exact hlt
    · show ns.length - (k + 1) < ns.length - k; omega
  · have e : ns.take k = ns := List.take_of_length_le (by omega)
    rw [e]
    (repeat' (first | (with_reducible refine Cend.go ?_) | (with_reducible refine Step.mk True.intro ?_) | (with_reducible refine Step.mk ?_ ?_; focus (((try simp only [true_and, and_true, and_self, kmin, kmax, decide_eq_true_eq, decide_eq_false_iff_not, castD_self, castL_self, List.length_cons, List.length_nil, List.length_append, Int.natCast_add] at *) <;> omega))) | (with_reducible refine Step.mk ?_ ?_) | (with_reducible refine Way.t1 ?_) | (with_reducible refine Way.f1 ?_) | ((with_reducible refine Way.dec (fun _ => ?_) (fun _ => ?_)) <;> try (exfalso; omega)) | (with_reducible refine Way.nt ?_) | (with_reducible refine Way.mk (fun _ => ?_) (fun _ => ?_)) | (with_reducible refine Drawn.mk (by kernel_rfl) ?_) | (refine Run.mk ?_)))
    refine ⟨rfl, ?_⟩
    (refine Wk.keep ?_ ?_ <;> repeat' (first | exact True.intro | refine And.intro rfl ?_ | refine And.intro (congrArg (fun z : Int => AV.v false [Lf.d (.int .i64) z]) (by first | omega | (simp only [Int.natCast_add, List.length_cons, List.length_append, List.length_nil]; omega))) ?_ | refine And.intro ?_ ?_))

def asgCode : Code → Code
  | .seq _ (.seq _ (.seq _ (.seq (.seq _ (.block _ (.rangeFunc _ _ a _))) _))) => a
  | c => c
def bdyCode : Code → Code
  | .seq _ (.seq _ (.seq _ (.seq (.seq _ (.block _ (.rangeFunc _ _ _ b))) _))) => b
  | c => c
set_option maxHeartbeats 1000000 in
theorem Of_round {l : List Cm} {s0 : List Bool} (hl : l.length ≤ 60) (hp : ParOk l) (hs0 : s0.length = l.length) (hb : ∀ c ∈ l, c.1.length ≤ 3) {k : Nat} (hk : k < l.length) {E : Env} (hE : E = env1 [] [] [(65, Try.f65)]) :
    ∀ c, Try.f46.body = some c → mx (cH 5 E) E Try.f46.ntmps (.seq (asgCode c) (bdyCode c)) (.put 28 (x2C l k) :: .put 27 (x1C k) :: (slO ++ .mark :: slO)) (hlO l (mkO l s0 (k + 1))) (fun e s t => e = .normal ∧ Wk Try.f46.ntmps (unm s) t slO (hlO l (mkO l s0 k))) := by
  subst hE
  intro c hc
  cases hc
  have hmk := mkO_step (s := s0) hk
  have hpo : parO l k = l[k].1 := parO_of hk
  have hpr : ∀ p ∈ parO l k, 0 ≤ p ∧ p < k := by rw [hpo]; exact hp k hk
  have hpl : (parO l k).length ≤ 3 := by rw [hpo]; exact hb _ (List.getElem_mem hk)
  have hlen : (mkO l s0 (k + 1)).length = l.length := (mkO_len _).trans hs0
  rw [hmk]
  generalize mkO l s0 (k + 1) = s1 at *
  clear hmk hpo hp hb hs0
  dsimp only [asgCode, bdyCode, List.cons_append, List.nil_append, Ty.leaves]
  change mx _ _ _ _ (.put 28 (.v true [.d (.slice (.int .i64)) (parO l k), .d (.int .i64) (l.getD k tCm.dflt).2.1, .d (.int .i64) (l.getD k tCm.dflt).2.2.1, .d (.int .i64) (l.getD k tCm.dflt).2.2.2.1, .d .str (l.getD k tCm.dflt).2.2.2.2]) :: _) _ _
  generalize parO l k = ps at *
  generalize (l.getD k tCm.dflt).2 = rest
  (repeat' (first | (with_reducible refine Cend.go ?_) | (with_reducible refine Step.mk True.intro ?_) | (with_reducible refine Step.mk ?_ ?_; focus (((try simp only [true_and, and_true, and_self, kmin, kmax, decide_eq_true_eq, decide_eq_false_iff_not, castD_self, castL_self, List.length_cons, List.length_nil, List.length_append, Int.natCast_add] at *) <;> omega))) | (with_reducible refine Step.mk ?_ ?_) | (with_reducible refine Way.t1 ?_) | (with_reducible refine Way.f1 ?_) | ((with_reducible refine Way.dec (fun _ => ?_) (fun _ => ?_)) <;> try (exfalso; omega)) | (with_reducible refine Way.nt ?_) | (with_reducible refine Way.mk (fun _ => ?_) (fun _ => ?_)) | (with_reducible refine Drawn.mk (by kernel_rfl) ?_) | (refine Run.mk ?_)))
  refine loop_by (X := Nat) (fun x => [.put 5 (.v false [.p 5 0]), .put 8 (.v false [.d (.int .i64) (k : Int)]), .put 30 (.v false [.d (.slice (.int .i64)) ps]), .put 31 (.v false [.d (.int .i64) (ps.length : Int)]), .put 32 (.v false [.d (.int .i64) (x : Int)]), .mark, .put 5 (.v false [.p 5 0]), .put 26 (.v false [.fn 73 [27001]])])
    (fun x => hlO l (upS k (ps.take x) s1)) (fun x => x ≤ ps.length) (fun x => ps.length - x) 0 (Nat.zero_le _) ?_ ?_
  · (refine Wk.keep ?_ ?_ <;> repeat' (first | exact True.intro | refine And.intro rfl ?_ | refine And.intro (congrArg (fun z : Int => AV.v false [Lf.d (.int .i64) z]) (by first | omega | (simp only [Int.natCast_add, List.length_cons, List.length_append, List.length_nil]; omega))) ?_ | refine And.intro ?_ ?_))
  intro q hq
  dsimp only at hq ⊢
  by_cases hlt : q < ps.length
  · have hg : ps.getD ((q : Int)).toNat (Ty.int .i64).dflt = ps[q] := getD_of _ hlt
    obtain ⟨n0, n1⟩ := hpr _ (List.getElem_mem hlt)
    have hlen' : (upS k (ps.take q) s1).length = l.length := by rw [upS_len, hlen]
    have hst := upS_take (k := k) (s := s1) hlt
    rw [← hg] at n0 n1 hst
    generalize upS k (ps.take q) s1 = s2 at *
    clear hg hpr
    replace hst := Lib.hid hst
    (repeat' (first | (with_reducible refine Cend.go ?_) | (with_reducible refine Step.mk True.intro ?_) | (with_reducible refine Step.mk ?_ ?_; focus (((try simp only [true_and, and_true, and_self, kmin, kmax, decide_eq_true_eq, decide_eq_false_iff_not, castD_self, castL_self, List.length_cons, List.length_nil, List.length_append, Int.natCast_add] at *) <;> omega))) | (with_reducible refine Step.mk ?_ ?_) | (with_reducible refine Way.t1 ?_) | (with_reducible refine Way.f1 ?_) | ((with_reducible refine Way.dec (fun _ => ?_) (fun _ => ?_)) <;> try (exfalso; omega)) | (with_reducible refine Way.nt ?_) | (with_reducible refine Way.mk (fun _ => ?_) (fun _ => ?_)) | (with_reducible refine Drawn.mk (by kernel_rfl) ?_) | (refine Run.mk ?_)))
    · rename_i hx
      have hx : s2.getD (ps.getD ((q : Int)).toNat (Ty.int .i64).dflt).toNat false = true := hx
      (refine Back.by (q + 1) ?_ ?_ ?_; focus (refine Wk.keep ?_ ?_ <;> repeat' (first | exact True.intro | refine And.intro rfl ?_ | refine And.intro (congrArg (fun z : Int => AV.v false [Lf.d (.int .i64) z]) (by first | omega | (simp only [Int.natCast_add, List.length_cons, List.length_append, List.length_nil]; omega))) ?_ | refine And.intro ?_ ?_)))
      · rw [hst.out]; unfold upO; rw [hx, Bool.true_or]; exact rfl
      · exact hlt
      · show ps.length - (q + 1) < ps.length - q; omega
    · rename_i hx
      have hx : s2.getD (ps.getD ((q : Int)).toNat (Ty.int .i64).dflt).toNat false = false := hx
      (refine Back.by (q + 1) ?_ ?_ ?_; focus (refine Wk.keep ?_ ?_ <;> repeat' (first | exact True.intro | refine And.intro rfl ?_ | refine And.intro (congrArg (fun z : Int => AV.v false [Lf.d (.int .i64) z]) (by first | omega | (simp only [Int.natCast_add, List.length_cons, List.length_append, List.length_nil]; omega))) ?_ | refine And.intro ?_ ?_)))
      · rw [hst.out]; unfold upO; rw [hx, Bool.false_or]; exact rfl
      · exact hlt
      · show ps.length - (q + 1) < ps.length - q; omega
  · have e : ps.take q = ps := List.take_of_length_le (by omega)
    rw [e]
    (repeat' (first | (with_reducible refine Cend.go ?_) | (with_reducible refine Step.mk True.intro ?_) | (with_reducible refine Step.mk ?_ ?_; focus (((try simp only [true_and, and_true, and_self, kmin, kmax, decide_eq_true_eq, decide_eq_false_iff_not, castD_self, castL_self, List.length_cons, List.length_nil, List.length_append, Int.natCast_add] at *) <;> omega))) | (with_reducible refine Step.mk ?_ ?_) | (with_reducible refine Way.t1 ?_) | (with_reducible refine Way.f1 ?_) | ((with_reducible refine Way.dec (fun _ => ?_) (fun _ => ?_)) <;> try (exfalso; omega)) | (with_reducible refine Way.nt ?_) | (with_reducible refine Way.mk (fun _ => ?_) (fun _ => ?_)) | (with_reducible refine Drawn.mk (by kernel_rfl) ?_) | (refine Run.mk ?_)))
    refine ⟨rfl, ?_⟩
    (refine Wk.keep ?_ ?_ <;> repeat' (first | exact True.intro | refine And.intro rfl ?_ | refine And.intro (congrArg (fun z : Int => AV.v false [Lf.d (.int .i64) z]) (by first | omega | (simp only [Int.natCast_add, List.length_cons, List.length_append, List.length_nil]; omega))) ?_ | refine And.intro ?_ ?_))

def rstCode : Code → Code
  | .seq _ (.seq _ (.seq _ (.seq _ r))) => r
  | c => c
theorem Of_tail {tmps : Array Value} (hsz : tmps.size = 51) {g : Nat} {v : Value} {W : World} (h5 : tmps.getD 5 undef = .pointer (some ⟨g, 0, none⟩)) (hc : W.cell? ⟨g, 0, none⟩ = some v) {ds : List Deferred} {K : Exit → Act → World → Prop}
    (hK : K .ret { tmps := (tmps.setIfInBounds 50 v).setIfInBounds 4 v, defers := ds } W) : ∀ c, Try.f46.body = some c → (rstCode c).wpIn Fence.wide 5 Try.prog K { tmps := tmps, defers := ds } W := by
  intro c hcd
  cases hcd
  dsimp only [rstCode]
  gi_wp2
  exact hK

theorem Of_shape : ∃ a b c d id e f r, Try.f46.body = some (.seq a (.seq b (.seq c (.seq (.seq d (.block id (.rangeFunc (.tmp 26) #[27, 28] e f))) r)))) ∧ noDefC e = true ∧ noDefC f = true := ⟨_, _, _, _, _, _, _, _, rfl, rfl, rfl⟩
/-- texts one behind the other, of which the machine shows only the first ones -/
theorem mx_seq_wp {P : Program} {C : CallH} {E : Env} (hE : E.Fine P) {n : Nat} (hC : CallOk P n C) (hm : CMono C) {F : Fr} {x y z : Code} {s : List SEnt} {t : List HEnt} {Q : List SEnt → List HEnt → Prop} {K : Exit → Act → World → Prop} {G : Gh} {a : Act} {w : World}
    (h : mx C E n (.seq x y) s t (fun e s t => e = .normal ∧ Q s t)) (hr : Rep F n (look s) (hget t) G a w)
    (hz : ∀ s t G a w, Rep F n (look s) (hget t) G a w → mx C E n y s t (fun e s t => e = .normal ∧ Q s t) → z.wpIn Fence.wide 5 P K a w) : (Code.seq x z).wpIn Fence.wide 5 P K a w := by
  replace h : mx C E n x s t (seqQ (mx C E n y) (fun e s t => e = .normal ∧ Q s t)) := h
  refine wpIn_seq (wpIn_mono (wpIn_wide.2 (mx_wp hE hC hm x _ _ _ h G a w hr)) ?_)
  rintro e a' w' hq
  cases e with
  | normal => obtain ⟨s', t', G', q1, q2⟩ := hq; exact hz _ _ _ _ _ q1 q2
  | exit j => obtain ⟨s', t', G', q1, q2⟩ := hq; exact absurd q2.1 (by simp)
  | ret => obtain ⟨s', t', G', q1, q2⟩ := hq; exact absurd q2.1 (by simp)
  | goto l => exact hq.elim
  | panic c => exact hq.elim
  | outgrown => exact hq.elim
theorem rep_start {ts : List Ty} {xs : dens ts} {w : World} {G : Gh} {A : Nat → Prop} {vals : List Value} (ha : relAs w G A (argAV ts xs) vals) {n : Nat} (hn : vals.length ≤ n) (hn2 : n ≤ SUS) :
    Rep ⟨w, A, fun _ => False, fun _ => undef⟩ n (look (params 0 (argAV ts xs))) (hget []) G { tmps := vals.toArray ++ Array.replicate (n - vals.toArray.size) undef, defers := [] } w := by
  have hno : ∀ k, ¬ Foot (hget []) G k := by rintro k ⟨b, ob, h1, _⟩; cases h1
  have hx : Ext (fun _ => False) A G w (Okay ⟨w, A, fun _ => False, fun _ => undef⟩ (hget []) G) G w [] := ⟨Only.refl _ _, fun k _ h => ⟨.inl h, hno k⟩, fun _ _ => id, fun _ _ => rfl⟩
  have hrel : ∀ {ts : List AV} {vs : List Value}, relAs w G A ts vs → relAs w G (Okay ⟨w, A, fun _ => False, fun _ => undef⟩ (hget []) G) ts vs := by
    intro ts
    induction ts with
    | nil => exact fun h => h
    | cons x xs ih => rintro vs ⟨v, r, rfl, h1, h2⟩; exact ⟨v, r, rfl, hx.av (fun _ _ => by simp) h1, ih h2⟩
  have hr := hrel ha
  have hlen := relAs_len hr
  refine ⟨rfl, (by simp; omega), hn2, fun t => ?_, ⟨fun b ob h => (by cases h), fun b c ob oc _ h => (by cases h), fun b ob h => (by cases h), Only.refl _ _, fun _ h => h.elim, fun _ _ => trivial⟩⟩
  have := look_paramsS (s0 := []) (F := ⟨w, A, fun _ => False, fun _ => undef⟩) (a := { tmps := vals.toArray ++ Array.replicate (n - vals.toArray.size) undef, defers := [] }) _ vals 0 hr (by omega) (fun j hj => ?_) (fun t => trivial) t
  · rw [List.append_nil] at this
    exact this
  · rw [Nat.zero_add]
    simp only [Array.getD_eq_getD_getElem?]
    rw [Array.getElem?_append_left (by simpa using hj)]
    simp [hj]
set_option maxHeartbeats 1000000 in
theorem Of_calls {l : List Cm} {ns : List Int} (hC : hC l = 0) (hl : l.length ≤ 60) (hb : ∀ c ∈ l, c.1.length ≤ 3) (hns : ns.length ≤ 9223372036854775807) (hn : ∀ n ∈ ns, 0 ≤ n ∧ n < l.length) {w : World} {G : Gh} {A : Nat → Prop} {vals : List Value} (ha : relAs w G A (argAV [.slice tCm, .slice (.int .i64)] (l, ns, ())) vals) :
    Calls Try.prog 46 vals.toArray w fun e w' => ∃ v vs, e = .returned v ∧ Below w.heap.size w w' ∧ rdL w' (fun _ => False) .bool (ancB l ns) vs ∧ w'.ownsRow w.heap.size 4 1 v (ancB l ns).length vs := by
  have hE : (env1 [] [] [(65, Try.f65)]).Fine Try.prog := env1_fine True.intro True.intro ⟨⟨rfl, rfl, rfl⟩, True.intro⟩
  have hl2 := relAs_len ha
  have hlen : vals.length = 2 := hl2
  have hp := parOk_of hC
  have pre := Of_pre hl hns hn rfl
  have rnd := fun k (hk : k < l.length) => Of_round (s0 := stO l ns) hl hp (stO_len l ns) hb hk rfl
  have tl := @Of_tail
  obtain ⟨a, b, c, d, id, e, f, r, hc, he, hf⟩ := Of_shape
  replace pre := pre _ hc
  replace rnd := fun k hk => rnd k hk _ hc
  replace tl := fun tmps hsz g v W h5 hcc ds K hK => @tl tmps hsz g v W h5 hcc ds K hK _ hc
  dsimp only [preCode, asgCode, bdyCode, rstCode] at pre rnd tl
  refine callsIn_wide (n := 5) |>.1 ?_
  refine callsIn_of_wp_marks Try.func46 hc trivial ?_ rfl
  have hs0 := rep_start ha (n := Try.f46.ntmps) (by rw [hlen]; decide) (by decide)
  refine mx_seq_wp hE (cH_ok 5 _ hE _) (cH_mono 5 _) pre hs0 fun s1 t1 G1 a1 w1 hr1 pre => ?_
  refine mx_seq_wp hE (cH_ok 5 _ hE _) (cH_mono 5 _) pre hr1 fun s1 t1 G1 a1 w1 hr1 pre => ?_
  refine mx_seq_wp hE (cH_ok 5 _ hE _) (cH_mono 5 _) pre hr1 fun s1 t1 G1 a1 w1 hr1 pre => ?_
  refine wpIn_seq (wpIn_seq (wpIn_mono (wpIn_wide.2 (mx_wp hE (cH_ok 5 _ hE _) (cH_mono 5 _) d _ _ _ pre G1 a1 w1 hr1)) ?_))
  rintro ex a2 w2 hq
  have hq : ∃ G2, ex = .normal ∧ Rep ⟨w, A, fun _ => False, fun _ => undef⟩ Try.f46.ntmps (look slO) (hget (hlO l (stO l ns))) G2 a2 w2 := by
    cases ex with
    | normal => obtain ⟨s', t', G4, q1, q2, q3⟩ := hq; obtain ⟨G5, q4⟩ := q3 _ _ _ _ q1; exact ⟨G5, rfl, q4⟩
    | exit j => obtain ⟨s', t', G4, q1, q2, q3⟩ := hq; cases q2
    | ret => obtain ⟨s', t', G4, q1, q2, q3⟩ := hq; cases q2
    | goto l => exact hq.elim
    | panic c => exact hq.elim
    | outgrown => exact hq.elim
  obtain ⟨G2, rfl, hr2⟩ := hq
  refine wpIn_block ?_
  have e0 : mkO l (stO l ns) l.length = stO l ns := by unfold mkO; rw [Nat.sub_self]; rfl
  have hfr : Only (fun _ => False) w w2 := hr2.hp.fr
  rw [← e0] at hr2
  refine wpIn_range_reads (fun _ => trivial) hE (cH_ok 5 _ hE _) (cH_mono 5 _) (m := 5) (by decide) (enters_of Try.func73 (by kernel_rfl) rfl) (ws := w) (sl0 := slO) (fun k => hlO l (mkO l (stO l ns) k)) l.length x1C (x2C l) rfl rfl ⟨by decide, by decide⟩ ⟨he, hf⟩ hr2 (fun _ h => h.elim) (Nat.le_refl _) hfr rnd ?_ ?_
  · intro lb tb J W hJ hY h0
    exact back1_in 4 (by decide) (fun k => rfl) lb tb J W hJ hY h0
  · intro D W F G3 hwD hgd hr3 hk
    obtain ⟨g, hg5, h5⟩ := AV.one_rel (x := .v false [.p 5 0]) rfl (hr3.sl 5)
    have h5 : a2.tmps.getD 5 undef = .pointer (some ⟨g, 0, none⟩) := h5
    obtain ⟨g', vs, b1, b2, b3, -⟩ := hr3.hp.sat 5 _ rfl
    obtain rfl : g' = g := by
      unfold boxAt at b1 hg5
      rw [hg5] at b1
      simpa using b1.symm
    obtain ⟨v, r1, b4, ⟨b5, b6⟩, b7⟩ := b3
    obtain rfl : r1 = [] := b7
    have hcell : W.cell? ⟨g', 0, none⟩ = some v := by
      rw [Lib.cell_of_heap b2]
      have : vs = #[v] := by rcases vs with ⟨vs⟩; rw [show vs = _ from b4]
      rw [this]; rfl
    obtain ⟨us, c1, c2, c3⟩ := hr3.hp.sat 14 _ rfl
    rw [← b5] at c2 c3
    rw [of_all hp hn] at c1 c2
    have hge : ∀ k, v.ownBlock = some k → w.heap.size ≤ k ∧ k ≠ D := by
      intro k hkk
      have h1 := hr3.hp.bd 14 _ rfl k ((c3 k).2 hkk)
      refine ⟨h1.2.elim (hgd.s k) (fun q => by have := hgd.on.size; rw [hgd.w0] at q; omega), fun e => ?_⟩
      subst e
      rcases c2.2 with ⟨rfl, _⟩ | ⟨g2, cap, cur, rfl, _, hg2, _⟩
      · cases hkk
      · cases hkk
        have hg2 : W.heap[g2]? = _ := hg2
        rw [hg2] at hk
        cases hk
    have hsz2 : a2.tmps.size = 51 := hr3.sz
    rw [hr3.df]
    refine tl a2.tmps hsz2 g' v W h5 hcell _ _ ?_
    refine ⟨by simp, .inl ⟨_, _, rfl, run_takeDeferred hk, ?_⟩⟩
    have ho := only_put W D (.deferred none)
    have hon := only_trans hgd.on ho (fun k hk => by rw [hk]; exact hwD)
    refine ⟨v, ?_, v, us, rfl, ⟨hon.os, hon.tape, hon.output, hon.size, fun k hk => hon.block k hk (fun z => z)⟩, ?_, ?_⟩
    · simp [results, Try.results46, go_sem, hsz2]
    · clear c2 c3
      generalize ancB l ns = s at c1
      generalize Okay _ _ _ = A2 at c1
      induction s generalizing us with
      | nil => exact c1
      | cons x s ih => obtain ⟨c, r, q1, q2, q3⟩ := c1; exact ⟨c, r, q1, flat_rd .bool x c rfl q2, ih r q3⟩
    · have c4 := owns_only (S := fun k => k = D) c2 ho (fun k hkk e => (hge k hkk).2 e)
      refine ⟨c4.1, ?_⟩
      rcases c4.2 with q | ⟨g2, cap, cur, q1, q2, q3⟩
      · exact .inl q
      · exact .inr ⟨g2, cap, cur, q1, (hge g2 (by rw [q1]; rfl)).1, q3⟩
def OfPre (l : List Cm) (ns : List Int) : Prop := hC l = 0 ∧ ns.length ≤ 9223372036854775807 ∧ ∀ n ∈ ns, 0 ≤ n ∧ n < l.length
noncomputable def sp_Of : SpecF := ownSp true [.slice tCm, .slice (.int .i64)] 4 .bool (fun (l', ns', _) => OfPre l' ns') (fun (l', ns', _) => ancB l' ns')
theorem hC_len {l : List Cm} (h : hC l = 0) : l.length ≤ 60 := (hC_all.1 h).1
theorem hC_par {l : List Cm} (h : hC l = 0) : ∀ c ∈ l, c.1.length ≤ 3 := fun c hc => by
  obtain ⟨j, hj, rfl⟩ := List.mem_iff_getElem.1 hc
  exact (cmC_good ((hC_all.1 h).2 j hj)).1
theorem Of_sp : SpFact 46 sp_Of := by
  refine ⟨⟨Try.f46, rfl, rfl, rfl, callsOwn_ok rfl ?_⟩, ownSp_loc _ _ _ _ _ _⟩
  rintro ⟨l, ns, u⟩ w G A vals - ⟨hC, hns, hn⟩ ha
  exact Of_calls hC (hC_len hC) (hC_par hC) hns hn ha
end Go.Proofs.Ytgdlbpihkodeoaa
