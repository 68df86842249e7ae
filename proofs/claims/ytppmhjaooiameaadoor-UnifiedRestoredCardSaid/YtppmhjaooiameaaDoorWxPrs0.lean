/- Before the walk of unified.Parse: a row in a box becomes data; Second; place. -/
import Derived.Test.YtppmhjaooiameaaDoorWxNum
import Derived.Test.YtppmhjaooiameaaDoorPrsGrp
import Derived.Test.YtppmhjaooiameaaDoorWxPat
import Derived.Test.YtppmhjaooiameaaDoorWkMore
namespace Go.Proofs.YtppmhjaooiameaaDoor
open Go.RowKit
set_option maxRecDepth 20000
set_option maxHeartbeats 4000000
set_option linter.unusedSimpArgs false

theorem relL_set' {w : World} {G : Gh} {A : Nat → Prop} {c c' : Lf} (hc : ∀ v, c.rel w G A v → c'.rel w G A v) : ∀ (cs : List Lf) (vs : List Value) (k : Nat), cs[k]? = some c → relL w G A cs vs → relL w G A (cs.set k c') vs
  | [], _, _, h, _ => by cases h
  | x :: cs, vs, 0, h, hr => by
    obtain ⟨v, r, h1, h2, h3⟩ := hr
    have h : x = c := by simpa using h
    subst h
    exact ⟨v, r, h1, hc v h2, h3⟩
  | x :: cs, vs, k + 1, h, hr => by
    obtain ⟨v, r, h1, h2, h3⟩ := hr
    exact ⟨v, r, h1, h2, relL_set' hc cs r k (by simpa using h) h3⟩
/-- a row that a box holds becomes data -/
theorem Wk.boxfrz {n : Nat} {sl : List SEnt} {hl hl' : List HEnt} (b k d : Nat) {T E : TypeId} {ty : Ty} {l : List ty.den} {cs : List Lf} (h1 : hget hl b = some (.box T cs)) (hk : cs[k]? = some (.o d)) (h2 : hget hl d = some (.row E ty l))
    (hkeep : keepH (hget hl) hl') (hd : hget hl' d = none) (hb : hget hl' b = some (.box T cs)) : Wk n sl hl sl (.put b (.box T (cs.set k (.d (.slice ty) l))) :: hl') := by
  intro F G a w h
  have hs := keepH_get hkeep
  obtain ⟨hx, hr⟩ := sub_step h.hp hs
  have hst : Sat w G (Okay F (hget hl') G) b (.box T (cs.set k (.d (.slice ty) l))) := by
    obtain ⟨g, vs, q1, q2, q3, q4⟩ := hr.sat b _ hb
    have hlen : ∀ (cs : List Lf) (vs : List Value), relL w G (Okay F (hget hl') G) cs vs → True := fun _ _ _ => True.intro
    refine ⟨g, vs, q1, q2, relL_set' (c := .o d) (fun v hv => ?_) cs vs.toList k hk q3, q4⟩
    obtain ⟨hv1, hv2⟩ := hv
    obtain ⟨us, s1, s2, s3⟩ := h.hp.sat d _ h2
    rw [hv1]
    refine reads_rdB (rdL_mono (Nat.le_refl _) (fun k k1 k2 => ⟨hx.keepA k k2 k1, rfl⟩) s1) s2 fun k hk' => ?_
    have hf := (s3 k).2 hk'
    refine ⟨?_, ?_⟩
    · rcases (h.hp.bd d _ h2 k hf).2 with q | q
      · exact .inl (h.hp.zs k q)
      · exact .inr q
    · rintro ⟨c, oc, q1, q2⟩
      by_cases hcb : c = d
      · subst hcb; rw [hd] at q1; cases q1
      · exact h.hp.dj c d oc _ hcb (hs c oc q1) h2 k q2 hf
  obtain ⟨-, hq⟩ := write_step (w' := w) hr b (.box T cs) (.box T (cs.set k (.d (.slice ty) l))) hb (Only.refl _ _) (fun _ => hst)
  have hh : hget (.put b (.box T (cs.set k (.d (.slice ty) l))) :: hl') = upd (hget hl') b (some (.box T (cs.set k (.d (.slice ty) l)))) := hget_app [.put b (.box T (cs.set k (.d (.slice ty) l)))] hl'
  have hok : Okay F (hget hl') G = Okay F (upd (hget hl') b (some (.box T (cs.set k (.d (.slice ty) l))))) G := by
    funext m
    have : Foot (hget hl') G m ↔ Foot (upd (hget hl') b (some (.box T (cs.set k (.d (.slice ty) l))))) G m := by
      constructor
      · rintro ⟨c, oc, q1, q2⟩
        by_cases hc : c = b
        · subst hc; exact ⟨c, _, upd_same _ _ _, q2⟩
        · exact ⟨c, oc, by rw [upd_ne _ _ hc]; exact q1, q2⟩
      · rintro ⟨c, oc, q1, q2⟩
        by_cases hc : c = b
        · subst hc; exact ⟨c, _, hb, q2⟩
        · rw [upd_ne _ _ hc] at q1; exact ⟨c, oc, q1, q2⟩
    exact propext ⟨fun ⟨k1, k2⟩ => ⟨k1, fun k3 => k2 (this.2 k3)⟩, fun ⟨k1, k2⟩ => ⟨k1, fun k3 => k2 (this.1 k3)⟩⟩
  refine ⟨G, h.df, h.sz, h.lm, fun m => ?_, by rw [hh]; exact hq⟩
  have := hx.av (fun _ _ => by simp) (h.sl m)
  rw [hok, ← hh] at this
  exact this

def sp_PSecond : SpecF := pureSp true [tPat, .int .i64] (fun _ => True) (fun (p', i', _) => .v true [.d (.int .i64) (pC p'), .d (.int .i64) (if pC p' = 0 then 0 else i')])
theorem PSecond_sp : SpFact 40 sp_PSecond := by
  refine ⟨⟨Tryd.f40, rfl, rfl, rfl, pureSp_ok (env_fine (sp := [(25, sp_PValidate)]) (eq := [(27, true)]) ⟨PValidate_sp, True.intro⟩ ⟨eq_fault, True.intro⟩) rfl (fun ⟨_, _, _⟩ _ => rfl) ?_⟩, pureSp_loc _ _ _ _⟩
  rintro ⟨p, i, u⟩ - -
  change List Hk at p
  by_cases hp : pC p = 0
  · have hv : (decide (pC p = 0) && decide (pI p = 0)) = true := by rw [hp, pI_good p hp]; rfl
    replace hv := Lib.hid hv
    replace hp := Lib.hid hp
    (refine fnM_of rfl rfl rfl rfl ?_; dsimp only [params, argAV, Ty.leaves, Ty.isSt])
    (repeat' (first | (with_reducible refine Cend.go ?_) | (with_reducible refine Step.mk True.intro ?_) | (with_reducible refine Step.mk ?_ ?_; focus (((try simp only [true_and, and_true, and_self, kmin, kmax, decide_eq_true_eq, decide_eq_false_iff_not, castD_self, castL_self, List.length_cons, List.length_nil, List.length_append, Int.natCast_add] at *) <;> omega))) | (with_reducible refine Step.mk ?_ ?_) | (with_reducible refine Way.t1 ?_) | (with_reducible refine Way.f1 ?_) | ((with_reducible refine Way.dec (fun _ => ?_) (fun _ => ?_)) <;> try (exfalso; omega)) | (with_reducible refine Way.nt ?_) | ((with_reducible refine Way.mk (fun _ => ?_) (fun _ => ?_)) <;> try (exfalso; rename_i hw; first | exact Bool.noConfusion ((Go.RowKit.Hid.out hv).symm.trans hw) | exact Bool.noConfusion (hw.symm.trans (Go.RowKit.Hid.out hv)))) | (with_reducible refine Drawn.mk (by kernel_rfl) ?_) | (refine Run.mk ?_)))
    refine Ret.mk ?_
    rw [if_pos hp.out, hp.out]
    rfl
  · have hv : (decide (pC p = 0) && decide (pI p = 0)) = false := by rw [decide_eq_false hp]; rfl
    replace hv := Lib.hid hv
    (refine fnM_of rfl rfl rfl rfl ?_; dsimp only [params, argAV, Ty.leaves, Ty.isSt])
    (repeat' (first | (with_reducible refine Cend.go ?_) | (with_reducible refine Step.mk True.intro ?_) | (with_reducible refine Step.mk ?_ ?_; focus (((try simp only [true_and, and_true, and_self, kmin, kmax, decide_eq_true_eq, decide_eq_false_iff_not, castD_self, castL_self, List.length_cons, List.length_nil, List.length_append, Int.natCast_add] at *) <;> omega))) | (with_reducible refine Step.mk ?_ ?_) | (with_reducible refine Way.t1 ?_) | (with_reducible refine Way.f1 ?_) | ((with_reducible refine Way.dec (fun _ => ?_) (fun _ => ?_)) <;> try (exfalso; omega)) | (with_reducible refine Way.nt ?_) | ((with_reducible refine Way.mk (fun _ => ?_) (fun _ => ?_)) <;> try (exfalso; rename_i hw; first | exact Bool.noConfusion ((Go.RowKit.Hid.out hv).symm.trans hw) | exact Bool.noConfusion (hw.symm.trans (Go.RowKit.Hid.out hv)))) | (with_reducible refine Drawn.mk (by kernel_rfl) ?_) | (refine Run.mk ?_)))
    refine Ret.mk ?_
    rw [if_neg hp]
    rfl
def plV (l n : Int) : Int := if 0 < n then l - 1 else l
def sp_place : SpecF := pureSp true [.int .i64, .int .i64] (fun (l', _, _) => -1000000 ≤ (show Int from l') ∧ (show Int from l') ≤ 1000000) (fun (l', n', _) => .v false [.d (.int .i64) (plV l' n')])
theorem place_sp : SpFact 64 sp_place := by
  refine ⟨⟨Tryd.f64, rfl, rfl, rfl, pureSp_ok (env_fine (sp := []) (eq := []) True.intro True.intro) rfl (fun ⟨_, _, _⟩ _ => rfl) ?_⟩, pureSp_loc _ _ _ _⟩
  rintro ⟨l, n, u⟩ - ⟨h1, h2⟩
  change Int at l n
  replace h1 : -1000000 ≤ l := h1
  replace h2 : l ≤ 1000000 := h2
  by_cases hn : 0 < n
  · have e : plV l n = l - 1 := if_pos hn
    dsimp only
    rw [e]
    (refine fnM_of rfl rfl rfl rfl ?_; dsimp only [params, argAV, Ty.leaves, Ty.isSt])
    (repeat' (first | (with_reducible refine Cend.go ?_) | (with_reducible refine Step.mk True.intro ?_) | (with_reducible refine Step.mk ?_ ?_; focus (((try simp only [true_and, and_true, and_self, kmin, kmax, decide_eq_true_eq, decide_eq_false_iff_not, castD_self, castL_self, List.length_cons, List.length_nil, List.length_append, Int.natCast_add] at *) <;> omega))) | (with_reducible refine Step.mk ?_ ?_) | (with_reducible refine Way.t1 ?_) | (with_reducible refine Way.f1 ?_) | ((with_reducible refine Way.dec (fun _ => ?_) (fun _ => ?_)) <;> try (exfalso; omega)) | (with_reducible refine Way.nt ?_) | (with_reducible refine Way.mk (fun _ => ?_) (fun _ => ?_)) | (with_reducible refine Drawn.mk (by kernel_rfl) ?_) | (refine Run.mk ?_)))
    exact Ret.mk rfl
  · have e : plV l n = l := if_neg hn
    dsimp only
    rw [e]
    (refine fnM_of rfl rfl rfl rfl ?_; dsimp only [params, argAV, Ty.leaves, Ty.isSt])
    (repeat' (first | (with_reducible refine Cend.go ?_) | (with_reducible refine Step.mk True.intro ?_) | (with_reducible refine Step.mk ?_ ?_; focus (((try simp only [true_and, and_true, and_self, kmin, kmax, decide_eq_true_eq, decide_eq_false_iff_not, castD_self, castL_self, List.length_cons, List.length_nil, List.length_append, Int.natCast_add] at *) <;> omega))) | (with_reducible refine Step.mk ?_ ?_) | (with_reducible refine Way.t1 ?_) | (with_reducible refine Way.f1 ?_) | ((with_reducible refine Way.dec (fun _ => ?_) (fun _ => ?_)) <;> try (exfalso; omega)) | (with_reducible refine Way.nt ?_) | (with_reducible refine Way.mk (fun _ => ?_) (fun _ => ?_)) | (with_reducible refine Drawn.mk (by kernel_rfl) ?_) | (refine Run.mk ?_)))
    exact Ret.mk rfl

theorem Wk.hkeep {n : Nat} {sl : List SEnt} {hl hl' : List HEnt} (h2 : keepH (hget hl) hl') : Wk n sl hl sl hl' := by
  intro F G a w h
  obtain ⟨hx, hr⟩ := sub_step h.hp (keepH_get h2)
  exact ⟨G, h.df, h.sz, h.lm, fun t => hx.av (fun _ _ => by simp) (h.sl t), hr⟩
structure PSt where
  E : List Ev
  a : Int
  o : Int
  n : Int
  g : Int
  ad : Bool
  D : List Hk
  cu : Option Hk
  k : Nat
def dcu (D : List Hk) : Option Hk → List Hk
  | none => D
  | some h => D ++ [h]
theorem dcu_eq (D : List Hk) (cu : Option Hk) : dcu D cu = D ++ cu.toList := by
  cases cu with
  | none => exact (List.append_nil D).symm
  | some h => rfl
/-- the parser with a closed collector, with an open hunk -/
def prC (a o n g : Int) (ad : Bool) (D : List Hk) : List HEnt := [.put 4 (.box 70 [.o 91, .d (.int .i64) a, .d .bool false, .d (.int .i64) o, .d (.int .i64) n, .d (.int .i64) a, .d (.int .i64) g, .d .bool ad]), .put 91 (.row 41 tHk D)]
def prO (a o n g : Int) (ad : Bool) (D : List Hk) (h : Hk) : List HEnt := [.put 4 (.box 70 [.o 91, .d (.int .i64) a, .d .bool true, .d (.int .i64) o, .d (.int .i64) n, .d (.int .i64) a, .d (.int .i64) g, .d .bool ad]), .put 91 (.rox 41 tHk D [.d (.int .i64) h.1, .o 92, .o 93] []), .put 92 (.row 9 .str h.2.1), .put 93 (.row 9 .str h.2.2)]
def prZ (D : List Hk) (cu : Option Hk) (a o n g : Int) (ad : Bool) : List HEnt := [.put 4 (.box 70 [.d (.slice tHk) (dcu D cu), .d (.int .i64) a, .d .bool cu.isSome, .d (.int .i64) o, .d (.int .i64) n, .d (.int .i64) a, .d (.int .i64) g, .d .bool ad])]
/-- .. at the end all is data -/
def prH (E : List Ev) (a o n g : Int) (ad : Bool) (D : List Hk) (cu : Option Hk) : List HEnt := match E with
  | [] => prZ D cu a o n g ad
  | _ :: _ => match cu with
    | none => prC a o n g ad D
    | some h => prO a o n g ad D h
def prB : List HEnt := [.put 2 (.box 25 [.nl]), .put 3 (.box 27 [.d (.int .i64) 0, .d (.int .i64) 0])]
theorem prC_wk {m : Nat} {sl : List SEnt} (E : List Ev) (a o n g : Int) (ad : Bool) (D : List Hk) : Wk m sl (prB ++ prC a o n g ad D) sl (prB ++ prH E a o n g ad D none) := by
  cases E with
  | cons _ _ => exact Wk.refl
  | nil =>
    refine (Wk.boxfrz (hl' := prB ++ [.put 4 (.box 70 [.o 91, .d (.int .i64) a, .d .bool false, .d (.int .i64) o, .d (.int .i64) n, .d (.int .i64) a, .d (.int .i64) g, .d .bool ad])]) 4 0 91 (E := 41) (ty := tHk) (l := D) rfl rfl rfl ?_ rfl rfl).trans ?_
    · repeat' (first | exact True.intro | refine And.intro rfl ?_)
    · refine Wk.hkeep ?_
      repeat' (first | exact True.intro | refine And.intro rfl ?_)
theorem prO_wk {m : Nat} {sl : List SEnt} (E : List Ev) (a o n g : Int) (ad : Bool) (D : List Hk) (h : Hk) : Wk m sl (prB ++ prO a o n g ad D h) sl (prB ++ prH E a o n g ad D (some h)) := by
  cases E with
  | cons _ _ => exact Wk.refl
  | nil =>
    obtain ⟨a0, co, cn⟩ := h
    refine (Wk.pack 91 (x := (a0, co, cn)) (l2 := []) (hl' := prB ++ [.put 4 (.box 70 [.o 91, .d (.int .i64) a, .d .bool true, .d (.int .i64) o, .d (.int .i64) n, .d (.int .i64) a, .d (.int .i64) g, .d .bool ad])]) rfl rfl (by repeat' (first | exact True.intro | refine And.intro rfl ?_)) rfl rfl).trans ?_
    refine (Wk.boxfrz (hl' := prB ++ [.put 4 (.box 70 [.o 91, .d (.int .i64) a, .d .bool true, .d (.int .i64) o, .d (.int .i64) n, .d (.int .i64) a, .d (.int .i64) g, .d .bool ad])]) 4 0 91 (E := 41) (ty := tHk) (l := D ++ [(a0, co, cn)]) rfl rfl rfl ?_ rfl rfl).trans ?_
    · repeat' (first | exact True.intro | refine And.intro rfl ?_)
    · refine Wk.hkeep ?_
      repeat' (first | exact True.intro | refine And.intro rfl ?_)
/-! ### what the header's numbers are -/
def hsep : Nat → ByteArray
  | 0 => ⟨#[44]⟩
  | 1 => ⟨#[32, 43]⟩
  | 2 => ⟨#[44]⟩
  | _ => ⟨#[32, 64, 64]⟩
def hrs (s : ByteArray) : Nat → ByteArray
  | 0 => s
  | i + 1 => nmR (hrs s i) (hsep i)
def hnv (s : ByteArray) (i : Nat) : Int := nmN (hrs s i) (hsep i)
theorem num_step {n : Int} (h0 : 0 ≤ n) (h1 : n ≤ 121) {c : UInt8} {t r : List UInt8} (hc : c.toNat < 48 ∨ 57 < c.toNat) :
    nmN (bs (num n ++ ((c :: t) ++ r))) (bs (c :: t)) = n ∧ nmR (bs (num n ++ ((c :: t) ++ r))) (bs (c :: t)) = bs r ∧ nmOk (bs (num n ++ ((c :: t) ++ r))) (bs (c :: t)) := by
  have hcut : cutS (bs (num n ++ ((c :: t) ++ r))) (bs (c :: t)) = (num n, r, true) := cut_num h0 h1 hc
  refine ⟨?_, ?_, ?_⟩
  · unfold nmN; rw [hcut, (num_good h0 h1).1]; rfl
  · unfold nmR; rw [hcut]
  · unfold nmOk; rw [hcut]; exact ⟨rfl, n, ⟨h0, h1⟩, rfl⟩
def hA (a k : Int) : Int := if 0 < k then a + 1 else a
theorem hA_pl {a k : Int} : plV (hA a k) k = a := by unfold plV hA; split <;> omega
theorem hd_nums {a k b m : Int} (h : 0 ≤ a ∧ 0 ≤ b ∧ 0 ≤ k ∧ 0 ≤ m ∧ a + k ≤ 120 ∧ b + m ≤ 120) (s : ByteArray) (hs : s = bs (side a k ++ ([32, 43] ++ (side b m ++ [32, 64, 64])))) :
    hnv s 0 = hA a k ∧ hnv s 1 = k ∧ hnv s 2 = hA b m ∧ hnv s 3 = m ∧ hrs s 4 = ⟨#[]⟩ ∧ (∀ i, i < 4 → nmOk (hrs s i) (hsep i) ∧ (hrs s i).size ≤ 4000) := by
  obtain ⟨h1, h2, h3, h4, h5, h6⟩ := h
  have ha : 0 ≤ hA a k ∧ hA a k ≤ 121 := by unfold hA; split <;> omega
  have hb : 0 ≤ hA b m ∧ hA b m ≤ 121 := by unfold hA; split <;> omega
  have e0 : hrs s 0 = bs (num (hA a k) ++ ((44 :: []) ++ (num k ++ ((32 :: [43]) ++ (num (hA b m) ++ ((44 :: []) ++ (num m ++ ((32 :: [64, 64]) ++ [])))))))) := by
    show s = _
    rw [hs]
    unfold side
    simp only [List.append_assoc, List.append_nil]
    rfl
  obtain ⟨a1, a2, a3⟩ := num_step (t := []) (r := num k ++ ((32 :: [43]) ++ (num (hA b m) ++ ((44 :: []) ++ (num m ++ ((32 :: [64, 64]) ++ [])))))) ha.1 ha.2 (c := 44) (by decide)
  rw [← e0] at a1 a2 a3
  have e1 : hrs s 1 = bs (num k ++ ((32 :: [43]) ++ (num (hA b m) ++ ((44 :: []) ++ (num m ++ ((32 :: [64, 64]) ++ [])))))) := a2
  obtain ⟨b1, b2, b3⟩ := num_step (t := [43]) (r := num (hA b m) ++ ((44 :: []) ++ (num m ++ ((32 :: [64, 64]) ++ [])))) h3 (show k ≤ 121 by omega) (c := 32) (by decide)
  rw [← e1] at b1 b2 b3
  have e2 : hrs s 2 = bs (num (hA b m) ++ ((44 :: []) ++ (num m ++ ((32 :: [64, 64]) ++ [])))) := b2
  obtain ⟨c1, c2, c3⟩ := num_step (t := []) (r := num m ++ ((32 :: [64, 64]) ++ [])) hb.1 hb.2 (c := 44) (by decide)
  rw [← e2] at c1 c2 c3
  have e3 : hrs s 3 = bs (num m ++ ((32 :: [64, 64]) ++ [])) := c2
  obtain ⟨d1, d2, d3⟩ := num_step (t := [64, 64]) (r := []) h4 (show m ≤ 121 by omega) (c := 32) (by decide)
  rw [← e3] at d1 d2 d3
  have l1 := (num_good ha.1 ha.2).2.2
  have l2 := (num_good h3 (show k ≤ 121 by omega)).2.2
  have l3 := (num_good hb.1 hb.2).2.2
  have l4 := (num_good h4 (show m ≤ 121 by omega)).2.2
  refine ⟨a1, b1, c1, d1, d2, fun i hi => ?_⟩
  rcases (show i = 0 ∨ i = 1 ∨ i = 2 ∨ i = 3 by omega) with rfl | rfl | rfl | rfl
  · exact ⟨a3, by rw [e0, bs_size]; simp only [List.length_append, List.length_cons, List.length_nil]; omega⟩
  · exact ⟨b3, by rw [e1, bs_size]; simp only [List.length_append, List.length_cons, List.length_nil]; omega⟩
  · exact ⟨c3, by rw [e2, bs_size]; simp only [List.length_append, List.length_cons, List.length_nil]; omega⟩
  · exact ⟨d3, by rw [e3, bs_size]; simp only [List.length_append, List.length_cons, List.length_nil]; omega⟩
theorem side_not {a n : Int} (h : 0 ≤ a ∧ 0 ≤ n ∧ a + n ≤ 120) : (10 : UInt8) ∉ side a n := by
  unfold side
  intro q
  rcases List.mem_append.1 q with q | q
  · rcases List.mem_append.1 q with q | q
    · exact num_not (by split <;> omega) (by split <;> omega) (by decide) q
    · exact absurd q (by decide)
  · exact num_not h.2.1 (by omega) (by decide) q
theorem hd_not {a k b m : Int} (h : 0 ≤ a ∧ 0 ≤ b ∧ 0 ≤ k ∧ 0 ≤ m ∧ a + k ≤ 120 ∧ b + m ≤ 120) : (10 : UInt8) ∉ evB (.hd a k b m) := by
  obtain ⟨h1, h2, h3, h4, h5, h6⟩ := h
  intro q
  simp only [evB, List.mem_append] at q
  rcases q with (((q | q) | q) | q) | q
  · exact absurd q (by decide)
  · exact side_not ⟨h1, h3, h5⟩ q
  · exact absurd q (by decide)
  · exact side_not ⟨h2, h4, h6⟩ q
  · exact absurd q (by decide)
theorem ln_not {s : Int} {x : ByteArray} (h : lineC x = 0) : (10 : UInt8) ∉ evB (.ln s x) := by
  intro q
  rcases List.mem_cons.1 q with q | q
  · unfold mkE at q
    split at q
    · exact absurd q (by decide)
    · split at q <;> exact absurd q (by decide)
  · exact ((lineC_ok x).1 h).2 q
/-- what is left of a header's line behind its beginning -/
def hdS (E : List Ev) : ByteArray := bs (trS (bs (cutS (bs (evT E)) ⟨#[10]⟩).1) ⟨#[64, 64, 32, 45]⟩)
theorem cut_ev {e : Ev} {E : List Ev} (h : (10 : UInt8) ∉ evB e) : cutS (bs (evT (e :: E))) ⟨#[10]⟩ = (evB e, evT E, true) := by
  have := cut_at (c := 10) (t := []) (r := evT E) h
  rw [evT_cons]; exact this
structure HdF (a k b m : Int) (E : List Ev) : Prop where
  cut : (cutS (bs (evT (.hd a k b m :: E))) ⟨#[10]⟩).2.2 = true
  more : (cutS (bs (evT (.hd a k b m :: E))) ⟨#[10]⟩).2.1 = evT E
  pfx : Lib.hasPrefix (sb (bs (cutS (bs (evT (.hd a k b m :: E))) ⟨#[10]⟩).1)) (sb ⟨#[64, 64, 32, 45]⟩) = true
  v0 : hnv (hdS (.hd a k b m :: E)) 0 = hA a k
  v1 : hnv (hdS (.hd a k b m :: E)) 1 = k
  v2 : hnv (hdS (.hd a k b m :: E)) 2 = hA b m
  v3 : hnv (hdS (.hd a k b m :: E)) 3 = m
  r4 : hrs (hdS (.hd a k b m :: E)) 4 = ⟨#[]⟩
  ok : ∀ i, i < 4 → nmOk (hrs (hdS (.hd a k b m :: E)) i) (hsep i) ∧ (hrs (hdS (.hd a k b m :: E)) i).size ≤ 4000
theorem hd_facts {a k b m : Int} (E : List Ev) (hq : 0 ≤ a ∧ 0 ≤ b ∧ 0 ≤ k ∧ 0 ≤ m ∧ a + k ≤ 120 ∧ b + m ≤ 120) : HdF a k b m E := by
  have hc1 := cut_ev (E := E) (hd_not hq)
  have hpx := prefix_at [64, 64, 32, 45] (side a k ++ ([32, 43] ++ (side b m ++ [32, 64, 64])))
  have hB : evB (.hd a k b m) = [64, 64, 32, 45] ++ (side a k ++ ([32, 43] ++ (side b m ++ [32, 64, 64]))) := by simp only [evB, List.append_assoc]
  have hB2 : (cutS (bs (evT (.hd a k b m :: E))) ⟨#[10]⟩).1 = [64, 64, 32, 45] ++ (side a k ++ ([32, 43] ++ (side b m ++ [32, 64, 64]))) := by rw [hc1]; exact hB
  have hS : hdS (.hd a k b m :: E) = bs (side a k ++ ([32, 43] ++ (side b m ++ [32, 64, 64]))) := by
    unfold hdS trS
    rw [hB2]
    exact congrArg bs hpx.2
  obtain ⟨n0, n1, n2, n3, n4, n5⟩ := hd_nums hq _ hS
  exact ⟨by rw [hc1], by rw [hc1], by rw [hB2]; exact hpx.1, n0, n1, n2, n3, n4, n5⟩
theorem hA_bd {a k : Int} (h : 0 ≤ a ∧ 0 ≤ k ∧ a + k ≤ 120) : 0 ≤ hA a k ∧ hA a k ≤ 121 := by unfold hA; split <;> omega
end Go.Proofs.YtppmhjaooiameaaDoor
