/- Sx, part Y: contracts of functions whose answer is told by data, as specs of the executor. -/
import Derived.Test.YtdpcbffmmndhcaaSxP
namespace Go.Proofs.Ytdpcbffmmndhcaa
open Go.RowKit

def Ty.flat : Ty → Bool
  | .slice _ => false
  | .pair a b => a.flat && b.flat
  | .st a => a.flat
  | _ => true
theorem flat_rd {w w' : World} {A A' : Nat → Prop} : ∀ (t : Ty) (x : t.den) (cs : List Value), t.flat = true → t.rd w A x cs → t.rd w' A' x cs
  | .int _, _, _, _, h => h
  | .bool, _, _, _, h => h
  | .str, _, _, _, h => h
  | .slice _, _, _, f, _ => by cases f
  | .pair a b, x, cs, f, h => by
    obtain ⟨f1, f2⟩ := Bool.and_eq_true_iff.1 f
    obtain ⟨c1, c2, h0, h1, h2⟩ := h
    exact ⟨c1, c2, h0, flat_rd a _ _ f1 h1, flat_rd b _ _ f2 h2⟩
  | .st a, x, cs, f, h => flat_rd a x cs f h

def Lf.plain (fl : Bool) : Lf → Bool
  | .d t _ => !fl || t.flat
  | .nl => true
  | .np => true
  | .nf => true
  | .un => true
  | _ => false
def AV.plain (fl : Bool) : AV → Bool
  | .v _ ls => ls.all (Lf.plain fl)
  | .tu es => es.all fun e => e.2.all (Lf.plain fl)
  | .un => true

/-- one reading of plain cells goes over to another -/
theorem plain_lf {fl : Bool} {w w' : World} {G G' : Gh} {A A' : Nat → Prop} (hm : fl = false → ∀ (t : Ty) (x : t.den) cs, t.rd w A x cs → t.rd w' A' x cs) {x : Lf} {v : Value} (hp : x.plain fl = true) (h : x.rel w G A v) : x.rel w' G' A' v := by
  cases x with
  | d t x =>
    cases fl with
    | false => exact hm rfl t x _ h
    | true => exact flat_rd t x _ hp h
  | nl => exact h
  | np => exact h
  | nf => exact h
  | un => exact h
  | _ => cases hp
theorem plain_ls {fl : Bool} {w w' : World} {G G' : Gh} {A A' : Nat → Prop} (hm : fl = false → ∀ (t : Ty) (x : t.den) cs, t.rd w A x cs → t.rd w' A' x cs) : ∀ {xs : List Lf} {vs : List Value}, xs.all (Lf.plain fl) = true → relL w G A xs vs → relL w' G' A' xs vs
  | [], _, _, h => h
  | x :: xs, vs, hp, h => by
    rw [List.all_cons, Bool.and_eq_true_iff] at hp
    obtain ⟨v, r, h0, h1, h2⟩ := h
    exact ⟨v, r, h0, plain_lf hm hp.1 h1, plain_ls hm hp.2 h2⟩
theorem plain_es {fl : Bool} {w w' : World} {G G' : Gh} {A A' : Nat → Prop} (hm : fl = false → ∀ (t : Ty) (x : t.den) cs, t.rd w A x cs → t.rd w' A' x cs) : ∀ {xs : List (Bool × List Lf)} {vs : List Value}, xs.all (fun e => e.2.all (Lf.plain fl)) = true → relT w G A xs vs → relT w' G' A' xs vs
  | [], _, _, h => h
  | x :: xs, vs, hp, h => by
    rw [List.all_cons, Bool.and_eq_true_iff] at hp
    obtain ⟨v, r, h0, ⟨us, k1, k2, k3⟩, h2⟩ := h
    exact ⟨v, r, h0, ⟨us, plain_ls hm hp.1 k1, k2, k3⟩, plain_es hm hp.2 h2⟩
theorem plain_av {fl : Bool} {w w' : World} {G G' : Gh} {A A' : Nat → Prop} (hm : fl = false → ∀ (t : Ty) (x : t.den) cs, t.rd w A x cs → t.rd w' A' x cs) {x : AV} {v : Value} (hp : x.plain fl = true) (h : x.rel w G A v) : x.rel w' G' A' v := by
  cases x with
  | v a ls => obtain ⟨us, k1, k2, k3⟩ := h; exact ⟨us, plain_ls hm hp k1, k2, k3⟩
  | tu es => obtain ⟨vs, h1, h2⟩ := h; exact ⟨vs, h1, plain_es hm hp h2⟩
  | un => trivial

/-! ### arguments -/
def packG (t : Ty) (g : Bool) (ls : List Lf) : Option t.den := match g == t.isSt with
  | true => match t.pack ls with
    | some (x, []) => some x
    | _ => none
  | false => none
def argOf (hp : Nat → Option Ob) : (t : Ty) → AV → Option t.den
  | .slice e, .v false [l] => asList hp e l
  | .int k, .v false [.d (.int j) x] => match decide (j = k) with
    | true => some x
    | false => none
  | .bool, .v false [.d .bool x] => some x
  | .str, .v false [.d .str x] => some x
  | .pair a b, .v g ls => packG (.pair a b) g ls
  | .st a, .v g ls => packG (.st a) g ls
  | _, _ => none
@[reducible] def dens : List Ty → Type
  | [] => Unit
  | t :: ts => t.den × dens ts
def argsOf (hp : Nat → Option Ob) : (ts : List Ty) → List AV → Option (dens ts)
  | [], [] => some ()
  | t :: ts, a :: as => match argOf hp t a, argsOf hp ts as with
    | some x, some xs => some (x, xs)
    | _, _ => none
  | _, _ => none
def argAV : (ts : List Ty) → dens ts → List AV
  | [], _ => []
  | t :: ts, x => .v t.isSt (t.leaves x.1) :: argAV ts x.2

theorem reads_rd {w : World} {A : Nat → Prop} {t : Ty} {l : List t.den} {v : Value} (h : Reads w A t v l) (hA : ∀ k, A k) : (Ty.slice t).rd w A l [v] := by
  obtain ⟨vs, h1, ao, cap, rfl, h2, h3, h4, h5⟩ := h
  refine ⟨ao, cap, rfl, h2, h3, h5, fun i hi => ?_⟩
  have hr := rdL_at h1 i hi
  have hlen := rdL_len h1
  have hs := t.size_pos
  have hm : (i + 1) * t.size ≤ l.length * t.size := Nat.mul_le_mul_right _ hi
  have hin : i * t.size < vs.length := by rw [hlen]; rw [Nat.add_mul, Nat.one_mul] at hm; omega
  obtain ⟨b, off, hao, hc⟩ := h4 _ hin
  have hb : b < w.heap.size := by
    unfold World.cell? at hc
    dsimp only at hc
    rcases Nat.lt_or_ge b w.heap.size with hl | hl
    · exact hl
    · rw [Array.getElem?_eq_none hl] at hc; cases hc
  refine ⟨b, off, _, hao, hA b, hb, hr, fun j hj => ?_⟩
  have hj' : j < t.size := by simp only [List.length_take] at hj; omega
  have hq : i * t.size + j < vs.length := by rw [hlen]; rw [Nat.add_mul, Nat.one_mul] at hm; omega
  obtain ⟨b', off', e, hc'⟩ := h4 _ hq
  rw [hao] at e
  cases e
  rw [hc', List.getElem_take, List.getElem_drop]

theorem packG_rd {w : World} {G : Gh} {A : Nat → Prop} {t : Ty} {g : Bool} {ls : List Lf} {x : t.den} {v : Value} (e : packG t g ls = some x) (h : (AV.v g ls).rel w G A v) : ∃ cs, t.rd w A x cs ∧ v = mkV t.isSt cs ∧ (t.isSt = false → cs.length = 1) := by
  unfold packG at e
  split at e
  · rename_i hg
    have hg : g = t.isSt := by simpa using hg
    split at e
    · rename_i y hp
      cases e
      obtain ⟨us, k1, k2, k3⟩ := h
      obtain ⟨c, q, e1, e2, e3⟩ := pack_rd t ls x [] us hp k1
      obtain rfl := (show q = _ from e3)
      rw [List.append_nil] at e1
      subst e1
      exact ⟨us, e2, by rw [k2, hg], fun hf => k3 (by rw [hg]; exact hf)⟩
    · cases e
  · cases e

/-- an argument reads as its data, from the blocks that the frame lets data lie in; with objects lent, from any -/
theorem argOf_rel {F : Fr} {hp hq : Nat → Option Ob} {G G0 : Gh} {w : World} {A : Nat → Prop} (h : RepH F hp G w) (hA : ∀ k, Okay F hp G k → A k) (hb : (∀ k, A k) ∧ hq = hp ∨ hq = fun _ => none) {t : Ty} {a : AV} {x : t.den} {v : Value} (e : argOf hq t a = some x) (ha : a.rel w G (Okay F hp G) v) :
    (AV.v t.isSt (t.leaves x)).rel w G0 A v := by
  have hmono : ∀ (t : Ty) (x : t.den) cs, t.rd w (Okay F hp G) x cs → t.rd w A x cs := fun t x cs hh => Ty.rd_mono (Nat.le_refl _) (fun b hb _ => ⟨hA b hb, rfl⟩) t x cs hh
  have gen : ∀ {t : Ty} {g : Bool} {ls : List Lf} {x : t.den}, packG t g ls = some x → (AV.v g ls).rel w G (Okay F hp G) v → (AV.v t.isSt (t.leaves x)).rel w G0 A v := by
    intro t g ls x e ha
    obtain ⟨cs, k1, k2, k3⟩ := packG_rd e ha
    exact ⟨cs, leaves_rel t x cs (hmono t x cs k1), k2, k3⟩
  unfold argOf at e
  split at e
  · rename_i e' l
    have hl := AV.one_rel (x := .v false [l]) rfl ha
    rcases hb with ⟨hall, rfl⟩ | rfl
    · have := asList_reads e h hl
      obtain ⟨vs, r1, r2⟩ := this
      exact AV.rel_of (reads_rd ⟨vs, rdL_mono (Nat.le_refl _) (fun b hb _ => ⟨hA b hb, rfl⟩) r1, r2⟩ hall)
    · cases l with
      | nl =>
        cases e
        obtain rfl := (show v = _ from hl)
        exact AV.rel_of ⟨none, 0, rfl, Nat.le_refl _, Nat.zero_le _, fun _ => rfl, fun i hi => by simp at hi⟩
      | d u y =>
        unfold asList at e
        dsimp only at e
        split at e
        · rename_i hu
          subst hu
          cases e
          exact AV.rel_of (hmono (.slice e') _ _ hl)
        · cases e
      | _ => cases e
  · rename_i k j x
    cases hd : decide (j = k) with
    | true =>
      rw [hd] at e
      cases e
      obtain rfl := of_decide_eq_true hd
      exact AV.rel_of (hmono _ _ _ (AV.one_rel (x := .v false [.d (.int j) _]) rfl ha))
    | false => rw [hd] at e; cases e
  · cases e
    exact AV.rel_of (hmono _ _ _ (AV.one_rel (x := .v false [.d .bool _]) rfl ha))
  · cases e
    exact AV.rel_of (hmono _ _ _ (AV.one_rel (x := .v false [.d .str _]) rfl ha))
  all_goals first | exact gen e ha | cases e
theorem castD_self {u : Ty} (h : u = u) (x : u.den) : castD h x = x := rfl
theorem castL_self {u : Ty} (h : u = u) (x : List u.den) : castL h x = x := rfl
theorem argsOf_rel {F : Fr} {hp hq : Nat → Option Ob} {G G0 : Gh} {w : World} {A : Nat → Prop} (h : RepH F hp G w) (hA : ∀ k, Okay F hp G k → A k) (hb : (∀ k, A k) ∧ hq = hp ∨ hq = fun _ => none) : ∀ (ts : List Ty) (as : List AV) (xs : dens ts) (vs : List Value), argsOf hq ts as = some xs → relAs w G (Okay F hp G) as vs → relAs w G0 A (argAV ts xs) vs
  | [], [], xs, vs, _, ha => ha
  | [], _ :: _, xs, vs, e, _ => by cases e
  | _ :: _, [], xs, vs, e, _ => by cases e
  | t :: ts, a :: as, xs, vs, e, ha => by
    unfold argsOf at e
    split at e
    · rename_i x xs' h1 h2
      cases e
      obtain ⟨v, r, h0, k1, k2⟩ := ha
      exact ⟨v, r, h0, argOf_rel h hA hb h1 k1, argsOf_rel h hA hb ts as xs' r h2 k2⟩
    · cases e

theorem RepH.after {F : Fr} {hp : Nat → Option Ob} {G : Gh} {w w' : World} (h : RepH F hp G w) (ho : Only (fun _ => False) w w') : RepH F hp G w' ∧ Ext (Foot hp G) (Okay F hp G) G w (Okay F hp G) G w' [] := by
  have hon : Only (Foot hp G) w w' := ⟨ho.os, ho.tape, ho.output, ho.size, fun k hk _ => ho.block k hk id⟩
  have hx : Ext (Foot hp G) (Okay F hp G) G w (Okay F hp G) G w' [] := ⟨hon, fun _ _ h => h, Okay.apart, fun _ _ => rfl⟩
  refine ⟨⟨fun b ob hb => (h.sat b ob hb).ext hx (by simp) (by simp) (fun k hk => ho.block k (h.bd b ob hb k hk).1 id) (fun _ => Iff.rfl), h.dj, fun b ob hb k hk => ?_, ?_, h.zs⟩, hx⟩
  · have := h.bd b ob hb k hk
    exact ⟨Nat.lt_of_lt_of_le this.1 ho.size, this.2⟩
  · exact ⟨ho.os.trans h.fr.os, ho.tape.trans h.fr.tape, ho.output.trans h.fr.output, Nat.le_trans h.fr.size ho.size, fun k hk hn => (ho.block k (Nat.lt_of_lt_of_le hk h.fr.size) id).trans (h.fr.block k hk hn)⟩

/-- what every value of the language is within -/
def Ty.sane : (t : Ty) → t.den → Prop
  | .int k, n => kmin k ≤ n ∧ n ≤ kmax k
  | .bool, _ => True
  | .str, s => s.size ≤ maxLen
  | .slice e, l => l.length ≤ maxLen ∧ ∀ x ∈ l, e.sane x
  | .pair a b, x => a.sane x.1 ∧ b.sane x.2
  | .st a, x => a.sane x
theorem rd_sane {w : World} {A : Nat → Prop} : ∀ (t : Ty) (x : t.den) (cs : List Value), t.rd w A x cs → t.sane x
  | .int k, n, cs, h => by show kmin k ≤ n ∧ n ≤ kmax k; rw [kmin_eq, kmax_eq]; exact h.2
  | .bool, _, _, _ => True.intro
  | .str, _, _, h => h.2
  | .slice e, l, cs, h => by
    obtain ⟨ao, cap, h0, h1, h2, h3, h4⟩ := h
    refine ⟨Nat.le_trans h1 h2, fun x hx => ?_⟩
    obtain ⟨i, hi, rfl⟩ := List.mem_iff_getElem.1 hx
    obtain ⟨b, off, es, _, _, _, k3, _⟩ := h4 i hi
    exact rd_sane e _ _ k3
  | .pair a b, x, cs, h => by
    obtain ⟨c1, c2, h0, h1, h2⟩ := h
    exact ⟨rd_sane a _ _ h1, rd_sane b _ _ h2⟩
  | .st a, x, cs, h => rd_sane a x cs h
@[reducible] def saneAll : (ts : List Ty) → dens ts → Prop
  | [], _ => True
  | t :: ts, x => t.sane x.1 ∧ saneAll ts x.2
theorem leaves_sane {w : World} {G : Gh} {A : Nat → Prop} : ∀ (t : Ty) (x : t.den) (vs : List Value), relL w G A (t.leaves x) vs → t.sane x
  | .int k, x, vs, h => by obtain ⟨v, r, _, h1, _⟩ := h; exact rd_sane (w := w) (A := A) (.int k) x _ h1
  | .bool, x, vs, h => True.intro
  | .str, x, vs, h => by obtain ⟨v, r, _, h1, _⟩ := h; exact rd_sane (w := w) (A := A) .str x _ h1
  | .slice e, x, vs, h => by obtain ⟨v, r, _, h1, _⟩ := h; exact rd_sane (w := w) (A := A) (.slice e) x _ h1
  | .pair a b, x, vs, h => by
    have e : vs = vs.take (a.leaves x.1).length ++ vs.drop (a.leaves x.1).length := (List.take_append_drop _ _).symm
    have h1 := relL_take (a.leaves x.1).length h
    have h2 := relL_drop (a.leaves x.1).length h
    have e1 : ((Ty.pair a b).leaves x).take (a.leaves x.1).length = a.leaves x.1 := by show (a.leaves x.1 ++ b.leaves x.2).take _ = _; rw [List.take_left]
    have e2 : ((Ty.pair a b).leaves x).drop (a.leaves x.1).length = b.leaves x.2 := by show (a.leaves x.1 ++ b.leaves x.2).drop _ = _; rw [List.drop_left]
    rw [e1] at h1
    rw [e2] at h2
    exact ⟨leaves_sane a _ _ h1, leaves_sane b _ _ h2⟩
  | .st a, x, vs, h => leaves_sane a x vs h
theorem args_sane {w : World} {G : Gh} {A : Nat → Prop} : ∀ (ts : List Ty) (xs : dens ts) (vs : List Value), relAs w G A (argAV ts xs) vs → saneAll ts xs
  | [], _, _, _ => True.intro
  | t :: ts, x, vs, h => by
    obtain ⟨v, r, _, ⟨us, k1, _⟩, h2⟩ := h
    exact ⟨leaves_sane t x.1 us k1, args_sane ts x.2 r h2⟩

/-! ### specs -/
/-- the answer is data; bw: arguments may be rows that the caller owns (then the answer is flat) -/
def pureSp (bw : Bool) (ts : List Ty) (pre : dens ts → Prop) (res : dens ts → AV) : SpecF := fun _ args hp => match argsOf (match bw with | true => hp | false => fun _ => none) ts args with
  | some xs => some ⟨pre xs, res xs, [], []⟩
  | none => none
/-- the answer is a row that the caller owns from then on -/
def ownSp (bw : Bool) (ts : List Ty) (E : TypeId) (t : Ty) (pre : dens ts → Prop) (res : dens ts → List t.den) : SpecF := fun d args hp => match argsOf (match bw with | true => hp | false => fun _ => none) ts args with
  | some xs => some ⟨pre xs, .v false [.o d], [.put d (.row E t (res xs)), .scr d d], [d]⟩
  | none => none

theorem asList_loc {hp hp' : Nat → Option Ob} {t : Ty} {l : Lf} (h : ∀ b ∈ l.names, hp' b = hp b) : asList hp' t l = asList hp t l := by
  cases l with
  | o b => simp only [asList, h b (by simp [Lf.names])]
  | _ => rfl
theorem argOf_loc {hp hp' : Nat → Option Ob} {t : Ty} {a : AV} (h : ∀ b ∈ a.names, hp' b = hp b) : argOf hp' t a = argOf hp t a := by
  cases a with
  | v g ls =>
    cases t with
    | slice e =>
      cases g with
      | true => rfl
      | false => match ls, h with
        | [], _ => rfl
        | [l], h => exact asList_loc (fun b hb => h b (by simpa [AV.names] using hb))
        | _ :: _ :: _, _ => rfl
    | pair a b => rfl
    | st a => rfl
    | _ => cases g with
      | true => rfl
      | false => match ls, h with
        | [], _ => rfl
        | [l], h => cases l with
          | d t x => cases t <;> rfl
          | _ => rfl
        | l :: _ :: _, _ => cases l with
          | d t x => cases t <;> rfl
          | _ => rfl
  | tu es => cases t <;> rfl
  | un => cases t <;> rfl
theorem argsOf_loc {hp hp' : Nat → Option Ob} : ∀ (ts : List Ty) (as : List AV), (∀ b ∈ as.flatMap AV.names, hp' b = hp b) → argsOf hp' ts as = argsOf hp ts as
  | [], [], _ => rfl
  | [], _ :: _, _ => rfl
  | _ :: _, [], _ => rfl
  | t :: ts, a :: as, h => by
    unfold argsOf
    rw [argOf_loc (fun b hb => h b (by simp only [List.flatMap_cons, List.mem_append]; exact .inl hb)), argsOf_loc ts as (fun b hb => h b (by simp only [List.flatMap_cons, List.mem_append]; exact .inr hb))]
theorem pureSp_loc (bw : Bool) (ts : List Ty) (pre : dens ts → Prop) (res : dens ts → AV) : SpLoc (pureSp bw ts pre res) := by
  intro d args hp hp' h
  unfold pureSp
  cases bw with
  | true => dsimp only; rw [argsOf_loc ts args h]
  | false => rfl
theorem ownSp_loc (bw : Bool) (ts : List Ty) (E : TypeId) (t : Ty) (pre : dens ts → Prop) (res : dens ts → List t.den) : SpLoc (ownSp bw ts E t pre res) := by
  intro d args hp hp' h
  unfold ownSp
  cases bw with
  | true => dsimp only; rw [argsOf_loc ts args h]
  | false => rfl

def frOf (bw : Bool) (F : Fr) (hp : Nat → Option Ob) (G : Gh) (w : World) (n : Nat) : Fr := ⟨w, fun k => bw = true ∨ Okay F hp G k, fun _ => False, fun _ => undef⟩
theorem frOf_rep (bw : Bool) (F : Fr) (hp : Nat → Option Ob) (G : Gh) (w : World) (n : Nat) : RepH (frOf bw F hp G w n) (hget []) G w :=
  ⟨fun b ob h => (by cases h), fun b c ob oc _ h => (by cases h), fun b ob h => (by cases h), Only.refl _ _, fun _ h => h.elim⟩
theorem frOf_okay {bw : Bool} {n : Nat} {F : Fr} {hp : Nat → Option Ob} {G G' : Gh} {w : World} (h : RepH F hp G w) (hb : bw = false) {hq : Nat → Option Ob} {k : Nat} (hk : Okay (frOf bw F hp G w n) hq G' k) : Okay F hp G k := by
  subst hb
  rcases hk.1 with q | q
  · rcases q with q | q
    · cases q
    · exact q
  · refine ⟨.inr (Nat.le_trans h.size q), ?_⟩
    intro hf
    have := h.lt hf
    have q : w.heap.size ≤ k := q
    omega
theorem frOf_args {bw : Bool} {n : Nat} {F : Fr} {hp : Nat → Option Ob} {G : Gh} {w : World} (h : RepH F hp G w) {ts : List Ty} {as : List AV} {xs : dens ts} {vs : List Value} (e : argsOf (match bw with | true => hp | false => fun _ => none) ts as = some xs) (ha : relAs w G (Okay F hp G) as vs) :
    relAs w G (Okay (frOf bw F hp G w n) (hget []) G) (argAV ts xs) vs := by
  have hno : ∀ k, ¬ Foot (hget []) G k := by rintro k ⟨b, ob, h1, _⟩; cases h1
  refine argsOf_rel h (fun k hk => ⟨.inl (.inr hk), hno k⟩) ?_ ts as xs vs e ha
  cases bw with
  | true => exact .inl ⟨fun k => ⟨.inl (.inl rfl), hno k⟩, rfl⟩
  | false => exact .inr rfl

theorem pureSp_ok {P : Program} {E : Env} (hE : E.Fine P) {f : FuncId} {fn : Func} (hf : P.funcs[f]? = some fn) {bw : Bool} {ts : List Ty} {pre : dens ts → Prop} {res : dens ts → AV} (hpl : ∀ xs, pre xs → (res xs).plain bw = true)
    (h : ∀ xs, saneAll ts xs → pre xs → fnM E fn (argAV ts xs) [] (fun r _ => r = res xs)) : SpecOk P f (pureSp bw ts pre res) := by
  intro d args hp r hr hside
  unfold pureSp at hr
  split at hr
  · rename_i xs hxs
    cases hr
    refine ⟨.inl rfl, fun F G w vals hrep ha => ?_⟩
    refine Calls.mono (fnM_calls hE hf (h xs (args_sane _ _ _ (frOf_args (n := 0) hrep hxs ha)) hside) (frOf_rep bw F hp G w fn.ntmps) (frOf_args hrep hxs ha)) ?_
    rintro e w' ⟨v, r, hl', G', rfl, rfl, k1, k2⟩
    obtain ⟨m1, m2⟩ := hrep.after (w' := w') k1.fr
    exact ⟨v, rfl, G, m2, m1, plain_av (fun hb t x cs hh => Ty.rd_mono (Nat.le_refl _) (fun b hb' _ => ⟨frOf_okay hrep hb hb', rfl⟩) t x cs hh) (hpl xs hside) k2⟩
  · cases hr

theorem ownSp_ok {P : Program} {E : Env} (hE : E.Fine P) {f : FuncId} {fn : Func} (hf : P.funcs[f]? = some fn) {bw : Bool} {ts : List Ty} {T : TypeId} {t : Ty} {pre : dens ts → Prop} {res : dens ts → List t.den} (hfl : bw = true → t.flat = true)
    (h : ∀ xs, saneAll ts xs → pre xs → fnM E fn (argAV ts xs) [] (fun r hl => (∃ k, r = .v false [.o k] ∧ hget hl k = some (.row T t (res xs))) ∨ r = .v false [.nl] ∧ res xs = [])) : SpecOk P f (ownSp bw ts T t pre res) := by
  intro d args hp r hr hside
  unfold ownSp at hr
  split at hr
  · rename_i xs hxs
    cases hr
    refine ⟨.inr rfl, fun F G w vals hrep ha => ?_⟩
    refine Calls.mono (fnM_calls hE hf (h xs (args_sane _ _ _ (frOf_args (n := 0) hrep hxs ha)) hside) (frOf_rep bw F hp G w fn.ntmps) (frOf_args hrep hxs ha)) ?_
    rintro e w' ⟨v, r, hl', G', rfl, hk, k1, k2⟩
    have ho : Only (fun _ => False) w w' := k1.fr
    have hrow : ∃ vs, rdL w' (Okay (frOf bw F hp G w fn.ntmps) (hget hl') G') t (res xs) vs ∧ w'.ownsRow 0 T t.size v (res xs).length vs ∧ ∀ k, v.ownBlock = some k → w.heap.size ≤ k ∧ k < w'.heap.size ∧ ¬ Okay (frOf bw F hp G w fn.ntmps) (hget hl') G' k := by
      rcases hk with ⟨b, rfl, hb⟩ | ⟨rfl, hn⟩
      · have hv := AV.one_rel (x := .v false [.o b]) rfl k2
        obtain ⟨hv1, hv2⟩ := hv
        obtain ⟨vs, s1, s2, s3⟩ := k1.sat b _ hb
        subst hv1
        refine ⟨vs, s1, s2, fun k hk => ?_⟩
        have hfk := (s3 k).2 hk
        obtain ⟨q1, q2⟩ := k1.bd b _ hb k hfk
        refine ⟨q2.resolve_left id, q1, fun q => q.2 ⟨b, _, hb, hfk⟩⟩
      · have hv := AV.one_rel (x := .v false [.nl]) rfl k2
        obtain rfl := (show v = _ from hv)
        rw [hn]
        exact ⟨[], rfl, World.ownsRow_nil _ _ _ _, fun k hk => by cases hk⟩
    obtain ⟨vs, s1, s2, s3⟩ := hrow
    obtain ⟨G2, g1, g2, g3⟩ := grow_step hrep d d v (fun k => v.ownBlock = some k) (.row T t (res xs))
      (fun k hk hl => absurd (s3 k hk).1 (by omega))
      (fun k hk => (s3 k hk).2.1)
      ⟨ho.os, ho.tape, ho.output, ho.size, fun k hk _ => ho.block k hk id⟩
      (fun A' G2 q1 q2 q3 q4 => by
        refine ⟨vs, ?_, by rw [q1]; exact s2, fun k => by rw [q1]; exact q2 k⟩
        cases hb : bw with
        | true =>
          clear s2 s3
          have hflat := hfl hb
          generalize res xs = l at s1
          induction l generalizing vs with
          | nil => exact s1
          | cons x l ih => obtain ⟨c, r, c1, c2, c3⟩ := s1; exact ⟨c, r, c1, flat_rd t x c hflat c2, ih r c3⟩
        | false =>
          refine rdL_mono (Nat.le_refl _) (fun b hb' hl => ⟨?_, rfl⟩) s1
          rcases Nat.lt_or_ge b w.heap.size with hlt | hge
          · exact q4.keepA b hlt (frOf_okay hrep hb hb')
          · exact q3 b hge hl (fun hk => (s3 b hk).2.2 hb'))
    exact ⟨v, rfl, G2, g1, g2, AV.rel_of ⟨g3.symm, owns_one s2⟩⟩
  · cases hr
end Go.Proofs.Ytdpcbffmmndhcaa
