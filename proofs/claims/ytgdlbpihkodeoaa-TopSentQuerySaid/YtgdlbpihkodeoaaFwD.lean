/- Sx, the framework, joined: SxM. Written by fw.py. -/
import Derived.Test.YtgdlbpihkodeoaaFwC
namespace Go.Proofs.Ytgdlbpihkodeoaa
open Go.RowKit

/-! part SxM -/
def fL : Lf → (Lf → Prop) → Prop
  | .d t x, k => k (.d t x)
  | .nl, k => k .nl
  | .p b off, k => k (.p b off)
  | .np, k => k .np
  | .o b, k => k (.o b)
  | .dp t x, k => k (.dp t x)
  | .pe b i s j, k => k (.pe b i s j)
  | .fn f c, k => k (.fn f c)
  | .nf, k => k .nf
  | .un, k => k .un
  | .px b i s j, k => k (.px b i s j)
  | .vw b i n s, k => k (.vw b i n s)
theorem fL_eq {x : Lf} {k : Lf → Prop} : fL x k = k x := by cases x <;> rfl
def fLs : List Lf → (List Lf → Prop) → Prop
  | [], k => k []
  | x :: xs, k => fL x fun x' => fLs xs fun xs' => k (x' :: xs')
theorem fLs_eq : ∀ {xs : List Lf} {k : List Lf → Prop}, fLs xs k = k xs
  | [], _ => rfl
  | x :: xs, k => by rw [fLs, fL_eq, fLs_eq]
def fB : Bool → (Bool → Prop) → Prop
  | true, k => k true
  | false, k => k false
theorem fB_eq {b : Bool} {k : Bool → Prop} : fB b k = k b := by cases b <;> rfl
def fEs : List (Bool × List Lf) → (List (Bool × List Lf) → Prop) → Prop
  | [], k => k []
  | (a, ls) :: r, k => fB a fun a' => fLs ls fun ls' => fEs r fun r' => k ((a', ls') :: r')
theorem fEs_eq : ∀ {xs : List (Bool × List Lf)} {k : List (Bool × List Lf) → Prop}, fEs xs k = k xs
  | [], _ => rfl
  | (a, ls) :: xs, k => by rw [fEs, fB_eq, fLs_eq, fEs_eq]
def fV : AV → (AV → Prop) → Prop
  | .v a ls, k => fB a fun a' => fLs ls fun ls' => k (.v a' ls')
  | .tu es, k => fEs es fun es' => k (.tu es')
  | .un, k => k .un
theorem fV_eq {x : AV} {k : AV → Prop} : fV x k = k x := by
  cases x with
  | v a ls => rw [fV, fB_eq, fLs_eq]
  | tu es => rw [fV, fEs_eq]
  | un => rfl
def fN : List Nat → (List Nat → Prop) → Prop
  | [], k => k []
  | x :: xs, k => fN xs fun xs' => k (x :: xs')
theorem fN_eq : ∀ {xs : List Nat} {k : List Nat → Prop}, fN xs k = k xs
  | [], _ => rfl
  | x :: xs, k => by rw [fN, fN_eq]
def fO : Ob → (Ob → Prop) → Prop
  | .box T cs, k => fLs cs fun cs' => k (.box T cs')
  | .arr T n cs, k => fLs cs fun cs' => k (.arr T n cs')
  | .row T t l, k => k (.row T t l)
  | .rox T t l1 cs l2, k => fLs cs fun cs' => k (.rox T t l1 cs' l2)
  | .bld T e l, k => k (.bld T e l)
theorem fO_eq {x : Ob} {k : Ob → Prop} : fO x k = k x := by
  cases x with
  | box T cs => rw [fO, fLs_eq]
  | arr T n cs => rw [fO, fLs_eq]
  | row T t l => rfl
  | rox T t l1 cs l2 => rw [fO, fLs_eq]
  | bld T e l => rfl
/-- the new entries ahead of the old -/
def fH : List HEnt → List HEnt → (List HEnt → Prop) → Prop
  | [], hl, k => k hl
  | .put b ob :: r, hl, k => fO ob fun ob' => fH r hl fun r' => k (.put b ob' :: r')
  | .scr b d :: r, hl, k => fH r hl fun r' => k (.scr b d :: r')
theorem fH_eq : ∀ {u hl : List HEnt} {k : List HEnt → Prop}, fH u hl k = k (u ++ hl)
  | [], _, _ => rfl
  | .put b ob :: r, hl, k => by rw [fH, fO_eq, fH_eq]; rfl
  | .scr b d :: r, hl, k => by rw [fH, fH_eq]; rfl
def fS : List Nat → List SEnt → (List SEnt → Prop) → Prop
  | [], sl, k => k sl
  | d :: r, sl, k => fS r sl fun r' => k (.scr d :: r')
theorem fS_eq : ∀ {u : List Nat} {sl : List SEnt} {k : List SEnt → Prop}, fS u sl k = k (u.map .scr ++ sl)
  | [], _, _ => rfl
  | d :: r, sl, k => by rw [fS, fS_eq]; rfl
def fD (dst : Option Nat) (x : AV) (nw : List Nat) (sl : List SEnt) (k : List SEnt → Prop) : Prop := match dst with
  | some d => fS nw sl fun sl' => k (.put d x :: sl')
  | none => fS nw sl k
theorem fD_eq {dst : Option Nat} {x : AV} {nw : List Nat} {sl : List SEnt} {k : List SEnt → Prop} : fD dst x nw sl k = k (sput dst x nw sl) := by
  cases dst with
  | none => rw [fD, fS_eq]; rfl
  | some d => rw [fD, fS_eq]; rfl

/-- where the machine stops -/
structure Run (p : Prop) : Prop where
  is : p
/-- two ways on -/
structure Way (b : Bool) (p q : Prop) : Prop where
  t : b = true → p
  f : b = false → q
theorem Way.t1 {p q : Prop} (h : p) : Way true p q := ⟨fun _ => h, fun e => (by cases e)⟩
theorem Way.f1 {p q : Prop} (h : q) : Way false p q := ⟨fun e => (by cases e), fun _ => h⟩
theorem Way.dec {c p q : Prop} [i : Decidable c] (h1 : c → p) (h2 : ¬ c → q) : Way (@decide c i) p q := ⟨fun e => h1 (of_decide_eq_true e), fun e => h2 (of_decide_eq_false e)⟩
theorem Way.nt {b : Bool} {p q : Prop} (h : Way b q p) : Way (!b) p q := ⟨fun e => h.f (by simpa using e), fun e => h.t (by simpa using e)⟩
structure Step (sd p : Prop) : Prop where
  side : sd
  next : p
structure Drawn (b : Bool) (p : Prop) : Prop where
  ok : b = true
  next : p

def fVs : List AV → (List AV → Prop) → Prop
  | [], k => k []
  | x :: xs, k => fV x fun x' => fVs xs fun xs' => k (x' :: xs')
theorem fVs_eq : ∀ {xs : List AV} {k : List AV → Prop}, fVs xs k = k xs
  | [], _ => rfl
  | x :: xs, k => by rw [fVs, fV_eq, fVs_eq]
/-- the name that an operation's slot stands for -/
def nmOf (E : Env) (k : Nat) (c : Nat → Prop) : Prop := match E.nb with
  | 0 => c k
  | m + 1 => c (m + 1 + k)
theorem nmOf_eq {E : Env} {k : Nat} {c : Nat → Prop} : nmOf E k c = c (E.nb + k) := by
  unfold nmOf
  split
  · rename_i h; rw [h, Nat.zero_add]
  · rename_i h; rw [h]

def mStep (E : Env) (C : CallH) (n : Nat) (dr : Bool) (ops : Array Oper) (o : Oper) (log : List LE) (sl : List SEnt) (hl : List HEnt) (K : KO) (k : Nat) : Prop :=
  nmOf E k fun d => match stepA E o d (evA (look sl)) (hget hl) with
    | some ⟨sd, v, hu, nw⟩ => match dstOk n o nw with
      | true => Run <| Step sd (fV v fun v' => fN nw fun nw' => fH hu hl fun hl' => fD o.dst v' nw' sl fun sl' => K (ladd dr log (mkLE ops o sl v' hu nw')) sl' hl')
      | false => False
    | none => match dstOk n o [] with
      | true => C o sl hl fun v sl' hl' => fD o.dst v [] sl' fun sl2 => K log sl2 hl'
      | false => False
def mWant (E : Env) (C : CallH) (n : Nat) (dr : Bool) (ops : Array Oper) (o : Oper) (log : List LE) (sl : List SEnt) (hl : List HEnt) (K : KO) : Prop :=
  match o.op with
  | .pick c x y => match (evA (look sl) c).one with
    | some (.d .bool t) => match dstOk n o [] with
      | true => Run <| Way t (fV (evA (look sl) x) fun v => fD o.dst v [] sl fun sl' => K (ladd dr log (mkLE ops o sl v [] [])) sl' hl)
          (fV (evA (look sl) y) fun v => fD o.dst v [] sl fun sl' => K (ladd dr log (mkLE ops o sl v [] [])) sl' hl)
      | false => False
    | _ => False
  | _ => match o.dst with
    | some d => mStep E C n dr ops o log sl hl K d
    | none => mStep E C n dr ops o log sl hl K 0
def CMono (C : CallH) : Prop := ∀ o sl hl (K K' : KV), (∀ v s h, K v s h → K' v s h) → C o sl hl K → C o sl hl K'
theorem mWant_ok {E : Env} {C : CallH} (hm : CMono C) {n : Nat} {dr : Bool} {ops : Array Oper} {o : Oper} {log : List LE} {sl : List SEnt} {hl : List HEnt} {K : KO} (h : mWant E C n dr ops o log sl hl K) : exWant E C n dr ops o log sl hl K := by
  unfold mWant at h
  unfold exWant
  split at h
  · rename_i c x y ho
    simp only [ho]
    split at h
    · rename_i t hone
      simp only [hone]
      split at h
      · rename_i hd
        obtain ⟨h1, h2⟩ := h.is
        rw [fV_eq, fD_eq] at h1 h2
        exact ⟨hd, h1, h2⟩
      · exact h.elim
    · exact h.elim
  · rename_i hne
    have hd0 : mStep E C n dr ops o log sl hl K (o.dst.getD 0) := by
      cases hd : o.dst with
      | none => rw [hd] at h; exact h
      | some d => rw [hd] at h; exact h
    replace h := hd0
    unfold mStep at h
    rw [nmOf_eq] at h
    split at h
    · rename_i sd v hu nw hr
      split at h
      · rename_i hd
        obtain ⟨h1, h2⟩ := h.is
        rw [fV_eq, fN_eq, fH_eq, fD_eq] at h2
        split
        · rename_i c x y ho; exact (hne c x y ho).elim
        · simp only [hr]
          exact ⟨hd, h1, h2⟩
      · exact h.elim
    · rename_i hr
      split at h
      · rename_i hd
        split
        · rename_i c x y ho; exact (hne c x y ho).elim
        · simp only [hr]
          exact ⟨hd, hm _ _ _ _ _ (fun v s t q => by rw [fD_eq] at q; exact q) h⟩
      · exact h.elim
def mSkip (n : Nat) (dr : Bool) (ops : Array Oper) (o : Oper) (log : List LE) (sl : List SEnt) (hl : List HEnt) (K : KO) : Prop :=
  match dstOk n o [] with
  | true => fD o.dst (.tu []) [] sl fun sl' => K (ladd dr log (mkLE ops o sl (.tu []) [] [])) sl' hl
  | false => False
theorem mSkip_ok {n : Nat} {dr : Bool} {ops : Array Oper} {o : Oper} {log : List LE} {sl : List SEnt} {hl : List HEnt} {K : KO} (h : mSkip n dr ops o log sl hl K) : exSkip n dr ops o log sl hl K := by
  unfold mSkip at h
  split at h
  · rename_i hd
    rw [fD_eq] at h
    exact ⟨hd, h⟩
  · exact h.elim

def mOne (E : Env) (C : CallH) (n : Nat) (dr : Bool) (ops : Array Oper) (o : Oper) (log : List LE) (sl : List SEnt) (hl : List HEnt) (K : KO) : Prop :=
  match o.guard with
  | none => mWant E C n dr ops o log sl hl K
  | some (j, want) => match (ops[j]?).bind (·.dst) with
    | none => False
    | some t => match sg (look sl) t with
      | .v false [.d .bool b] => match want with
        | true => Run <| Way b (mWant E C n dr ops o log (.put t (.v false [.d .bool true]) :: sl) hl K) (mSkip n dr ops o log (.put t (.v false [.d .bool false]) :: sl) hl K)
        | false => Run <| Way b (mSkip n dr ops o log (.put t (.v false [.d .bool true]) :: sl) hl K) (mWant E C n dr ops o log (.put t (.v false [.d .bool false]) :: sl) hl K)
      | .tu [] => mSkip n dr ops o log sl hl K
      | _ => False
theorem mOne_ok {E : Env} {C : CallH} (hm : CMono C) {n : Nat} {dr : Bool} {ops : Array Oper} {o : Oper} {log : List LE} {sl : List SEnt} {hl : List HEnt} {K : KO} (h : mOne E C n dr ops o log sl hl K) : exOne E C n dr ops o log sl hl K := by
  unfold mOne at h
  unfold exOne
  split at h
  · rename_i hg
    simp only [hg]
    exact mWant_ok hm h
  · rename_i j want hg
    simp only [hg]
    split at h
    · exact h.elim
    · rename_i t ht
      simp only [ht]
      split at h
      · rename_i b hb
        simp only [hb]
        cases want with
        | true => exact ⟨fun e => mWant_ok hm (h.is.t e), fun e => mSkip_ok (h.is.f e)⟩
        | false => exact ⟨fun e => mWant_ok hm (h.is.f e), fun e => mSkip_ok (h.is.t e)⟩
      · rename_i hb
        simp only [hb]
        exact mSkip_ok h
      · exact h.elim

abbrev MO := List LE → List SEnt → List HEnt → KO → Prop
def mOpsNil : MO := fun log sl hl K => K log sl hl
def mOpsCons (E : Env) (C : CallH) (n : Nat) (dr : Bool) (ops : Array Oper) (o : Oper) (_ : List Oper) (ih : MO) : MO := fun log sl hl K => mOne E C n dr ops o log sl hl fun log' sl' hl' => ih log' sl' hl' K
/-- (by the recursor itself: what is unfolded here and in the kernel is then the same) -/
def mOps (E : Env) (C : CallH) (n : Nat) (dr : Bool) (ops : Array Oper) (l : List Oper) : MO := List.rec (motive := fun _ => MO) mOpsNil (mOpsCons E C n dr ops) l

theorem exWant_mono {E : Env} {C : CallH} (hm : CMono C) {n : Nat} {dr : Bool} {ops : Array Oper} {o : Oper} {log : List LE} {sl : List SEnt} {hl : List HEnt} {K K' : KO} (hk : ∀ l s h, K l s h → K' l s h) (h : exWant E C n dr ops o log sl hl K) : exWant E C n dr ops o log sl hl K' := by
  unfold exWant at h ⊢
  split
  · rename_i c x y ho
    simp only [ho] at h
    split at h
    · exact ⟨h.1, fun e => hk _ _ _ (h.2.1 e), fun e => hk _ _ _ (h.2.2 e)⟩
    · exact h.elim
  · rename_i hne
    split at h
    · rename_i c x y ho; exact (hne c x y ho).elim
    · split at h
      · exact ⟨h.1, h.2.1, hk _ _ _ h.2.2⟩
      · exact ⟨h.1, hm _ _ _ _ _ (fun v s t q => hk _ _ _ q) h.2⟩
theorem exOne_mono {E : Env} {C : CallH} (hm : CMono C) {n : Nat} {dr : Bool} {ops : Array Oper} {o : Oper} {log : List LE} {sl : List SEnt} {hl : List HEnt} {K K' : KO} (hk : ∀ l s h, K l s h → K' l s h) (h : exOne E C n dr ops o log sl hl K) : exOne E C n dr ops o log sl hl K' := by
  unfold exOne at h ⊢
  split at h
  · exact exWant_mono hm hk h
  · split at h
    · exact h.elim
    · split at h
      · exact ⟨fun e => exWant_mono hm hk (h.1 e), fun e => ⟨(h.2 e).1, hk _ _ _ (h.2 e).2⟩⟩
      · exact ⟨h.1, hk _ _ _ h.2⟩
      · exact h.elim
theorem mOps_ok {E : Env} {C : CallH} (hm : CMono C) {n : Nat} {dr : Bool} {ops : Array Oper} {K : KO} : ∀ {l : List Oper} {log : List LE} {sl : List SEnt} {hl : List HEnt}, mOps E C n dr ops l log sl hl K → exOps E C n dr ops l log sl hl K
  | [], _, _, _, h => h
  | _ :: _, _, _, _, h => exOne_mono hm (fun _ _ _ => mOps_ok hm) (mOne_ok hm h)
theorem noC_mono : CMono noC := fun _ _ _ _ _ _ h => h.elim
end Go.Proofs.Ytgdlbpihkodeoaa
