/- Sx, part O: every order of a drawn region does what the order of the text does. -/
import Derived.Test.YtdpcbffmmndhcaaSxN
namespace Go.Proofs.Ytdpcbffmmndhcaa
open Go.RowKit

def LE.V (e : LE) : List Nat := e.x.names ++ huV e.hu
def disj (a b : List Nat) : Bool := a.all fun x => !inL b x
theorem disj_iff {a b : List Nat} (h : disj a b = true) : ∀ x ∈ a, x ∉ b := by
  unfold disj at h
  rw [List.all_eq_true] at h
  intro x hx hb
  have := h x hx
  rw [inL_iff.2 hb] at this
  cases this

def obNames : Option Ob → List Nat
  | none => []
  | some o => o.names

/-- neither of two operations sees the other -/
def apart (s0 : Nat → AV) (h0 : Nat → Option Ob) (a b : LE) : Bool :=
  (match a.dst with | none => true | some d => !inL b.R d && !(b.dst == some d)) && disj (huM a.hu) b.N && disj (huM a.hu) (huM b.hu) && disj a.nw (b.V ++ b.N) &&
  disj a.nw (b.R.flatMap fun t => (s0 t).names) && disj a.nw (b.N.flatMap fun c => obNames (h0 c))

def dirs (o : Oper) : List Nat := (o.after.toList.filter (fun e => Region.binds .any e)).map (·.on)
def befs : List Oper → List (List Nat) → List (List Nat)
  | [], acc => acc
  | o :: r, acc => befs r (acc ++ [(dirs o) ++ (dirs o).flatMap fun j => (acc[j]?).getD []])
def inB (B : List (List Nat)) (i j : Nat) : Bool := inL ((B[i]?).getD []) j

def chkB (ops : Array Oper) (B : List (List Nat)) : Bool :=
  (List.range ops.size).all fun i => match ops[i]? with
    | none => true
    | some o => (dirs o).all (fun j => Nat.blt j i) && ((B[i]?).getD []).all fun j => inL (dirs o) j || (dirs o).any fun m => inB B m j

def niOk (ops : Array Oper) (s0 : Nat → AV) (h0 : Nat → Option Ob) (L : List LE) (B : List (List Nat)) : Bool :=
  chkB ops B && L.all (fun e => (huD e.hu).all (inL e.nw) && e.nw.all (inL (huD e.hu))) &&
  (List.range L.length).all fun j => (List.range j).all fun i => match L[i]?, L[j]? with
    | some a, some b => disj b.nw a.V && (inB B j i || (apart s0 h0 a b && apart s0 h0 b a))
    | _, _ => true

structure Ni (ops : Array Oper) (s0 : Nat → AV) (h0 : Nat → Option Ob) (L : List LE) (B : List (List Nat)) : Prop where
  dir : ∀ (i : Nat) (o : Oper), ops[i]? = some o → ∀ j ∈ dirs o, j < i
  bef : ∀ (i : Nat) (o : Oper) (j : Nat), ops[i]? = some o → inB B i j = true → j ∈ dirs o ∨ ∃ m ∈ dirs o, inB B m j = true
  hu : ∀ e ∈ L, inL (huD e.hu) = inL e.nw
  ord : ∀ (i j : Nat) (a b : LE), i < j → L[i]? = some a → L[j]? = some b → ∀ x ∈ b.nw, x ∉ a.V
  un : ∀ (i j : Nat) (a b : LE), i < j → L[i]? = some a → L[j]? = some b → inB B j i = false → apart s0 h0 a b = true ∧ apart s0 h0 b a = true

theorem niOk_spec {ops : Array Oper} {s0 : Nat → AV} {h0 : Nat → Option Ob} {L : List LE} {B : List (List Nat)} (hlen : L.length = ops.size) (h : niOk ops s0 h0 L B = true) : Ni ops s0 h0 L B := by
  unfold niOk at h
  obtain ⟨h12, h3⟩ := Bool.and_eq_true_iff.1 h
  obtain ⟨h1, h2⟩ := Bool.and_eq_true_iff.1 h12
  unfold chkB at h1
  rw [List.all_eq_true] at h1 h2 h3
  have hc : ∀ i o, ops[i]? = some o → (dirs o).all (fun j => Nat.blt j i) = true ∧ ((B[i]?).getD []).all (fun j => inL (dirs o) j || (dirs o).any fun m => inB B m j) = true := by
    intro i o ho
    have := h1 i (List.mem_range.2 (Array.getElem?_eq_some_iff.1 ho).1)
    rw [ho] at this
    exact Bool.and_eq_true_iff.1 this
  have hp : ∀ i j (a b : LE), i < j → L[i]? = some a → L[j]? = some b → (disj b.nw a.V && (inB B j i || (apart s0 h0 a b && apart s0 h0 b a))) = true := by
    intro i j a b hij ha hb
    have q1 := h3 j (List.mem_range.2 (List.getElem?_eq_some_iff.1 hb).1)
    rw [List.all_eq_true] at q1
    have q2 := q1 i (List.mem_range.2 hij)
    rw [ha, hb] at q2
    exact q2
  refine ⟨?_, ?_, ?_, ?_, ?_⟩
  · intro i o ho j hj
    have := (hc i o ho).1
    rw [List.all_eq_true] at this
    exact Nat.le_of_ble_eq_true (this j hj)
  · intro i o j ho hj
    have := (hc i o ho).2
    rw [List.all_eq_true] at this
    rcases Bool.or_eq_true_iff.1 (this j (inL_iff.1 hj)) with q | q
    · exact .inl (inL_iff.1 q)
    · rw [List.any_eq_true] at q
      exact .inr q
  · intro e he
    obtain ⟨q1, q2⟩ := Bool.and_eq_true_iff.1 (h2 e he)
    rw [List.all_eq_true] at q1 q2
    funext b
    rw [Bool.eq_iff_iff]
    constructor
    · intro hb; exact q1 b (inL_iff.1 hb)
    · intro hb; exact q2 b (inL_iff.1 hb)
  · intro i j a b hij ha hb
    exact disj_iff (Bool.and_eq_true_iff.1 (hp i j a b hij ha hb)).1
  · intro i j a b hij ha hb hu
    have := (Bool.and_eq_true_iff.1 (hp i j a b hij ha hb)).2
    rw [hu, Bool.false_or] at this
    exact Bool.and_eq_true_iff.1 this

structure Apart (s0 : Nat → AV) (h0 : Nat → Option Ob) (a b : LE) : Prop where
  d : ∀ d, a.dst = some d → d ∉ b.R ∧ b.dst ≠ some d
  mn : ∀ c ∈ huM a.hu, c ∉ b.N
  mm : ∀ c ∈ huM a.hu, c ∉ huM b.hu
  nv : ∀ c ∈ a.nw, c ∉ b.V ∧ c ∉ b.N
  s : ∀ c ∈ a.nw, ∀ t ∈ b.R, c ∉ (s0 t).names
  h : ∀ c ∈ a.nw, ∀ q ∈ b.N, c ∉ obNames (h0 q)
theorem apart_spec {s0 : Nat → AV} {h0 : Nat → Option Ob} {a b : LE} (h : apart s0 h0 a b = true) : Apart s0 h0 a b := by
  unfold apart at h
  obtain ⟨h, h6⟩ := Bool.and_eq_true_iff.1 h
  obtain ⟨h, h5⟩ := Bool.and_eq_true_iff.1 h
  obtain ⟨h, h4⟩ := Bool.and_eq_true_iff.1 h
  obtain ⟨h, h3⟩ := Bool.and_eq_true_iff.1 h
  obtain ⟨h1, h2⟩ := Bool.and_eq_true_iff.1 h
  refine ⟨?_, disj_iff h2, disj_iff h3, ?_, ?_, ?_⟩
  · intro d hd
    rw [hd] at h1
    obtain ⟨q1, q2⟩ := Bool.and_eq_true_iff.1 h1
    refine ⟨fun hh => ?_, fun hh => ?_⟩
    · rw [inL_iff.2 hh] at q1; cases q1
    · rw [hh] at q2; simp at q2
  · intro c hc
    have := disj_iff h4 c hc
    rw [List.mem_append, not_or] at this
    exact this
  · intro c hc t ht hn
    exact disj_iff h5 c hc (List.mem_flatMap.2 ⟨t, ht, hn⟩)
  · intro c hc t ht hn
    exact disj_iff h6 c hc (List.mem_flatMap.2 ⟨t, ht, hn⟩)

theorem scrubP_id {x : AV} {nw : List Nat} (h : ∀ c ∈ nw, c ∉ x.names) : x.scrubP (inL nw) = x := by
  rw [AV.scrubP_same (P' := fun _ => false) (fun b hb => inL_false.2 fun hh => h b hh hb), AV.scrubP_none]
theorem ob_scrubP_id {o : Option Ob} {nw : List Nat} (h : ∀ c ∈ nw, c ∉ obNames o) : o.map (Ob.scrubP (inL nw)) = o := by
  cases o with
  | none => rfl
  | some x =>
    rw [Option.map_some, Ob.scrubP_same (P' := fun _ => false) (fun b hb => inL_false.2 fun hh => h b hh hb), Ob.scrubP_none]

theorem setS_eq (dst : Option Nat) (x : AV) (s : Nat → AV) (t : Nat) : setS dst x s t = bif dst == some t then x else s t := by
  cases dst with
  | none => rfl
  | some d =>
    show upd s d x t = _
    by_cases h : t = d
    · subst h; rw [upd_same]; simp
    · rw [upd_ne _ _ h]
      have : (some d == some t) = false := by simpa using Ne.symm h
      rw [this]; rfl

/-- the set grows by an operation that has not come up -/
theorem SD_add {L : List LE} {s : Nat → AV} {h : Nat → Option Ob} {D : Nat → Bool} {i : Nat} {e : LE} (hi : L[i]? = some e) (hD : D i = false) (hu : inL (huD e.hu) = inL e.nw)
    (hV : ∀ j (f : LE), L[j]? = some f → D j = true → ∀ x ∈ e.nw, x ∉ f.V) (hl : ∀ j (f : LE), L[j]? = some f → D j = true → i < j → (∀ t, e.dst = some t → f.dst ≠ some t) ∧ ∀ c ∈ huM e.hu, c ∉ huM f.hu) :
    SD L s (upd D i true) = setS e.dst e.x (scrS e.nw (SD L s D)) ∧ HD L h (upd D i true) = happ e.hu (HD L h D) := by
  have hnw : (fun d => nwF (upd D i true) d L 0) = fun d => nwF D d L 0 || inL e.nw d := by
    funext d
    have := nwF_add (D := D) (d := d) L 0 hi
    rwa [Nat.zero_add] at this
  constructor
  · funext t
    rw [setS_eq, scrS_eq]
    have := slotF_add (D := D) (t := t) (P := inL e.nw) L 0 ((s t).scrubP fun d => nwF D d L 0) ((s t).scrubP fun d => nwF (upd D i true) d L 0) hi (by rwa [Nat.zero_add])
      (fun j f hf hj _ => scrubP_id fun c hc hn => hV j f hf (by rwa [Nat.zero_add] at hj) c hc (List.mem_append.2 (.inl hn)))
      (fun j f hf hj hij hd => (hl j f hf (by rwa [Nat.zero_add] at hj) hij).1 t hd)
      (fun _ => by rw [hnw, AV.scrubP_scrubP])
    rw [Nat.zero_add] at this
    exact this
  · funext b
    have := heapF_add (D := D) (b := b) (P := inL e.nw) L 0 ((h b).map (Ob.scrubP fun d => nwF D d L 0)) ((h b).map (Ob.scrubP fun d => nwF (upd D i true) d L 0)) hi (by rwa [Nat.zero_add])
      (fun j f hf hj hb => ob_scrubP_id fun c hc hn => by
        cases ho : happ f.hu (fun _ => none) b with
        | none => rw [ho] at hn; cases hn
        | some o => rw [ho] at hn; exact hV j f hf (by rwa [Nat.zero_add] at hj) c hc (List.mem_append.2 (.inr (happ_names f.hu b o ho c hn))))
      (fun j f hf hj hij hb => (hl j f hf (by rwa [Nat.zero_add] at hj) hij).2 b hb)
      (fun _ => by
        rw [hnw, Option.map_map]
        congr 1
        funext o
        exact (Ob.scrubP_scrubP _ _ o).symm)
    rw [Nat.zero_add] at this
    show heapF (upd D i true) b L 0 ((h b).map (Ob.scrubP fun d => nwF (upd D i true) d L 0)) = _
    rw [this]
    cases hb : inL (huM e.hu) b
    · rw [happ_out e.hu (HD L h D) b (inL_false.1 hb), hu]; rfl
    · rw [happ_in e.hu (HD L h D) (fun _ => none) b (inL_iff.1 hb)]; rfl

def ltD (i : Nat) : Nat → Bool := fun j => Nat.blt j i
theorem ltD_succ (i : Nat) : ltD (i + 1) = upd (ltD i) i true := by
  funext j
  unfold ltD
  by_cases h : j = i
  · subst h; rw [upd_same]; exact Nat.ble_eq_true_of_le (Nat.le_refl _)
  · rw [upd_ne _ _ h, Bool.eq_iff_iff]
    constructor
    · intro hh; have := Nat.le_of_ble_eq_true hh; exact Nat.ble_eq_true_of_le (show j + 1 ≤ i by omega)
    · intro hh; have := Nat.le_of_ble_eq_true hh; exact Nat.ble_eq_true_of_le (show j + 1 ≤ i + 1 by omega)

theorem SD_none (L : List LE) (s : Nat → AV) : SD L s (fun _ => false) = s := by
  funext t
  have h1 : ∀ d, nwF (fun _ => false) d L 0 = false := by
    intro d
    have : ∀ (L : List LE) (k : Nat), nwF (fun _ => false) d L k = false := by
      intro L
      induction L with
      | nil => intro k; rfl
      | cons e L ih => intro k; unfold nwF; rw [ih]; rfl
    exact this L 0
  unfold SD
  rw [show (fun d => nwF (fun _ => false) d L 0) = fun _ => false from funext h1, AV.scrubP_none]
  have : ∀ (L : List LE) (k : Nat) (x : AV), slotF (fun _ => false) t L k x = x := by
    intro L
    induction L with
    | nil => intro k x; rfl
    | cons e L ih => intro k x; unfold slotF; rw [Bool.false_and, cond_false]; exact ih _ _
  exact this L 0 _
theorem HD_none (L : List LE) (h : Nat → Option Ob) : HD L h (fun _ => false) = h := by
  funext t
  have h1 : ∀ d, nwF (fun _ => false) d L 0 = false := by
    intro d
    have : ∀ (L : List LE) (k : Nat), nwF (fun _ => false) d L k = false := by
      intro L
      induction L with
      | nil => intro k; rfl
      | cons e L ih => intro k; unfold nwF; rw [ih]; rfl
    exact this L 0
  unfold HD
  rw [show (fun d => nwF (fun _ => false) d L 0) = fun _ => false from funext h1]
  have h2 : (h t).map (Ob.scrubP fun _ => false) = h t := by
    cases h t with
    | none => rfl
    | some o => rw [Option.map_some, Ob.scrubP_none]
  rw [h2]
  have : ∀ (L : List LE) (k : Nat) (x : Option Ob), heapF (fun _ => false) t L k x = x := by
    intro L
    induction L with
    | nil => intro k x; rfl
    | cons e L ih => intro k x; unfold heapF; rw [Bool.false_and, cond_false]; exact ih _ _
  exact this L 0 _

/-- the states of the order of the text -/
theorem Chain.states {E : Env} {n : Nat} {ops : Array Oper} {s0 : Nat → AV} {h0 : Nat → Option Ob} {B : List (List Nat)} {L : List LE} (hN : Ni ops s0 h0 L B) {s' : Nat → AV} {h' : Nat → Option Ob} :
    ∀ (l : List Oper) (es : List LE) (i : Nat), (∀ j, L[i + j]? = es[j]?) → Chain E n ops l es (SD L s0 (ltD i)) (HD L h0 (ltD i)) s' h' →
      s' = SD L s0 (ltD (i + es.length)) ∧ h' = HD L h0 (ltD (i + es.length)) ∧ l.length = es.length ∧ ∀ j o (e : LE), l[j]? = some o → es[j]? = some e → Does E n ops o (SD L s0 (ltD (i + j))) (HD L h0 (ltD (i + j))) e
  | [], [], i, _, hc => ⟨hc.1, hc.2, rfl, fun j o e h => by simp at h⟩
  | o :: l, e :: es, i, hL, hc => by
    obtain ⟨h1, h2⟩ := hc
    have hi : L[i]? = some e := by have := hL 0; simpa using this
    have hD : ltD i i = false := by unfold ltD; rw [Bool.eq_false_iff]; intro hh; have := Nat.le_of_ble_eq_true hh; omega
    have hlt : ∀ j, ltD i j = true → j < i := fun j hj => Nat.le_of_ble_eq_true hj
    obtain ⟨q1, q2⟩ := SD_add (s := s0) (h := h0) hi hD (hN.hu e (List.mem_of_getElem? hi)) (fun j f hf hj => hN.ord j i f e (hlt j hj) hf hi) (fun j f hf hj hij => by have := hlt j hj; omega)
    rw [← ltD_succ] at q1 q2
    rw [← q1, ← q2] at h2
    obtain ⟨r1, r2, r3, r4⟩ := Chain.states hN l es (i + 1) (fun j => by have := hL (j + 1); rw [show i + (j + 1) = i + 1 + j by omega] at this; simpa using this) h2
    rw [show i + (e :: es).length = i + 1 + es.length by simp; omega]
    refine ⟨r1, r2, by simp [r3], fun j o' e' ho' he' => ?_⟩
    cases j with
    | zero => simp at ho' he'; subst ho'; subst he'; exact h1
    | succ j => rw [show i + (j + 1) = i + 1 + j by omega]; exact r4 j o' e' (by simpa using ho') (by simpa using he')
  | [], _ :: _, i, _, hc => hc.elim
  | _ :: _, [], i, _, hc => hc.elim
end Go.Proofs.Ytdpcbffmmndhcaa
