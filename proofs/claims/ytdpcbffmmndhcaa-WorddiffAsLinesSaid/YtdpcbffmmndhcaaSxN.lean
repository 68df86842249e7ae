/- Sx, part N: a region that draws its order: the order of the text tells what it does. -/
import Derived.Test.YtdpcbffmmndhcaaSxL
namespace Go.Proofs.Ytdpcbffmmndhcaa
open Go.RowKit

def Chain (E : Env) (n : Nat) (ops : Array Oper) : List Oper → List LE → (Nat → AV) → (Nat → Option Ob) → (Nat → AV) → (Nat → Option Ob) → Prop
  | [], [], s, h, s', h' => s' = s ∧ h' = h
  | o :: r, e :: es, s, h, s', h' => Does E n ops o s h e ∧ Chain E n ops r es (setS e.dst e.x (scrS e.nw s)) (happ e.hu h) s' h'
  | _, _, _, _, _, _ => False

/-- the operations in their order -/
theorem Chain.list {P : Program} {E : Env} (hE : E.Ok P) {n : Nat} {ops : Array Oper} {F : Fr} {Q : Exit → Act → World → Prop} {s' : Nat → AV} {h' : Nat → Option Ob} (hQ : ∀ G a w, Rep F n s' h' G a w → Q .normal a w) :
    ∀ (l : List Oper) (es : List LE) (s : Nat → AV) (h : Nat → Option Ob), Chain E n ops l es s h s' h' → ∀ G a w, Rep F n s h G a w → wpList P ops Q l a w
  | [], [], s, h, hc, G, a, w, hr => by obtain ⟨rfl, rfl⟩ := hc; exact hQ G a w hr
  | o :: r, e :: es, s, h, hc, G, a, w, hr => by
    obtain ⟨h1, h2⟩ := hc
    exact h1.run hE hr (fun G' a' w' hr' => Chain.list hE hQ r es _ _ h2 G' a' w' hr')
  | [], _ :: _, s, h, hc, G, a, w, hr => hc.elim
  | _ :: _, [], s, h, hc, G, a, w, hr => hc.elim

/-! ### scrubbing by a predicate -/
def Lf.scrubP (P : Nat → Bool) : Lf → Lf
  | .p b off => bif P b then .un else .p b off
  | .o b => bif P b then .un else .o b
  | .pe b i s k => bif P b then .un else .pe b i s k
  | .px b i s k => bif P b then .un else .px b i s k
  | .fn f c => bif c.any P then .un else .fn f c
  | x => x
def AV.scrubP (P : Nat → Bool) : AV → AV
  | .v agg ls => .v agg (ls.map (Lf.scrubP P))
  | .tu es => .tu (es.map fun e => (e.1, e.2.map (Lf.scrubP P)))
  | .un => .un
def Ob.scrubP (P : Nat → Bool) : Ob → Ob
  | .box T cs => .box T (cs.map (Lf.scrubP P))
  | .arr E n cs => .arr E n (cs.map (Lf.scrubP P))
  | .row E t l => .row E t l
  | .rox E t l1 cs l2 => .rox E t l1 (cs.map (Lf.scrubP P)) l2

theorem Lf.scrubP_same {P P' : Nat → Bool} {x : Lf} (h : ∀ b ∈ x.names, P b = P' b) : x.scrubP P = x.scrubP P' := by
  cases x with
  | p b off => simp only [Lf.scrubP, h b (by simp [Lf.names])]
  | o b => simp only [Lf.scrubP, h b (by simp [Lf.names])]
  | pe b i s k => simp only [Lf.scrubP, h b (by simp [Lf.names])]
  | px b i s k => simp only [Lf.scrubP, h b (by simp [Lf.names])]
  | fn f c =>
    have : c.any P = c.any P' := by
      rw [Bool.eq_iff_iff, List.any_eq_true, List.any_eq_true]
      constructor
      · rintro ⟨b, h1, h2⟩; exact ⟨b, h1, by rw [← h b h1]; exact h2⟩
      · rintro ⟨b, h1, h2⟩; exact ⟨b, h1, by rw [h b h1]; exact h2⟩
    simp only [Lf.scrubP, this]
  | _ => rfl
theorem Lf.scrubP_none {x : Lf} : x.scrubP (fun _ => false) = x := by
  cases x with
  | fn f c =>
    have : c.any (fun _ => false) = false := by rw [List.any_eq_false]; simp
    simp only [Lf.scrubP, this]; rfl
  | _ => rfl
theorem Lf.scrub_eq (d : Nat) (x : Lf) : x.scrub d = x.scrubP (fun b => Nat.beq b d) := by
  cases x <;> rfl
theorem Lf.scrubP_scrubP (P P' : Nat → Bool) (x : Lf) : (x.scrubP P).scrubP P' = x.scrubP (fun b => P b || P' b) := by
  cases x with
  | p b off => simp only [Lf.scrubP]; cases P b <;> simp [Lf.scrubP]
  | o b => simp only [Lf.scrubP]; cases P b <;> simp [Lf.scrubP]
  | pe b i s k => simp only [Lf.scrubP]; cases P b <;> simp [Lf.scrubP]
  | px b i s k => simp only [Lf.scrubP]; cases P b <;> simp [Lf.scrubP]
  | fn f c =>
    have : c.any (fun b => P b || P' b) = (c.any P || c.any P') := by
      rw [Bool.eq_iff_iff, Bool.or_eq_true, List.any_eq_true, List.any_eq_true, List.any_eq_true]
      constructor
      · rintro ⟨b, h1, h2⟩
        rcases Bool.or_eq_true_iff.1 h2 with h2 | h2
        · exact .inl ⟨b, h1, h2⟩
        · exact .inr ⟨b, h1, h2⟩
      · rintro (⟨b, h1, h2⟩ | ⟨b, h1, h2⟩)
        · exact ⟨b, h1, by rw [h2]; rfl⟩
        · exact ⟨b, h1, by rw [h2, Bool.or_true]⟩
    simp only [Lf.scrubP, this]
    cases c.any P <;> simp [Lf.scrubP]
  | _ => rfl

theorem AV.scrubP_same {P P' : Nat → Bool} {x : AV} (h : ∀ b ∈ x.names, P b = P' b) : x.scrubP P = x.scrubP P' := by
  cases x with
  | v agg ls =>
    simp only [AV.scrubP]
    congr 1
    exact List.map_congr_left fun l hl => Lf.scrubP_same fun b hb => h b (List.mem_flatMap.2 ⟨l, hl, hb⟩)
  | tu es =>
    simp only [AV.scrubP]
    congr 1
    refine List.map_congr_left fun e he => ?_
    congr 1
    exact List.map_congr_left fun l hl => Lf.scrubP_same fun b hb => h b (List.mem_flatMap.2 ⟨e, he, List.mem_flatMap.2 ⟨l, hl, hb⟩⟩)
  | un => rfl
theorem AV.scrubP_none {x : AV} : x.scrubP (fun _ => false) = x := by
  have e : Lf.scrubP (fun _ => false) = id := funext fun _ => Lf.scrubP_none
  cases x with
  | v agg ls => simp only [AV.scrubP, e, List.map_id]
  | tu es => simp only [AV.scrubP, e, List.map_id]; congr 1; exact List.map_id' es
  | un => rfl
theorem AV.scrub_eq (d : Nat) (x : AV) : x.scrub d = x.scrubP (fun b => Nat.beq b d) := by
  have e : Lf.scrub d = Lf.scrubP (fun b => Nat.beq b d) := funext (Lf.scrub_eq d)
  cases x <;> simp only [AV.scrub, AV.scrubP, e]
theorem AV.scrubP_scrubP (P P' : Nat → Bool) (x : AV) : (x.scrubP P).scrubP P' = x.scrubP (fun b => P b || P' b) := by
  have e : Lf.scrubP P' ∘ Lf.scrubP P = Lf.scrubP (fun b => P b || P' b) := funext (Lf.scrubP_scrubP P P')
  cases x with
  | v agg ls => simp only [AV.scrubP, List.map_map, e]
  | tu es => simp only [AV.scrubP, List.map_map, Function.comp_def, ← e]
  | un => rfl
theorem Ob.scrubP_same {P P' : Nat → Bool} {x : Ob} (h : ∀ b ∈ x.names, P b = P' b) : x.scrubP P = x.scrubP P' := by
  cases x with
  | box T cs => simp only [Ob.scrubP]; congr 1; exact List.map_congr_left fun l hl => Lf.scrubP_same fun b hb => h b (List.mem_flatMap.2 ⟨l, hl, hb⟩)
  | arr E n cs => simp only [Ob.scrubP]; congr 1; exact List.map_congr_left fun l hl => Lf.scrubP_same fun b hb => h b (List.mem_flatMap.2 ⟨l, hl, hb⟩)
  | row E t l => rfl
  | rox E t l1 cs l2 => simp only [Ob.scrubP]; congr 1; exact List.map_congr_left fun l hl => Lf.scrubP_same fun b hb => h b (List.mem_flatMap.2 ⟨l, hl, hb⟩)
theorem Ob.scrubP_none {x : Ob} : x.scrubP (fun _ => false) = x := by
  have e : Lf.scrubP (fun _ => false) = id := funext fun _ => Lf.scrubP_none
  cases x <;> simp only [Ob.scrubP, e, List.map_id]
theorem Ob.scrub_eq (d : Nat) (x : Ob) : x.scrub d = x.scrubP (fun b => Nat.beq b d) := by
  have e : Lf.scrub d = Lf.scrubP (fun b => Nat.beq b d) := funext (Lf.scrub_eq d)
  cases x <;> simp only [Ob.scrub, Ob.scrubP, e]
theorem Ob.scrubP_scrubP (P P' : Nat → Bool) (x : Ob) : (x.scrubP P).scrubP P' = x.scrubP (fun b => P b || P' b) := by
  have e : Lf.scrubP P' ∘ Lf.scrubP P = Lf.scrubP (fun b => P b || P' b) := funext (Lf.scrubP_scrubP P P')
  cases x <;> simp only [Ob.scrubP, List.map_map, e]

def inL (l : List Nat) (b : Nat) : Bool := l.any fun d => Nat.beq b d
theorem inL_iff {l : List Nat} {b : Nat} : inL l b = true ↔ b ∈ l := by
  unfold inL
  rw [List.any_eq_true]
  constructor
  · rintro ⟨d, h1, h2⟩; rw [Nat.eq_of_beq_eq_true h2]; exact h1
  · intro h; exact ⟨b, h, Nat.beq_refl b⟩
theorem inL_false {l : List Nat} {b : Nat} : inL l b = false ↔ b ∉ l := by
  rw [← Bool.not_eq_true, inL_iff]

theorem scrS_eq : ∀ (nw : List Nat) (s : Nat → AV) (t : Nat), scrS nw s t = (s t).scrubP (inL nw)
  | [], s, t => by
    show s t = _
    rw [show inL [] = fun _ => false from rfl, AV.scrubP_none]
  | d :: ds, s, t => by
    show (scrS ds s t).scrub d = _
    rw [scrS_eq ds s t, AV.scrub_eq, AV.scrubP_scrubP]
    congr 1
    funext b
    simp only [inL, List.any_cons]
    exact Bool.or_comm _ _

/-- the names that a step's entries touch; those that they scrub -/
def huM : List HEnt → List Nat
  | [] => []
  | .put b _ :: l => b :: huM l
  | .scr b d :: l => b :: d :: huM l
def huD : List HEnt → List Nat
  | [] => []
  | .put _ _ :: l => huD l
  | .scr _ d :: l => d :: huD l
def huV : List HEnt → List Nat
  | [] => []
  | .put _ ob :: l => ob.names ++ huV l
  | .scr _ _ :: l => huV l

theorem happ_in : ∀ (hu : List HEnt) (h h' : Nat → Option Ob) (b : Nat), b ∈ huM hu → happ hu h b = happ hu h' b
  | .put c ob :: l, h, h', b, hb => by
    show upd (happ l h) c (some ob) b = upd (happ l h') c (some ob) b
    by_cases e : b = c
    · subst e; rw [upd_same, upd_same]
    · rw [upd_ne _ _ e, upd_ne _ _ e]
      exact happ_in l h h' b (by simp [huM, e] at hb; exact hb)
  | .scr c d :: l, h, h', b, hb => by
    show scrH (happ l h) c d b = scrH (happ l h') c d b
    unfold scrH
    by_cases e : b = c ∨ b = d
    · rw [if_pos e, if_pos e]
    · rw [if_neg e, if_neg e]
      rw [happ_in l h h' b (by
        simp only [huM, List.mem_cons] at hb
        rcases hb with q | q | q
        · exact absurd (.inl q) e
        · exact absurd (.inr q) e
        · exact q)]
theorem happ_out : ∀ (hu : List HEnt) (h : Nat → Option Ob) (b : Nat), b ∉ huM hu → happ hu h b = (h b).map (Ob.scrubP (inL (huD hu)))
  | [], h, b, _ => by
    show h b = _
    rw [show inL (huD []) = fun _ => false from rfl]
    cases h b with
    | none => rfl
    | some o => rw [Option.map_some, Ob.scrubP_none]
  | .put c ob :: l, h, b, hb => by
    simp only [huM, List.mem_cons, not_or] at hb
    show upd (happ l h) c (some ob) b = _
    rw [upd_ne _ _ hb.1, happ_out l h b hb.2]
    rfl
  | .scr c d :: l, h, b, hb => by
    simp only [huM, List.mem_cons, not_or] at hb
    show scrH (happ l h) c d b = _
    unfold scrH
    rw [if_neg (by rintro (q | q); exact hb.1 q; exact hb.2.1 q), happ_out l h b hb.2.2, Option.map_map]
    congr 1
    funext o
    simp only [Function.comp]
    rw [Ob.scrub_eq, Ob.scrubP_scrubP]
    congr 1
    funext b'
    simp only [huD, inL, List.any_cons]
    exact Bool.or_comm _ _
theorem happ_names : ∀ (hu : List HEnt) (b : Nat) (o : Ob), happ hu (fun _ => none) b = some o → ∀ c ∈ o.names, c ∈ huV hu
  | [], b, o, h => by cases h
  | .put d ob :: l, b, o, h => by
    intro c hc
    have h' : upd (happ l (fun _ => none)) d (some ob) b = some o := h
    simp only [huV, List.mem_append]
    by_cases e : b = d
    · subst e; rw [upd_same] at h'; cases h'; exact .inl hc
    · rw [upd_ne _ _ e] at h'; exact .inr (happ_names l b o h' c hc)
  | .scr d d' :: l, b, o, h => by
    intro c hc
    obtain ⟨_, _, o0, h1, rfl⟩ := scrH_some (hp := happ l (fun _ => none)) h
    refine happ_names l b o0 h1 c ?_
    have key : ∀ cs : List Lf, c ∈ (cs.map (Lf.scrub d')).flatMap Lf.names → c ∈ cs.flatMap Lf.names := by
      intro cs hh
      obtain ⟨x, h2, h3⟩ := List.mem_flatMap.1 hh
      obtain ⟨y, h4, rfl⟩ := List.mem_map.1 h2
      refine List.mem_flatMap.2 ⟨y, h4, ?_⟩
      cases y with
      | p b off => simp only [Lf.scrub] at h3; cases hq : Nat.beq b d' <;> rw [hq] at h3 <;> first | exact h3 | cases h3
      | o b => simp only [Lf.scrub] at h3; cases hq : Nat.beq b d' <;> rw [hq] at h3 <;> first | exact h3 | cases h3
      | pe b i s k => simp only [Lf.scrub] at h3; cases hq : Nat.beq b d' <;> rw [hq] at h3 <;> first | exact h3 | cases h3
      | px b i s k => simp only [Lf.scrub] at h3; cases hq : Nat.beq b d' <;> rw [hq] at h3 <;> first | exact h3 | cases h3
      | fn f cc => simp only [Lf.scrub] at h3; cases hq : cc.any (fun b => Nat.beq b d') <;> rw [hq] at h3 <;> first | exact h3 | cases h3
      | _ => exact h3
    cases o0 with
    | box T cs => exact key cs hc
    | arr E n cs => exact key cs hc
    | row E t l => cases hc
    | rox E t l1 cs l2 => exact key cs hc

/-! ### what a set of operations has left -/
def slotF (D : Nat → Bool) (t : Nat) : List LE → Nat → AV → AV
  | [], _, x => x
  | e :: L, k, x => slotF D t L (k + 1) (bif D k && (e.dst == some t) then e.x else x)
def heapF (D : Nat → Bool) (b : Nat) : List LE → Nat → Option Ob → Option Ob
  | [], _, o => o
  | e :: L, k, o => heapF D b L (k + 1) (bif D k && inL (huM e.hu) b then happ e.hu (fun _ => none) b else o)
def nwF (D : Nat → Bool) (d : Nat) : List LE → Nat → Bool
  | [], _ => false
  | e :: L, k => (D k && inL e.nw d) || nwF D d L (k + 1)

def SD (L : List LE) (s : Nat → AV) (D : Nat → Bool) (t : Nat) : AV := slotF D t L 0 ((s t).scrubP fun d => nwF D d L 0)
def HD (L : List LE) (h : Nat → Option Ob) (D : Nat → Bool) (b : Nat) : Option Ob := heapF D b L 0 ((h b).map (Ob.scrubP fun d => nwF D d L 0))

theorem slotF_congr {D D' : Nat → Bool} {t : Nat} : ∀ (L : List LE) (k : Nat) (x : AV), (∀ j (e : LE), L[j]? = some e → e.dst = some t → D (k + j) = D' (k + j)) → slotF D t L k x = slotF D' t L k x
  | [], _, _, _ => rfl
  | e :: L, k, x, h => by
    have h0 : (bif D k && (e.dst == some t) then e.x else x) = (bif D' k && (e.dst == some t) then e.x else x) := by
      by_cases hd : e.dst = some t
      · have := h 0 e rfl hd
        rw [Nat.add_zero] at this
        rw [this]
      · have : (e.dst == some t) = false := by simpa using hd
        rw [this, Bool.and_false, Bool.and_false]
    unfold slotF
    rw [h0]
    exact slotF_congr L (k + 1) _ (fun j e' he hd => by
      have := h (j + 1) e' he hd
      rwa [show k + (j + 1) = k + 1 + j by omega] at this)
theorem heapF_congr {D D' : Nat → Bool} {b : Nat} : ∀ (L : List LE) (k : Nat) (x : Option Ob), (∀ j (e : LE), L[j]? = some e → b ∈ huM e.hu → D (k + j) = D' (k + j)) → heapF D b L k x = heapF D' b L k x
  | [], _, _, _ => rfl
  | e :: L, k, x, h => by
    have h0 : (bif D k && inL (huM e.hu) b then happ e.hu (fun _ => none) b else x) = (bif D' k && inL (huM e.hu) b then happ e.hu (fun _ => none) b else x) := by
      by_cases hd : b ∈ huM e.hu
      · have := h 0 e rfl hd
        rw [Nat.add_zero] at this
        rw [this]
      · rw [inL_false.2 hd, Bool.and_false, Bool.and_false]
    unfold heapF
    rw [h0]
    exact heapF_congr L (k + 1) _ (fun j e' he hd => by
      have := h (j + 1) e' he hd
      rwa [show k + (j + 1) = k + 1 + j by omega] at this)
theorem nwF_congr {D D' : Nat → Bool} {d : Nat} : ∀ (L : List LE) (k : Nat), (∀ j (e : LE), L[j]? = some e → d ∈ e.nw → D (k + j) = D' (k + j)) → nwF D d L k = nwF D' d L k
  | [], _, _ => rfl
  | e :: L, k, h => by
    have h0 : (D k && inL e.nw d) = (D' k && inL e.nw d) := by
      by_cases hd : d ∈ e.nw
      · have := h 0 e rfl hd
        rw [Nat.add_zero] at this
        rw [this]
      · rw [inL_false.2 hd, Bool.and_false, Bool.and_false]
    unfold nwF
    rw [h0, nwF_congr (D := D) (D' := D') L (k + 1) (fun j e' he hd => by
      have := h (j + 1) e' he hd
      rwa [show k + (j + 1) = k + 1 + j by omega] at this)]

/-- one more operation: in its slot its value, elsewhere what was there, scrubbed -/
theorem slotF_add {D : Nat → Bool} {t i : Nat} {P : Nat → Bool} {ei : LE} : ∀ (L : List LE) (k : Nat) (x x' : AV), L[i]? = some ei → D (k + i) = false →
    (∀ j (e : LE), L[j]? = some e → D (k + j) = true → e.dst = some t → e.x.scrubP P = e.x) → (∀ j (e : LE), L[j]? = some e → D (k + j) = true → i < j → ei.dst = some t → e.dst ≠ some t) → (ei.dst ≠ some t → x' = x.scrubP P) →
    slotF (upd D (k + i) true) t L k x' = bif ei.dst == some t then ei.x else (slotF D t L k x).scrubP P := by
  intro L
  induction L generalizing i with
  | nil => intro k x x' h; simp at h
  | cons e L ih =>
    intro k x x' hi hD hV hlast hx
    unfold slotF
    cases i with
    | zero =>
      simp only [List.getElem?_cons_zero, Option.some.injEq] at hi
      subst hi
      rw [Nat.add_zero] at hD ⊢
      rw [upd_same, Bool.true_and, hD, Bool.false_and, cond_false]
      have hcg : ∀ y, slotF (upd D k true) t L (k + 1) y = slotF D t L (k + 1) y := fun y => slotF_congr L (k + 1) y (fun j e' _ _ => upd_ne _ _ (by omega))
      rw [hcg]
      by_cases hd : e.dst = some t
      · have hb : (e.dst == some t) = true := by simpa using hd
        rw [hb, cond_true, cond_true]
        have key : ∀ (L' : List LE) (m : Nat) (y : AV), (∀ j (e' : LE), L'[j]? = some e' → D (m + j) = true → e'.dst ≠ some t) → slotF D t L' m y = y := by
          intro L'
          induction L' with
          | nil => intro m y _; rfl
          | cons e1 L' ih' =>
            intro m y hh
            unfold slotF
            have h0 : (D m && (e1.dst == some t)) = false := by
              cases hm : D m
              · rfl
              · have := hh 0 e1 rfl (by rw [Nat.add_zero]; exact hm)
                simpa using this
            rw [h0, cond_false]
            exact ih' (m + 1) y (fun j e' he hj => hh (j + 1) e' he (by rwa [show m + (j + 1) = m + 1 + j by omega]))
        exact key L (k + 1) _ (fun j e' he hj => hlast (j + 1) e' he (by rwa [show k + (j + 1) = k + 1 + j by omega]) (by omega) hd)
      · have hb : (e.dst == some t) = false := by simpa using hd
        rw [hb, cond_false, cond_false, hx hd]
        have key : ∀ (L' : List LE) (m : Nat) (y : AV), (∀ j (e' : LE), L'[j]? = some e' → D (m + j) = true → e'.dst = some t → e'.x.scrubP P = e'.x) → slotF D t L' m (y.scrubP P) = (slotF D t L' m y).scrubP P := by
          intro L'
          induction L' with
          | nil => intro m y _; rfl
          | cons e1 L' ih' =>
            intro m y hh
            unfold slotF
            have h0 : (bif D m && (e1.dst == some t) then e1.x else y.scrubP P) = (bif D m && (e1.dst == some t) then e1.x else y).scrubP P := by
              cases hm : (D m && (e1.dst == some t))
              · rfl
              · obtain ⟨q1, q2⟩ := Bool.and_eq_true_iff.1 hm
                exact (hh 0 e1 rfl (by rw [Nat.add_zero]; exact q1) (by simpa using q2)).symm
            rw [h0]
            exact ih' (m + 1) _ (fun j e' he hj => hh (j + 1) e' he (by rwa [show m + (j + 1) = m + 1 + j by omega]))
        exact key L (k + 1) x (fun j e' he hj => hV (j + 1) e' he (by rwa [show k + (j + 1) = k + 1 + j by omega]))
    | succ i =>
      have hk : upd D (k + (i + 1)) true k = D k := upd_ne _ _ (by omega)
      rw [hk, show k + (i + 1) = k + 1 + i by omega]
      refine ih (k + 1) _ _ (by simpa using hi) (by rwa [show k + 1 + i = k + (i + 1) by omega]) (fun j e' he hj => hV (j + 1) e' he (by rwa [show k + (j + 1) = k + 1 + j by omega]))
        (fun j e' he hj hij => hlast (j + 1) e' he (by rwa [show k + (j + 1) = k + 1 + j by omega]) (by omega)) (fun hd => ?_)
      cases hm : (D k && (e.dst == some t))
      · exact hx hd
      · obtain ⟨q1, q2⟩ := Bool.and_eq_true_iff.1 hm
        exact (hV 0 e rfl (by rw [Nat.add_zero]; exact q1) (by simpa using q2)).symm

theorem heapF_add {D : Nat → Bool} {b i : Nat} {P : Nat → Bool} {ei : LE} : ∀ (L : List LE) (k : Nat) (x x' : Option Ob), L[i]? = some ei → D (k + i) = false →
    (∀ j (e : LE), L[j]? = some e → D (k + j) = true → b ∈ huM e.hu → (happ e.hu (fun _ => none) b).map (Ob.scrubP P) = happ e.hu (fun _ => none) b) → (∀ j (e : LE), L[j]? = some e → D (k + j) = true → i < j → b ∈ huM ei.hu → b ∉ huM e.hu) → (b ∉ huM ei.hu → x' = x.map (Ob.scrubP P)) →
    heapF (upd D (k + i) true) b L k x' = bif inL (huM ei.hu) b then happ ei.hu (fun _ => none) b else (heapF D b L k x).map (Ob.scrubP P) := by
  intro L
  induction L generalizing i with
  | nil => intro k x x' h; simp at h
  | cons e L ih =>
    intro k x x' hi hD hV hlast hx
    unfold heapF
    cases i with
    | zero =>
      simp only [List.getElem?_cons_zero, Option.some.injEq] at hi
      subst hi
      rw [Nat.add_zero] at hD ⊢
      rw [upd_same, Bool.true_and, hD, Bool.false_and, cond_false]
      have hcg : ∀ y, heapF (upd D k true) b L (k + 1) y = heapF D b L (k + 1) y := fun y => heapF_congr L (k + 1) y (fun j e' _ _ => upd_ne _ _ (by omega))
      rw [hcg]
      by_cases hd : b ∈ huM e.hu
      · rw [inL_iff.2 hd, cond_true, cond_true]
        have key : ∀ (L' : List LE) (m : Nat) (y : Option Ob), (∀ j (e' : LE), L'[j]? = some e' → D (m + j) = true → b ∉ huM e'.hu) → heapF D b L' m y = y := by
          intro L'
          induction L' with
          | nil => intro m y _; rfl
          | cons e1 L' ih' =>
            intro m y hh
            unfold heapF
            have h0 : (D m && inL (huM e1.hu) b) = false := by
              cases hm : D m
              · rfl
              · rw [Bool.true_and]; exact inL_false.2 (hh 0 e1 rfl (by rw [Nat.add_zero]; exact hm))
            rw [h0, cond_false]
            exact ih' (m + 1) y (fun j e' he hj => hh (j + 1) e' he (by rwa [show m + (j + 1) = m + 1 + j by omega]))
        exact key L (k + 1) _ (fun j e' he hj => hlast (j + 1) e' he (by rwa [show k + (j + 1) = k + 1 + j by omega]) (by omega) hd)
      · rw [inL_false.2 hd, cond_false, cond_false, hx hd]
        have key : ∀ (L' : List LE) (m : Nat) (y : Option Ob), (∀ j (e' : LE), L'[j]? = some e' → D (m + j) = true → b ∈ huM e'.hu → (happ e'.hu (fun _ => none) b).map (Ob.scrubP P) = happ e'.hu (fun _ => none) b) → heapF D b L' m (y.map (Ob.scrubP P)) = (heapF D b L' m y).map (Ob.scrubP P) := by
          intro L'
          induction L' with
          | nil => intro m y _; rfl
          | cons e1 L' ih' =>
            intro m y hh
            unfold heapF
            have h0 : (bif D m && inL (huM e1.hu) b then happ e1.hu (fun _ => none) b else y.map (Ob.scrubP P)) = (bif D m && inL (huM e1.hu) b then happ e1.hu (fun _ => none) b else y).map (Ob.scrubP P) := by
              cases hm : (D m && inL (huM e1.hu) b)
              · rfl
              · obtain ⟨q1, q2⟩ := Bool.and_eq_true_iff.1 hm
                exact (hh 0 e1 rfl (by rw [Nat.add_zero]; exact q1) (inL_iff.1 q2)).symm
            rw [h0]
            exact ih' (m + 1) _ (fun j e' he hj => hh (j + 1) e' he (by rwa [show m + (j + 1) = m + 1 + j by omega]))
        exact key L (k + 1) x (fun j e' he hj => hV (j + 1) e' he (by rwa [show k + (j + 1) = k + 1 + j by omega]))
    | succ i =>
      have hk : upd D (k + (i + 1)) true k = D k := upd_ne _ _ (by omega)
      rw [hk, show k + (i + 1) = k + 1 + i by omega]
      refine ih (k + 1) _ _ (by simpa using hi) (by rwa [show k + 1 + i = k + (i + 1) by omega]) (fun j e' he hj => hV (j + 1) e' he (by rwa [show k + (j + 1) = k + 1 + j by omega]))
        (fun j e' he hj hij => hlast (j + 1) e' he (by rwa [show k + (j + 1) = k + 1 + j by omega]) (by omega)) (fun hd => ?_)
      cases hm : (D k && inL (huM e.hu) b)
      · exact hx hd
      · obtain ⟨q1, q2⟩ := Bool.and_eq_true_iff.1 hm
        exact (hV 0 e rfl (by rw [Nat.add_zero]; exact q1) (inL_iff.1 q2)).symm
theorem nwF_add {D : Nat → Bool} {d i : Nat} {ei : LE} : ∀ (L : List LE) (k : Nat), L[i]? = some ei → nwF (upd D (k + i) true) d L k = (nwF D d L k || inL ei.nw d) := by
  intro L
  induction L generalizing i with
  | nil => intro k h; simp at h
  | cons e L ih =>
    intro k hi
    unfold nwF
    cases i with
    | zero =>
      simp only [List.getElem?_cons_zero, Option.some.injEq] at hi
      subst hi
      rw [Nat.add_zero, upd_same, Bool.true_and, nwF_congr (D := upd D k true) (D' := D) L (k + 1) (fun j e' _ _ => upd_ne _ _ (by omega))]
      cases inL e.nw d <;> cases D k <;> cases nwF D d L (k + 1) <;> rfl
    | succ i =>
      have hk : upd D (k + (i + 1)) true k = D k := upd_ne _ _ (by omega)
      rw [hk, show k + (i + 1) = k + 1 + i by omega, ih (k + 1) (by simpa using hi)]
      rw [Bool.or_assoc]
end Go.Proofs.Ytdpcbffmmndhcaa
