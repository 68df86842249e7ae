/- Sx, part Q: a step looks at its operands alone; drawn regions. -/
import Derived.Test.YtdpcbffmmndhcaaSxO
namespace Go.Proofs.Ytdpcbffmmndhcaa
open Go.RowKit

def SpLoc (s : SpecF) : Prop := ∀ d args hp hp', (∀ b ∈ args.flatMap AV.names, hp' b = hp b) → s d args hp' = s d args hp

theorem one_names {x : AV} {l : Lf} (h : x.one = some l) : l.names = x.names := by
  rw [AV.one_eq h]; simp [AV.names]

theorem cLoad_local {i : TI} {hp hp' : Nat → Option Ob} {l : Lf} (h : ∀ b ∈ l.names, hp' b = hp b) : cLoad i hp' l = cLoad i hp l := by
  cases l with
  | p b off => simp only [cLoad, h b (by simp [Lf.names])]
  | o b => rfl
  | pe b n s k => simp only [cLoad, h b (by simp [Lf.names])]
  | px b n s k => simp only [cLoad, h b (by simp [Lf.names])]
  | _ => rfl
theorem cStore_local {i : TI} {hp hp' : Nat → Option Ob} {y : AV} {l : Lf} (h : ∀ b ∈ l.names, hp' b = hp b) : cStore i hp' y l = cStore i hp y l := by
  cases l with
  | p b off => simp only [cStore, h b (by simp [Lf.names])]
  | o b => rfl
  | pe b n s k => simp only [cStore, h b (by simp [Lf.names])]
  | px b n s k => simp only [cStore, h b (by simp [Lf.names])]
  | _ => rfl
theorem cIndexAddr_local {cl : Bool} {i : TI} {n : Nat} {hp hp' : Nat → Option Ob} {ix : Lf} {l : Lf} (h : ∀ b ∈ l.names, hp' b = hp b) : cIndexAddr cl i n hp' ix l = cIndexAddr cl i n hp ix l := by
  cases l with
  | p b off => simp only [cIndexAddr]
  | o b => simp only [cIndexAddr, h b (by simp [Lf.names])]
  | pe b n s k => simp only [cIndexAddr]
  | d t x => cases t <;> simp only [cIndexAddr]
  | dp t x => cases t <;> simp only [cIndexAddr]
  | _ => simp only [cIndexAddr]
theorem asList_local {t : Ty} {hp hp' : Nat → Option Ob} {l : Lf} (h : ∀ b ∈ l.names, hp' b = hp b) : asList hp' t l = asList hp t l := by
  cases l with
  | p b off => rfl
  | o b => simp only [asList, h b (by simp [Lf.names])]
  | pe b n s k => rfl
  | _ => rfl
theorem ownOf_local {t : Ty} {d : Nat} {hp hp' : Nat → Option Ob} {l : Lf} (h : ∀ b ∈ l.names, hp' b = hp b) : ownOf hp' t d l = ownOf hp t d l := by
  cases l with
  | p b off => rfl
  | o b => simp only [ownOf, h b (by simp [Lf.names])]
  | pe b n s k => rfl
  | _ => rfl
theorem openE_local {t : Ty} {hp hp' : Nat → Option Ob} {l : Lf} (h : ∀ b ∈ l.names, hp' b = hp b) : openE hp' t l = openE hp t l := by
  cases l with
  | o b => simp only [openE, h b (by simp [Lf.names])]
  | _ => rfl
theorem capN_local {ev ev' : Operand → AV} : ∀ {xs : List Operand}, (∀ x ∈ xs, ev' x = ev x) → capN ev' xs = capN ev xs
  | [], _ => rfl
  | x :: xs, h => by
    unfold capN
    rw [h x (by simp), capN_local (fun y hy => h y (by simp [hy]))]
theorem rowE_local {E : TypeId} {hp hp' : Nat → Option Ob} {l : Lf} (h : ∀ b ∈ l.names, hp' b = hp b) : rowE hp' l E = rowE hp l E := by
  cases l <;> first | rfl | (rename_i b; simp only [rowE, h b (by simp [Lf.names])])
theorem cLen_local {i : TI} {hp hp' : Nat → Option Ob} {x : AV} (h : ∀ b ∈ x.names, hp' b = hp b) : cLen i hp' x = cLen i hp x := by
  unfold cLen
  split
  · rfl
  · split
    · rename_i hone; simp only [hone]
    · rename_i hone; simp only [hone]
    · rename_i b hone
      simp only [hone, h b (by rw [← one_names hone]; simp [Lf.names])]
    · rfl
  · rfl
  · rfl

theorem stepA_local {E : Env} (hs : ∀ f s, E.sp f = some s → SpLoc s) {o : Oper} {d : Nat} {ev ev' : Operand → AV} {hp hp' : Nat → Option Ob}
    (h1 : ∀ x ∈ o.op.operands.toList, ev' x = ev x) (h2 : ∀ x ∈ o.op.operands.toList, ∀ b ∈ (ev x).names, hp' b = hp b) : stepA E o d ev' hp' = stepA E o d ev hp := by
  have hn : ∀ x ∈ o.op.operands.toList, ∀ l, (ev x).one = some l → ∀ b ∈ l.names, hp' b = hp b := fun x hx l hl b hb => h2 x hx b (by rw [← one_names hl]; exact hb)
  unfold stepA
  cases ho : o.op with
  | move x => rw [ho] at h1; simp only [h1 x (by simp [Op.operands])]
  | assign x => rw [ho] at h1; simp only [h1 x (by simp [Op.operands])]
  | pick c x y => rw [ho] at h1; simp only [h1 c (by simp [Op.operands]), h1 x (by simp [Op.operands]), h1 y (by simp [Op.operands])]
  | nilCheck x => rw [ho] at h1; simp only [h1 x (by simp [Op.operands])]
  | fieldAddr s x f => rw [ho] at h1; simp only [h1 x (by simp [Op.operands])]
  | load t x =>
    rw [ho] at h1 hn
    simp only [h1 x (by simp [Op.operands])]
    cases hl : (ev x).one with
    | none => cases E.tl t <;> rfl
    | some l =>
      cases E.tl t with
      | none => rfl
      | some i => simp only [cLoad_local (i := i) (hn x (by simp [Op.operands]) l hl)]
  | store t x y =>
    rw [ho] at h1 hn
    simp only [h1 x (by simp [Op.operands]), h1 y (by simp [Op.operands])]
    cases hl : (ev x).one with
    | none => cases E.tl t <;> rfl
    | some l =>
      cases E.tl t with
      | none => rfl
      | some i => simp only [cStore_local (i := i) (y := ev y) (hn x (by simp [Op.operands]) l hl)]
  | alloc T => rfl
  | box T x => rw [ho] at h1; simp only [h1 x (by simp [Op.operands])]
  | build T ps =>
    rw [ho] at h1
    have : (ps.toList.map fun p => (p.1, ev' p.2)) = ps.toList.map fun p => (p.1, ev p.2) := List.map_congr_left fun p hp => by rw [h1 p.2 (by simp only [Op.operands]; exact List.mem_map.2 ⟨p, hp, rfl⟩)]
    simp only [this]
  | buildSlice T n ps =>
    rw [ho] at h1
    have : (ps.toList.map fun p => (p.1, ev' p.2)) = ps.toList.map fun p => (p.1, ev p.2) := List.map_congr_left fun p hp => by rw [h1 p.2 (by simp only [Op.operands]; exact List.mem_map.2 ⟨p, hp, rfl⟩)]
    simp only [this]
  | makeSlice T x y => rw [ho] at h1; simp only [h1 x (by simp [Op.operands]), h1 y (by simp [Op.operands])]
  | binOp op t x y u => rw [ho] at h1; simp only [h1 x (by simp [Op.operands]), h1 y (by simp [Op.operands])]
  | unOp op t x => rw [ho] at h1; simp only [h1 x (by simp [Op.operands])]
  | indexAddr T x y =>
    rw [ho] at h1 hn h2
    simp only [h1 x (by simp [Op.operands]), h1 y (by simp [Op.operands])]
    cases hl : (ev x).one with
    | none => cases E.tl T <;> rfl
    | some l =>
      cases hy : (ev y).one with
      | none => cases E.tl T <;> rfl
      | some ly =>
        cases E.tl T with
        | none => rfl
        | some i =>
          have hq := hn x (by simp [Op.operands]) l hl
          have hc : ∀ c n, cIndexAddr c i n hp' ly l = cIndexAddr c i n hp ly l := fun c n => cIndexAddr_local hq
          cases l with
          | o b => simp only [hc, hq b (by simp [Lf.names])]
          | d t x => cases t <;> simp only [hc]
          | _ => simp only [hc]
  | index T x y => rw [ho] at h1; simp only [h1 x (by simp [Op.operands]), h1 y (by simp [Op.operands])]
  | slice T x lo hi mx =>
    rw [ho] at h1
    cases mx with
    | some _ => rfl
    | none =>
      have e1 : cOpt ev' lo = cOpt ev lo := by
        cases lo with
        | none => rfl
        | some y => simp only [cOpt, h1 y (by simp [Op.operands])]
      have e2 : cOpt ev' hi = cOpt ev hi := by
        cases hi with
        | none => rfl
        | some y => simp only [cOpt, h1 y (by simp [Op.operands])]
      simp only [h1 x (by simp [Op.operands]), e1, e2]
  | field s x f => rw [ho] at h1; simp only [h1 x (by simp [Op.operands])]
  | extract x k => rw [ho] at h1; simp only [h1 x (by simp [Op.operands])]
  | call c =>
    rw [ho] at h1 hn h2
    obtain ⟨cal, args, ts⟩ := c
    cases cal with
    | invoke r m => rfl
    | builtin b =>
      have ha : ∀ x ∈ args.toList, ev' x = ev x := fun x hx => h1 x (by simp [Op.operands, Call.operands]; simpa using hx)
      have hb : ∀ x ∈ args.toList, ∀ c ∈ (ev x).names, hp' c = hp c := fun x hx => h2 x (by simp [Op.operands, Call.operands]; simpa using hx)
      cases b with
      | len =>
        dsimp only
        cases hargs : args.toList with
        | nil => rfl
        | cons x r =>
          cases r with
          | cons y r => rfl
          | nil =>
            cases hts : ts.toList with
            | nil => rfl
            | cons T r => cases r with
              | cons _ _ => rfl
              | nil =>
                have e1 := ha x (by rw [hargs]; simp)
                have h3 : ∀ i, cLen i hp' (ev x) = cLen i hp (ev x) := fun i => cLen_local (hb x (by rw [hargs]; simp))
                dsimp only
                simp only [e1, h3]
      | max =>
        dsimp only
        cases hargs : args.toList with
        | nil => rfl
        | cons s r =>
          cases r with
          | nil => rfl
          | cons x r =>
            cases r with
            | cons y r => rfl
            | nil =>
              dsimp only
              have e1 := ha s (by rw [hargs]; simp)
              have e2 := ha x (by rw [hargs]; simp)
              simp only [e1, e2]
      | min =>
        dsimp only
        cases hargs : args.toList with
        | nil => rfl
        | cons s r =>
          cases r with
          | nil => rfl
          | cons x r =>
            cases r with
            | cons y r => rfl
            | nil =>
              dsimp only
              have e1 := ha s (by rw [hargs]; simp)
              have e2 := ha x (by rw [hargs]; simp)
              simp only [e1, e2]
      | append =>
        dsimp only
        cases hargs : args.toList with
        | nil => rfl
        | cons s r =>
          cases r with
          | nil => rfl
          | cons x r =>
            cases r with
            | cons y r => rfl
            | nil =>
              cases hts : ts.toList with
              | nil => rfl
              | cons T r => cases r with
                | nil => rfl
                | cons T' r => cases r with
                  | cons _ _ => rfl
                  | nil =>
                    dsimp only
                    have e1 := ha s (by rw [hargs]; simp)
                    have e2 := ha x (by rw [hargs]; simp)
                    simp only [e1, e2]
                    cases hbq : Nat.beq T T'
                    · rfl
                    · skip
                      cases hs1 : (ev s).one with
                      | none => cases E.tl T <;> rfl
                      | some a =>
                        cases hx1 : (ev x).one with
                        | none => cases E.tl T <;> rfl
                        | some c =>
                          have q1 : ∀ b ∈ a.names, hp' b = hp b := fun b hbb => hb s (by rw [hargs]; simp) b (by rw [← one_names hs1]; exact hbb)
                          have q2 : ∀ b ∈ c.names, hp' b = hp b := fun b hbb => hb x (by rw [hargs]; simp) b (by rw [← one_names hx1]; exact hbb)
                          have m1 : ∀ t, ownOf hp' t d a = ownOf hp t d a := fun t => ownOf_local q1
                          have m2 : ∀ e, rowE hp' a e = rowE hp a e := fun e => rowE_local q1
                          have m3 : ∀ t, asList hp' t c = asList hp t c := fun t => asList_local q2
                          have m4 : ∀ t, openE hp' t c = openE hp t c := fun t => openE_local q2
                          first | (simp only [m1, m2, m3, m4]; done) | (cases E.tl T <;> simp only [m1, m2, m3, m4])
      | _ => rfl
    | value g =>
      have hg := h1 g (by simp [Op.operands, Call.operands])
      have hg2 := h2 g (by simp [Op.operands, Call.operands])
      have ha : args.toList.map ev' = args.toList.map ev := List.map_congr_left fun x hx => h1 x (by simp [Op.operands, Call.operands]; exact .inr (by simpa using hx))
      have hb : ∀ x ∈ args.toList, ∀ c ∈ (ev x).names, hp' c = hp c := fun x hx => h2 x (by simp [Op.operands, Call.operands]; exact .inr (by simpa using hx))
      have hc : callee ev' g = callee ev g := by simp only [callee, hg]
      simp only [hc, ha]
      cases hcal : callee ev g with
      | none => rfl
      | some fc =>
        obtain ⟨f, cs⟩ := fc
        cases hsp : E.sp f with
        | none => simp only [hsp]
        | some s =>
          simp only [hsp]
          refine hs f s hsp d _ hp hp' fun b hbm => ?_
          rw [List.flatMap_append, List.mem_append] at hbm
          rcases hbm with hbm | hbm
          · obtain ⟨x, hx, hxb⟩ := List.mem_flatMap.1 hbm
            obtain ⟨y, hy, rfl⟩ := List.mem_map.1 hx
            exact hb y hy b hxb
          · unfold callee at hcal
            split at hcal
            · rename_i f' c hone
              cases hcal
              obtain ⟨x, hx, hxb⟩ := List.mem_flatMap.1 hbm
              obtain ⟨y, hy, rfl⟩ := List.mem_map.1 hx
              have : b = y := by simpa [AV.names, Lf.names] using hxb
              subst this
              exact hg2 b (by rw [← one_names hone]; exact hy)
            · cases hcal
  | makeFunc fn first captured =>
    rw [ho] at h1
    cases fn with
    | func f =>
      dsimp only
      rw [capN_local (ev := ev) (ev' := ev') fun x hx => h1 x (by simp [Op.operands]; exact .inr (by simpa using hx))]
    | _ => rfl
  | _ => rfl

theorem Does.local {E : Env} (hs : ∀ f s, E.sp f = some s → SpLoc s) {n : Nat} {ops : Array Oper} {o : Oper} {s s' : Nat → AV} {h h' : Nat → Option Ob} {e : LE} (hd : Does E n ops o s h e) (h1 : ∀ t ∈ e.R, s' t = s t) (h2 : ∀ b ∈ e.N, h' b = h b) : Does E n ops o s' h' e := by
  obtain ⟨q1, q2, q3, q4, q5⟩ := hd
  have hev : ∀ x ∈ o.op.operands.toList, evA s' x = evA s x := by
    intro x hx
    cases x with
    | tmp t =>
      have : s' t = s t := by
       refine h1 t ?_
       rw [q3]
       refine List.mem_append.2 (.inl (List.mem_filterMap.2 ⟨.tmp t, hx, rfl⟩))
      show sg s' t = sg s t
      unfold sg
      rw [this]
    | _ => rfl
  have hmap : o.op.operands.toList.map (evA s') = o.op.operands.toList.map (evA s) := List.map_congr_left hev
  have hg : gstat ops o s' = gstat ops o s := by
    unfold gstat
    cases hgd : o.guard with
    | none => rfl
    | some jw =>
      obtain ⟨j, want⟩ := jw
      cases hj : (ops[j]?).bind (·.dst) with
      | none => simp only [hj]
      | some t =>
        have : s' t = s t := h1 t (by rw [q3]; refine List.mem_append.2 (.inr ?_); simp only [gslot, hgd, hj]; simp)
        simp only [hj, sg, this]
  have hst : stepA E o (E.nb + o.dst.getD 0) (evA s') h' = stepA E o (E.nb + o.dst.getD 0) (evA s) h := stepA_local hs hev fun x hx b hb => h2 b (by rw [q4]; exact List.mem_flatMap.2 ⟨evA s x, List.mem_map.2 ⟨x, hx, rfl⟩, hb⟩)
  exact ⟨q1, q2, q3, by rw [hmap]; exact q4, by rw [hg, hst]; exact q5⟩

/-- the operations that have come up -/
def lD (listed : Array Bool) : Nat → Bool := fun i => (listed[i]?).getD false

theorem count_set : ∀ (l : List Bool) (i : Nat), l[i]? = some false → (l.set i true).count false + 1 = l.count false
  | b :: l, 0, h => by simp at h; subst h; simp
  | b :: l, i + 1, h => by
    have := count_set l i (by simpa using h)
    rw [List.set_cons_succ, List.count_cons, List.count_cons]
    omega

theorem drawn_any {P : Program} {E : Env} (hE : E.Ok P) (hs : ∀ f s, E.sp f = some s → SpLoc s) {n : Nat} {ops : Array Oper} {s0 sN : Nat → AV} {h0 hN : Nat → Option Ob} {L : List LE} {B : List (List Nat)} (hc : Chain E n ops ops.toList L s0 h0 sN hN) (hB : niOk ops s0 h0 L B = true)
    {F : Fr} {Q : Exit → Act → World → Prop} (hQ : ∀ G a w, Rep F n sN hN G a w → Q .normal a w) :
    ∀ (fuel : Nat) (listed : Array Bool) (G : Gh) (a : Act) (w : World), listed.size = ops.size → listed.toList.count false ≤ fuel → (∀ i, lD listed i = true → ∀ j, inB B i j = true → lD listed j = true) →
      Rep F n (SD L s0 (lD listed)) (HD L h0 (lD listed)) G a w → wpAny P .any ops Q fuel listed a w := by
  have hlen : ops.toList.length = L.length := by
    have : ∀ (l : List Oper) (es : List LE) (s : Nat → AV) (h : Nat → Option Ob), Chain E n ops l es s h sN hN → l.length = es.length := by
      intro l
      induction l with
      | nil => intro es s h hh; cases es with
        | nil => rfl
        | cons e es => exact hh.elim
      | cons o l ih => intro es s h hh; cases es with
        | nil => exact hh.elim
        | cons e es => simp [ih es _ _ hh.2]
    exact this _ _ _ _ hc
  have hlen' : L.length = ops.size := by rw [← hlen, Array.length_toList]
  have hNi := niOk_spec hlen' hB
  have hz : ltD 0 = fun _ => false := by
    funext j
    unfold ltD
    rw [Bool.eq_false_iff]
    intro hh
    have := Nat.le_of_ble_eq_true hh
    omega
  obtain ⟨e1, e2, _, hdoes⟩ := Chain.states hNi ops.toList L 0 (fun j => by rw [Nat.zero_add]) (by rw [hz, SD_none, HD_none]; exact hc)
  rw [Nat.zero_add] at e1 e2
  have hall : ∀ (listed : Array Bool), listed.size = ops.size → Region.ready .any ops listed = [] → (SD L s0 (lD listed) = sN ∧ HD L h0 (lD listed) = hN) := by
    intro listed hsz hr
    have hD : ∀ i, i < ops.size → lD listed i = true := by
      intro i
      induction i using Nat.strongRecOn with
      | _ i ih =>
        intro hi
        cases hl : lD listed i
        · exfalso
          have ho : ops[i]? = some ops[i] := Array.getElem?_eq_getElem hi
          have hmem : i ∈ Region.ready .any ops listed := by
            rw [mem_ready]
            refine ⟨?_, ops[i], ho, fun e he hb => ?_⟩
            · unfold lD at hl
              rw [Array.getD_eq_getD_getElem?]
              have : i < listed.size := by rw [hsz]; exact hi
              rw [Array.getElem?_eq_getElem this] at hl ⊢
              exact hl
            · have hdir : e.on ∈ dirs ops[i] := List.mem_map.2 ⟨e, List.mem_filter.2 ⟨by simpa using he, hb⟩, rfl⟩
              have hlt := hNi.dir i _ ho _ hdir
              have := ih e.on hlt (Nat.lt_trans hlt hi)
              unfold lD at this
              rw [Array.getD_eq_getD_getElem?]
              exact this
          rw [hr] at hmem
          cases hmem
        · rfl
    constructor
    · rw [e1]
      funext t
      unfold SD
      have hn : (fun d => nwF (lD listed) d L 0) = fun d => nwF (ltD L.length) d L 0 := by
        funext d
        refine nwF_congr L 0 fun j e he _ => ?_
        have hj := (List.getElem?_eq_some_iff.1 he).1
        rw [Nat.zero_add, hD j (by omega)]
        exact (Nat.ble_eq_true_of_le hj).symm
      rw [hn]
      refine slotF_congr L 0 _ fun j e he _ => ?_
      have hj := (List.getElem?_eq_some_iff.1 he).1
      rw [Nat.zero_add, hD j (by omega)]
      exact (Nat.ble_eq_true_of_le hj).symm
    · rw [e2]
      funext t
      unfold HD
      have hn : (fun d => nwF (lD listed) d L 0) = fun d => nwF (ltD L.length) d L 0 := by
        funext d
        refine nwF_congr L 0 fun j e he _ => ?_
        have hj := (List.getElem?_eq_some_iff.1 he).1
        rw [Nat.zero_add, hD j (by omega)]
        exact (Nat.ble_eq_true_of_le hj).symm
      rw [hn]
      refine heapF_congr L 0 _ fun j e he _ => ?_
      have hj := (List.getElem?_eq_some_iff.1 he).1
      rw [Nat.zero_add, hD j (by omega)]
      exact (Nat.ble_eq_true_of_le hj).symm
  intro fuel
  induction fuel with
  | zero =>
    intro listed G a w hsz hcnt hcl hrep
    have hr : Region.ready .any ops listed = [] := by
      rw [List.eq_nil_iff_forall_not_mem]
      intro i hi
      obtain ⟨h1, o, ho, _⟩ := mem_ready.1 hi
      have hlt : i < listed.size := by rw [hsz]; exact (Array.getElem?_eq_some_iff.1 ho).1
      rw [Array.getD_eq_getD_getElem?, Array.getElem?_eq_getElem hlt] at h1
      have : false ∈ listed.toList := by
        have h2 : listed[i] = false := h1
        rw [← h2]
        exact Array.getElem_mem_toList hlt
      have := List.count_pos_iff.2 this
      omega
    obtain ⟨q1, q2⟩ := hall listed hsz hr
    rw [q1, q2] at hrep
    exact ⟨hr, hQ G a w hrep⟩
  | succ fuel ih =>
    intro listed G a w hsz hcnt hcl hrep
    refine ⟨fun hr => ?_, fun i hi => ?_⟩
    · obtain ⟨q1, q2⟩ := hall listed hsz hr
      rw [q1, q2] at hrep
      exact hQ G a w hrep
    · obtain ⟨h1, o, ho, hdeps⟩ := mem_ready.1 hi
      have hio := (Array.getElem?_eq_some_iff.1 ho).1
      have hlt : i < listed.size := by rw [hsz]; exact hio
      have hfalse : listed[i]? = some false := by
        rw [Array.getD_eq_getD_getElem?, Array.getElem?_eq_getElem hlt] at h1
        rw [Array.getElem?_eq_getElem hlt]
        have h2 : listed[i] = false := h1
        rw [h2]
      have hDi : lD listed i = false := by unfold lD; rw [hfalse]; rfl
      have hLi : i < L.length := by omega
      have he : L[i]? = some L[i] := List.getElem?_eq_getElem hLi
      generalize L[i] = e at he
      have hdo := hdoes i o e (by simpa using ho) (by rw [List.getElem?_eq_getElem hLi] at he; rw [List.getElem?_eq_getElem hLi]; exact he)
      rw [Nat.zero_add] at hdo
      have hdir : ∀ j ∈ dirs o, lD listed j = true := by
        intro j hj
        obtain ⟨e', he', rfl⟩ := List.mem_map.1 hj
        obtain ⟨q1, q2⟩ := List.mem_filter.1 he'
        have := hdeps e' (by simpa using q1) q2
        rw [Array.getD_eq_getD_getElem?] at this
        exact this
      have hbi : ∀ j, inB B i j = true → lD listed j = true := by
        intro j hj
        rcases hNi.bef i o j ho hj with q | ⟨m, q1, q2⟩
        · exact hdir j q
        · exact hcl m (hdir m q1) j q2
      -- an operation on which the two sets part is apart from this one
      have hpart : ∀ j (f : LE), L[j]? = some f → j ≠ i → (lD listed j = true ∧ i < j ∨ lD listed j = false ∧ j < i) → Apart s0 h0 f e ∧ Apart s0 h0 e f := by
        intro j f hf hji hcase
        rcases hcase with ⟨k1, k2⟩ | ⟨k1, k2⟩
        · have hnb : inB B j i = false := by
            cases hb : inB B j i
            · rfl
            · have := hcl j k1 i hb; rw [hDi] at this; cases this
          obtain ⟨m1, m2⟩ := hNi.un i j e f k2 he hf hnb
          exact ⟨apart_spec m2, apart_spec m1⟩
        · have hnb : inB B i j = false := by
            cases hb : inB B i j
            · rfl
            · have := hbi j hb; rw [k1] at this; cases this
          obtain ⟨m1, m2⟩ := hNi.un j i f e k2 hf he hnb
          exact ⟨apart_spec m1, apart_spec m2⟩
      have hcase : ∀ j, j ≠ i → lD listed j = ltD i j ∨ (lD listed j = true ∧ i < j ∨ lD listed j = false ∧ j < i) := by
        intro j hj
        unfold ltD
        rcases Nat.lt_or_ge j i with q | q
        · cases hl : lD listed j
          · exact .inr (.inr ⟨rfl, q⟩)
          · exact .inl (Nat.ble_eq_true_of_le q).symm
        · cases hl : lD listed j
          · refine .inl ?_
            symm
            rw [Bool.eq_false_iff]
            intro hh
            have := Nat.le_of_ble_eq_true hh
            omega
          · exact .inr (.inl ⟨rfl, by omega⟩)
      have hltii : ltD i i = false := by
        unfold ltD
        rw [Bool.eq_false_iff]
        intro hh
        have := Nat.le_of_ble_eq_true hh
        omega
      have hsame : ∀ j (f : LE), L[j]? = some f → (Apart s0 h0 f e → False) → lD listed j = ltD i j := by
        intro j f hf hna
        by_cases hji : j = i
        · subst hji; rw [hDi, hltii]
        · rcases hcase j hji with q | q
          · exact q
          · exact (hna (hpart j f hf hji q).1).elim
      have hslot : ∀ t ∈ e.R, SD L s0 (lD listed) t = SD L s0 (ltD i) t := by
        intro t ht
        unfold SD
        rw [slotF_congr (D := lD listed) (D' := ltD i) L 0 _ fun j f hf hd => by
          rw [Nat.zero_add]
          exact hsame j f hf fun hap => (hap.d t hd).1 ht]
        congr 1
        refine AV.scrubP_same fun c hcn => ?_
        refine nwF_congr L 0 fun j f hf hcf => ?_
        rw [Nat.zero_add]
        exact hsame j f hf fun hap => hap.s c hcf t ht hcn
      have hheap : ∀ b ∈ e.N, HD L h0 (lD listed) b = HD L h0 (ltD i) b := by
        intro b hb
        unfold HD
        rw [heapF_congr (D := lD listed) (D' := ltD i) L 0 _ fun j f hf hd => by
          rw [Nat.zero_add]
          exact hsame j f hf fun hap => hap.mn b hd hb]
        congr 1
        cases hh : h0 b with
        | none => rfl
        | some ob =>
          rw [Option.map_some, Option.map_some]
          congr 1
          refine Ob.scrubP_same fun c hcn => ?_
          refine nwF_congr L 0 fun j f hf hcf => ?_
          rw [Nat.zero_add]
          exact hsame j f hf fun hap => hap.h c hcf b hb (by rw [hh]; exact hcn)
      have hdo' := hdo.local hs hslot hheap
      have hadd := SD_add (s := s0) (h := h0) he hDi (hNi.hu e (List.mem_of_getElem? he)) (fun j f hf hj x hx hxv => by
        have hji : j ≠ i := fun q => by subst q; rw [hDi] at hj; cases hj
        rcases Nat.lt_or_ge j i with q | q
        · exact hNi.ord j i f e q hf he x hx hxv
        · exact ((hpart j f hf hji (.inl ⟨hj, by omega⟩)).2.nv x hx).1 hxv) (fun j f hf hj hij => by
        have hap := (hpart j f hf (by omega) (.inl ⟨hj, hij⟩)).2
        exact ⟨fun t ht => (hap.d t ht).2, hap.mm⟩)
      have hset : lD (listed.setIfInBounds i true) = upd (lD listed) i true := by
        funext j
        unfold lD
        by_cases hj : j = i
        · subst hj; rw [upd_same, Array.getElem?_setIfInBounds_self_of_lt hlt]; rfl
        · rw [upd_ne _ _ hj, Array.getElem?_setIfInBounds_ne (Ne.symm hj)]
      unfold wpOp
      simp only [ho]
      refine hdo'.run hE hrep fun G' a' w' hrep' => ?_
      refine ih _ G' a' w' (by rw [Array.size_setIfInBounds]; exact hsz) ?_ ?_ ?_
      · rw [Array.toList_setIfInBounds]
        have := count_set listed.toList i (by rw [Array.getElem?_toList]; exact hfalse)
        omega
      · rw [hset]
        intro k hk j hj
        by_cases hji : j = i
        · subst hji; rw [upd_same]
        · rw [upd_ne _ _ hji]
          by_cases hki : k = i
          · subst hki; exact hbi j hj
          · rw [upd_ne _ _ hki] at hk
            exact hcl k hk j hj
      · rw [hset, hadd.1, hadd.2]
        exact hrep'

theorem Rep.drew {F : Fr} {n : Nat} {sl : Nat → AV} {hp : Nat → Option Ob} {G : Gh} {a : Act} {w : World} (h : Rep F n sl hp G a w) : Rep F n sl hp G a { w with drawn := w.drawn + 1 } := by
  have hx : Ext (Foot hp G) (Okay F hp G) G w (Okay F hp G) G { w with drawn := w.drawn + 1 } [] := ⟨⟨rfl, rfl, rfl, Nat.le_refl _, fun _ _ _ => rfl⟩, fun _ _ h => h, Okay.apart, fun _ _ => rfl⟩
  exact ⟨h.df, h.sz, h.lm, fun t => hx.av (by simp) (h.sl t), ⟨fun b ob hb => (h.hp.sat b ob hb).ext hx (by simp) (by simp) (fun _ _ => rfl) (fun _ => Iff.rfl), h.hp.dj, h.hp.bd, ⟨h.hp.fr.os, h.hp.fr.tape, h.hp.fr.output, h.hp.fr.size, h.hp.fr.block⟩, h.hp.zs⟩⟩

/-- a region, drawn or not -/
theorem region_wp {P : Program} {E : Env} (hE : E.Ok P) (hs : ∀ f s, E.sp f = some s → SpLoc s) (hm : P.follows .mixedOrders = true) {n id : Nat} {ops : Array Oper} {dr : Bool} {s0 sN : Nat → AV} {h0 hN : Nat → Option Ob} {L : List LE} (hc : Chain E n ops ops.toList L s0 h0 sN hN)
    (hB : dr = true → niOk ops s0 h0 L (befs ops.toList []) = true) {F : Fr} {Q : Exit → Act → World → Prop} (hQ : ∀ G a w, Rep F n sN hN G a w → Q .normal a w) {G : Gh} {a : Act} {w : World} (h : Rep F n s0 h0 G a w) : (Code.region id ops dr).wp P Q a w := by
  cases dr with
  | false => exact wp_region_list (hc.list hE hQ _ _ _ _ G a w h)
  | true =>
    have hnone : lD (Array.replicate ops.size false) = fun _ => false := by
      funext j
      unfold lD
      rw [Array.getElem?_replicate]
      split <;> rfl
    refine wp_region_any hm (drawn_any hE hs hc (hB rfl) hQ _ _ G a _ (by simp) ?_ (fun i hi => by rw [hnone] at hi; cases hi) ?_)
    · rw [Array.toList_replicate]
      exact Nat.le_trans List.count_le_length (by simp)
    · rw [hnone, SD_none, HD_none]
      exact h.drew
end Go.Proofs.Ytdpcbffmmndhcaa
