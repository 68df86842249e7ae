/- Ranges of marks, and what lies outside of them: plain laws. -/
import Derived.Test.YthacjpemeaekdaaStpPure
namespace Go.Proofs.Ythacjpemeaekdaa

/-- ranges in order: they begin at a (the first one) or behind it, and end at e -/
def gd : Bool → Int → List (Int × Int) → Int → Prop
  | _, a, [], e => e = a
  | f, a, p :: r, e => (a ≤ p.1 ∧ (f = false → a < p.1)) ∧ p.1 < p.2 ∧ gd false p.2 r e
/-- the bytes ahead of each range -/
def gp (L : List UInt8) : Int → List (Int × Int) → List UInt8
  | _, [] => []
  | a, p :: r => (L.drop a.toNat).take (p.1 - a).toNat ++ gp L p.2 r
theorem gd_le : ∀ (l : List (Int × Int)) (f : Bool) (a e : Int), gd f a l e → a ≤ e
  | [], _, _, _, h => by have h : _ = _ := h; omega
  | p :: r, f, a, e, h => by
    have := gd_le r false p.2 e h.2.2
    have := h.1.1; have := h.2.1; omega
theorem gd_push : ∀ (l : List (Int × Int)) (f : Bool) (a e x t : Int), gd f a l e → e ≤ x → x < t → (f = false → l = [] → a < x) → gd f a (rpush l x t) t
  | [], f, a, e, x, t, h, h1, h2, h3 => by
    have h : e = a := h
    exact ⟨⟨by omega, fun hf => h3 hf rfl⟩, h2, rfl⟩
  | [p], f, a, e, x, t, h, h1, h2, h3 => by
    obtain ⟨k1, k2, k3⟩ := h
    have k3 : e = p.2 := k3
    unfold rpush
    by_cases hp : p.2 = x
    · rw [if_pos hp]; exact ⟨k1, by omega, rfl⟩
    · rw [if_neg hp]; exact ⟨k1, k2, ⟨by omega, fun _ => by omega⟩, h2, rfl⟩
  | p :: q :: r, f, a, e, x, t, h, h1, h2, h3 => by
    obtain ⟨k1, k2, k3⟩ := h
    exact ⟨k1, k2, gd_push (q :: r) false p.2 e x t k3 h1 h2 (fun _ h => by cases h)⟩
theorem gp_push (L : List UInt8) : ∀ (l : List (Int × Int)) (f : Bool) (a e x t : Int), gd f a l e → e ≤ x → gp L a (rpush l x t) = gp L a l ++ (L.drop e.toNat).take (x - e).toNat
  | [], f, a, e, x, t, h, h1 => by
    have h : e = a := h
    subst h
    simp [rpush, gp]
  | [p], f, a, e, x, t, h, h1 => by
    obtain ⟨k1, k2, k3⟩ := h
    have k3 : e = p.2 := k3
    subst k3
    unfold rpush
    by_cases hp : p.2 = x
    · rw [if_pos hp, show (x - p.2).toNat = 0 by omega]; simp [gp]
    · rw [if_neg hp]; simp [gp]
  | p :: q :: r, f, a, e, x, t, h, h1 => by
    obtain ⟨k1, k2, k3⟩ := h
    have := gp_push L (q :: r) false p.2 e x t k3 h1
    show (L.drop a.toNat).take (p.1 - a).toNat ++ gp L p.2 (rpush (q :: r) x t) = ((L.drop a.toNat).take (p.1 - a).toNat ++ gp L p.2 (q :: r)) ++ _
    rw [this, List.append_assoc]

/-- the bytes that are not marked -/
def unmk : List UInt8 → List Bool → List UInt8
  | c :: L, false :: m => c :: unmk L m
  | _ :: L, true :: m => unmk L m
  | _, _ => []
theorem unmk_append : ∀ (L : List UInt8) (m : List Bool) (K : List UInt8) (k : List Bool), L.length = m.length → unmk (L ++ K) (m ++ k) = unmk L m ++ unmk K k
  | [], [], K, k, _ => rfl
  | c :: L, false :: m, K, k, h => by simp only [List.cons_append, unmk, unmk_append L m K k (by simpa using h)]
  | c :: L, true :: m, K, k, h => by simp only [List.cons_append, unmk, unmk_append L m K k (by simpa using h)]
  | [], _ :: _, _, _, h => by simp at h
  | _ :: _, [], _, _, h => by simp at h
theorem unmk_false : ∀ (L : List UInt8), unmk L (List.replicate L.length false) = L
  | [] => rfl
  | c :: L => by rw [List.length_cons, List.replicate_succ, unmk, unmk_false L]
theorem unmk_true : ∀ (L : List UInt8), unmk L (List.replicate L.length true) = []
  | [] => rfl
  | c :: L => by rw [List.length_cons, List.replicate_succ, unmk, unmk_true L]

theorem rgl_good (L : List UInt8) : ∀ (m : List Bool) (out : List (Int × Int)) (k : Nat) (e : Int) (done : List Bool), done.length = k → k + m.length ≤ L.length → gd true 0 out e → e ≤ k → unmk (L.take k) done = gp L 0 out ++ (L.drop e.toNat).take (k - e).toNat →
    ∃ e', gd true 0 (rgl out k m) e' ∧ e' ≤ k + m.length ∧ unmk (L.take (k + m.length)) (done ++ m) = gp L 0 (rgl out k m) ++ (L.drop e'.toNat).take (k + m.length - e').toNat
  | [], out, k, e, done, hd, hk, h1, h2, h3 => ⟨e, h1, by simpa using h2, by simpa [rgl] using h3⟩
  | b :: m, out, k, e, done, hd, hk, h1, h2, h3 => by
    simp only [List.length_cons] at hk
    have hkl : k < L.length := by omega
    have he := gd_le _ _ _ _ h1
    have ht : L.take (k + 1) = L.take k ++ [L[k]] := by rw [List.take_add_one, List.getElem?_eq_getElem hkl]; rfl
    have hlen : (L.take k).length = done.length := by rw [List.length_take, hd]; omega
    cases b with
    | false =>
      have := rgl_good L m out (k + 1) e (done ++ [false]) (by simp [hd]) (by omega) h1 (by omega) (by
        rw [ht, unmk_append _ _ _ _ hlen, h3, List.append_assoc]
        congr 1
        have e1 : ((k + 1 : Nat) - e : Int).toNat = ((k : Int) - e).toNat + 1 := by omega
        rw [e1, List.take_add_one]
        congr 1
        rw [List.getElem?_drop, show e.toNat + ((k : Int) - e).toNat = k by omega, List.getElem?_eq_getElem hkl]
        rfl)
      obtain ⟨e', q1, q2, q3⟩ := this
      have ek : ((k : Nat) : Int) + 1 = ((k + 1 : Nat) : Int) := by omega
      refine ⟨e', ?_, by simp only [List.length_cons]; omega, ?_⟩
      · rw [rgl, ek]; exact q1
      · rw [rgl, ek, List.length_cons, show k + (m.length + 1) = k + 1 + m.length by omega, List.append_cons]
        rw [show ((k : Int) + ((m.length + 1 : Nat) : Int) - e') = (((k + 1 : Nat) : Int) + (m.length : Int) - e') by omega]
        exact q3
    | true =>
      have g1 := gd_push out true 0 e k (k + 1) h1 h2 (by omega) (by simp)
      have g2 := gp_push L out true 0 e k (k + 1) h1 h2
      have := rgl_good L m (rpush out k (k + 1)) (k + 1) (k + 1) (done ++ [true]) (by simp [hd]) (by omega) g1 (by omega) (by
        rw [ht, unmk_append _ _ _ _ hlen, h3, g2]
        rw [show (((k + 1 : Nat) : Int) - ((k : Int) + 1)).toNat = 0 by omega]
        simp [unmk])
      obtain ⟨e', q1, q2, q3⟩ := this
      have ek : ((k : Nat) : Int) + 1 = ((k + 1 : Nat) : Int) := by omega
      rw [ek] at q1 q3
      refine ⟨e', ?_, by simp only [List.length_cons]; omega, ?_⟩
      · rw [rgl, if_pos rfl, ek]; exact q1
      · rw [rgl, if_pos rfl, ek, List.length_cons, show k + (m.length + 1) = k + 1 + m.length by omega, List.append_cons]
        rw [show ((k : Int) + ((m.length + 1 : Nat) : Int) - e') = (((k + 1 : Nat) : Int) + (m.length : Int) - e') by omega]
        exact q3
/-- the ranges of marks are in order, and outside of them lie the bytes that are not marked -/
theorem rgs_good (L : List UInt8) (m : List Bool) (h : m.length = L.length) : ∃ e, gd true 0 (rgs m) e ∧ e ≤ L.length ∧ unmk L m = gp L 0 (rgs m) ++ L.drop e.toNat := by
  obtain ⟨e, h1, h2, h3⟩ := rgl_good L m [] 0 0 [] rfl (by omega) rfl (by omega) rfl
  refine ⟨e, h1, by simpa [h] using h2, ?_⟩
  have h3 : unmk (L.take (0 + m.length)) ([] ++ m) = gp L 0 (rgs m) ++ (L.drop e.toNat).take (((0 : Nat) : Int) + m.length - e).toNat := h3
  rw [Nat.zero_add, h, List.take_length, List.nil_append] at h3
  rw [h3]
  congr 1
  rw [List.take_of_length_le]
  rw [List.length_drop]
  omega

/-! ### the steps of two lines -/
/-- the texts that are kept -/
def kept (l : List (Int × ByteArray)) : List ByteArray := l.filterMap fun p => if p.1 = 0 then some p.2 else none
def bytesOf (l : List ByteArray) : List UInt8 := l.flatMap fun t => t.data.toList
theorem bytes_len (t : ByteArray) : t.data.toList.length = t.size := by rw [Array.length_toList]; rfl
def oldT (l : List (Int × ByteArray)) : List ByteArray := l.filterMap fun p => if p.1 = 2 then none else some p.2
def newT (l : List (Int × ByteArray)) : List ByteArray := l.filterMap fun p => if p.1 = 1 then none else some p.2
theorem unmk_old : ∀ l : List (Int × ByteArray), (∀ p ∈ l, p.1 = 0 ∨ p.1 = 1 ∨ p.1 = 2) → unmk (bytesOf (oldT l)) (mX l) = bytesOf (kept l) ∧ (mX l).length = (bytesOf (oldT l)).length
  | [], _ => ⟨rfl, rfl⟩
  | (s, t) :: l, h => by
    obtain ⟨h1, h2⟩ := unmk_old l (fun p hp => h p (by simp [hp]))
    have hb := bytes_len t
    have e1 : mX ((s, t) :: l) = (if s = 2 then [] else List.replicate t.size (decide (s = 1))) ++ mX l := rfl
    rcases h (s, t) (by simp) with hs | hs | hs
    · have hs : s = 0 := hs
      subst hs
      have e2 : oldT ((0, t) :: l) = t :: oldT l := rfl
      have e3 : kept ((0, t) :: l) = t :: kept l := rfl
      rw [e1, e2, e3, if_neg (by decide)]
      have e4 : ∀ q : List ByteArray, bytesOf (t :: q) = t.data.toList ++ bytesOf q := fun _ => rfl
      rw [e4, e4, ← hb, show decide ((0 : Int) = 1) = false from rfl, unmk_append _ _ _ _ (by simp), unmk_false, h1]
      exact ⟨rfl, by simp [h2]⟩
    · have hs : s = 1 := hs
      subst hs
      have e2 : oldT ((1, t) :: l) = t :: oldT l := rfl
      have e3 : kept ((1, t) :: l) = kept l := rfl
      rw [e1, e2, e3, if_neg (by decide)]
      have e4 : ∀ q : List ByteArray, bytesOf (t :: q) = t.data.toList ++ bytesOf q := fun _ => rfl
      rw [e4, ← hb, show decide ((1 : Int) = 1) = true from rfl, unmk_append _ _ _ _ (by simp), unmk_true, h1]
      exact ⟨rfl, by simp [h2]⟩
    · have hs : s = 2 := hs
      subst hs
      have e2 : oldT ((2, t) :: l) = oldT l := rfl
      have e3 : kept ((2, t) :: l) = kept l := rfl
      rw [e1, e2, e3, if_pos rfl, List.nil_append]
      exact ⟨h1, h2⟩
theorem unmk_new : ∀ l : List (Int × ByteArray), (∀ p ∈ l, p.1 = 0 ∨ p.1 = 1 ∨ p.1 = 2) → unmk (bytesOf (newT l)) (mY l) = bytesOf (kept l) ∧ (mY l).length = (bytesOf (newT l)).length
  | [], _ => ⟨rfl, rfl⟩
  | (s, t) :: l, h => by
    obtain ⟨h1, h2⟩ := unmk_new l (fun p hp => h p (by simp [hp]))
    have hb := bytes_len t
    have e1 : mY ((s, t) :: l) = (if s = 1 then [] else List.replicate t.size (decide (s = 2))) ++ mY l := rfl
    rcases h (s, t) (by simp) with hs | hs | hs
    · have hs : s = 0 := hs
      subst hs
      have e2 : newT ((0, t) :: l) = t :: newT l := rfl
      have e3 : kept ((0, t) :: l) = t :: kept l := rfl
      rw [e1, e2, e3, if_neg (by decide)]
      have e4 : ∀ q : List ByteArray, bytesOf (t :: q) = t.data.toList ++ bytesOf q := fun _ => rfl
      rw [e4, e4, ← hb, show decide ((0 : Int) = 2) = false from rfl, unmk_append _ _ _ _ (by simp), unmk_false, h1]
      exact ⟨rfl, by simp [h2]⟩
    · have hs : s = 1 := hs
      subst hs
      have e2 : newT ((1, t) :: l) = newT l := rfl
      have e3 : kept ((1, t) :: l) = kept l := rfl
      rw [e1, e2, e3, if_pos rfl, List.nil_append]
      exact ⟨h1, h2⟩
    · have hs : s = 2 := hs
      subst hs
      have e2 : newT ((2, t) :: l) = t :: newT l := rfl
      have e3 : kept ((2, t) :: l) = kept l := rfl
      rw [e1, e2, e3, if_neg (by decide)]
      have e4 : ∀ q : List ByteArray, bytesOf (t :: q) = t.data.toList ++ bytesOf q := fun _ => rfl
      rw [e4, ← hb, show decide ((2 : Int) = 2) = true from rfl, unmk_append _ _ _ _ (by simp), unmk_true, h1]
      exact ⟨rfl, by simp [h2]⟩

/-- the steps of two lists: kinds, old texts, new texts, kept texts -/
theorem steps_facts : ∀ (n : Nat) (a b : List ByteArray), a.length + b.length ≤ n → (∀ p ∈ stp (align a b) a b, p.1 = 0 ∨ p.1 = 1 ∨ p.1 = 2) ∧ oldT (stp (align a b) a b) = a ∧ newT (stp (align a b) a b) = b ∧ kept (stp (align a b) a b) = kp a b
  | n, [], [], _ => by
    rw [align_nil]
    exact ⟨by simp [stp], rfl, rfl, rfl⟩
  | 0, [], y :: b, h => by simp at h
  | 0, x :: a, _, h => by simp at h
  | n + 1, [], y :: b, h => by
    obtain ⟨h1, h2, h3, h4⟩ := steps_facts n [] b (by simp at h ⊢; omega)
    rw [align_ins]
    have e : stp (2 :: align [] b) ([] : List ByteArray) (y :: b) = (2, y) :: stp (align [] b) [] b := by simp [stp]
    rw [e]
    refine ⟨fun p hp => ?_, h2, by show y :: newT _ = _; rw [h3], ?_⟩
    · rcases List.mem_cons.1 hp with rfl | hp
      · exact .inr (.inr rfl)
      · exact h1 p hp
    · show kept (stp (align [] b) [] b) = _
      rw [h4]; rfl
  | n + 1, x :: a, [], h => by
    obtain ⟨h1, h2, h3, h4⟩ := steps_facts n a [] (by simp at h ⊢; omega)
    rw [align_del]
    have e : stp (1 :: align a []) (x :: a) ([] : List ByteArray) = (1, x) :: stp (align a []) a [] := by simp [stp]
    rw [e]
    refine ⟨fun p hp => ?_, by show x :: oldT _ = _; rw [h2], h3, ?_⟩
    · rcases List.mem_cons.1 hp with rfl | hp
      · exact .inr (.inl rfl)
      · exact h1 p hp
    · show kept (stp (align a []) a []) = _
      rw [h4, kp_del]
  | n + 1, x :: a, y :: b, h => by
    simp only [List.length_cons] at h
    rw [align_cons, kp_cons]
    by_cases hxy : x = y
    · rw [if_pos hxy, if_pos hxy]
      obtain ⟨h1, h2, h3, h4⟩ := steps_facts n a b (by omega)
      have e : stp (0 :: align a b) (x :: a) (y :: b) = (0, x) :: stp (align a b) a b := by simp [stp]
      rw [e]
      refine ⟨fun p hp => ?_, by show x :: oldT _ = _; rw [h2], by show x :: newT _ = _; rw [h3, hxy], by show x :: kept _ = _; rw [h4]⟩
      rcases List.mem_cons.1 hp with rfl | hp
      · exact .inl rfl
      · exact h1 p hp
    · rw [if_neg hxy, if_neg hxy]
      by_cases hl : lcs (x :: a) b ≤ lcs a (y :: b)
      · rw [if_pos hl, if_pos hl]
        obtain ⟨h1, h2, h3, h4⟩ := steps_facts n a (y :: b) (by simp only [List.length_cons]; omega)
        have e : stp (1 :: align a (y :: b)) (x :: a) (y :: b) = (1, x) :: stp (align a (y :: b)) a (y :: b) := by simp [stp]
        rw [e]
        refine ⟨fun p hp => ?_, by show x :: oldT _ = _; rw [h2], h3, h4⟩
        rcases List.mem_cons.1 hp with rfl | hp
        · exact .inr (.inl rfl)
        · exact h1 p hp
      · rw [if_neg hl, if_neg hl]
        obtain ⟨h1, h2, h3, h4⟩ := steps_facts n (x :: a) b (by simp only [List.length_cons]; omega)
        have e : stp (2 :: align (x :: a) b) (x :: a) (y :: b) = (2, y) :: stp (align (x :: a) b) (x :: a) b := by simp [stp]
        rw [e]
        refine ⟨fun p hp => ?_, h2, by show y :: newT _ = _; rw [h3], h4⟩
        rcases List.mem_cons.1 hp with rfl | hp
        · exact .inr (.inr rfl)
        · exact h1 p hp
end Go.Proofs.Ythacjpemeaekdaa
