/- Plain: the compositions of exchanged patches in both orders are the mixed patch. -/
import Derived.Test.YthacjpemeaekdaaComIdPure
namespace Go.Proofs.Ythacjpemeaekdaa
open Go.RowKit

/-- the middle lines, with the end of the plain ones at the back told by the old text's place -/
def midA (E : Int) : Int → List Hk → List ByteArray → List Md
  | b, [], g => plainL (E - b).toNat g
  | b, h :: p, g => plainL (h.1 - b).toNat g ++ insL h.2.2 (plainG (h.1 - b).toNat g ++ h.2.1) ++ midA E (hkEnd h) p (insG h.2.2 (plainG (h.1 - b).toNat g ++ h.2.1))
def lastE : Int → List Hk → Int
  | b, [] => b + 480
  | _, h :: p => lastE (hkEnd h) p
theorem midA_eq : ∀ (p : List Hk) (b : Int) (g : List ByteArray), midL b p g = midA (lastE b p) b p g
  | [], b, g => by
    show plainL 480 g = plainL (b + 480 - b).toNat g
    rw [show (b + 480 - b).toNat = 480 by omega]
  | h :: p, b, g => by
    rw [midL, midA, midA_eq p]; rfl
theorem lastE_ge : ∀ (p : List Hk) (b : Int), 0 ≤ b → (∀ h ∈ p, 0 ≤ h.1) → 480 ≤ lastE b p
  | [], b, h, _ => by show 480 ≤ b + 480; omega
  | h :: p, b, _, hp => lastE_ge p (hkEnd h) (by have := hp h (by simp); have := hkEnd_ge h; omega) fun x hx => hp x (by simp [hx])
theorem plainG_nil (n : Nat) : plainG n [] = [] := by cases n <;> rfl
theorem plainL_add : ∀ (m n : Nat) (g : List ByteArray), plainL (m + n) g = plainL m g ++ plainL n (plainG m g)
  | 0, n, g => by rw [Nat.zero_add]; rfl
  | m + 1, n, g => by
    rw [show m + 1 + n = (m + n) + 1 by omega]
    show _ :: plainL (m + n) [] = _ :: (plainL m [] ++ plainL n [])
    rw [plainL_add m n, plainG_nil]
theorem plainG_add (m n : Nat) (g : List ByteArray) : plainG (m + n) g = plainG n (plainG m g) := by
  cases m with
  | zero => rw [Nat.zero_add]; rfl
  | succ m => rw [show m + 1 + n = (m + n) + 1 by omega]; show [] = plainG n []; rw [plainG_nil]
theorem midA_cut {E b : Int} {n : Nat} {g : List ByteArray} : ∀ {p : List Hk}, b + n ≤ E → (∀ h ∈ p, b + n ≤ h.1) → midA E b p g = plainL n g ++ midA E (b + n) p (plainG n g)
  | [], hE, _ => by
    show plainL (E - b).toNat g = plainL n g ++ plainL (E - (b + n)).toNat (plainG n g)
    rw [show (E - b).toNat = n + (E - (b + n)).toNat by omega, plainL_add]
  | h :: p, hE, hp => by
    have h0 := hp h (by simp)
    show plainL (h.1 - b).toNat g ++ insL h.2.2 (plainG (h.1 - b).toNat g ++ h.2.1) ++ midA E (hkEnd h) p (insG h.2.2 (plainG (h.1 - b).toNat g ++ h.2.1)) = plainL n g ++ (plainL (h.1 - (b + n)).toNat (plainG n g) ++ insL h.2.2 (plainG (h.1 - (b + n)).toNat (plainG n g) ++ h.2.1) ++ midA E (hkEnd h) p (insG h.2.2 (plainG (h.1 - (b + n)).toNat (plainG n g) ++ h.2.1)))
    rw [show (h.1 - b).toNat = n + (h.1 - (b + n)).toNat by omega, plainL_add, plainG_add]
    simp only [List.append_assoc]
theorem take_app {α : Type} : ∀ (A B : List α) (n : Nat), (A ++ B).take (A.length + n) = A ++ B.take n
  | [], B, n => by rw [List.length_nil, Nat.zero_add]; rfl
  | a :: A, B, n => by rw [List.length_cons, show A.length + 1 + n = (A.length + n) + 1 by omega]; show a :: (A ++ B).take _ = a :: (A ++ _); rw [take_app A B n]
theorem drop_app {α : Type} : ∀ (A B : List α) (n : Nat), (A ++ B).drop (A.length + n) = B.drop n
  | [], B, n => by rw [List.length_nil, Nat.zero_add]; rfl
  | a :: A, B, n => by rw [List.length_cons, show A.length + 1 + n = (A.length + n) + 1 by omega]; exact drop_app A B n
theorem insL_len : ∀ (l g : List ByteArray), (insL l g).length = l.length
  | [], _ => rfl
  | x :: l, g => by show (insL l []).length + 1 = l.length + 1; rw [insL_len l]
theorem evs_skip {A B : List Md} {a : Int} : ∀ {q : List Hk}, (∀ h ∈ q, a + A.length ≤ h.1) → evs a (A ++ B) q = A.flatMap kev ++ evs (a + A.length) B q
  | [], _ => by rw [evs, evs, List.flatMap_append]
  | h :: q, hq => by
    have h0 := hq h (by simp)
    have h1 := hkEnd_ge h
    rw [evs, evs]
    have e1 : (h.1 - a).toNat = A.length + (h.1 - (a + A.length)).toNat := by omega
    have e2 : (hkEnd h - a).toNat = A.length + (hkEnd h - (a + A.length)).toNat := by omega
    have t1 : (A ++ B).take (h.1 - a).toNat = A ++ B.take (h.1 - (a + A.length)).toNat := by rw [e1, take_app]
    have d1 : (A ++ B).drop (h.1 - a).toNat = B.drop (h.1 - (a + A.length)).toNat := by rw [e1, drop_app]
    have d2 : (A ++ B).drop (hkEnd h - a).toNat = B.drop (hkEnd h - (a + A.length)).toNat := by rw [e2, drop_app]
    rw [t1, d1, d2, List.flatMap_append, List.append_assoc]
/-- a hunk of the second patch upon plain lines -/
theorem evs_hunk {o n : List ByteArray} {m : Int} {k : Nat} {R : List Md} {q : List Hk} : evs m (plainL k [] ++ (plainL o.length [] ++ R)) ((m + k, o, n) :: q) = keeps k ++ (n.map (fun x => ((2 : Int), x)) ++ (o.map (fun x => ((1 : Int), x)) ++ evs (m + k + o.length) R q)) := by
  rw [evs]
  have e1 : ((m + k, o, n) : Hk).1 - m = k := by show m + k - m = (k : Int); omega
  have e2 : hkEnd (m + k, o, n) - m = ((k + o.length : Nat) : Int) := by unfold hkEnd; dsimp only; omega
  rw [e1, e2, Int.toNat_natCast, Int.toNat_natCast]
  have t1 : (plainL k [] ++ (plainL o.length [] ++ R)).take k = plainL k [] := by
    have := take_app (plainL k []) (plainL o.length [] ++ R) 0
    rw [plain_len, Nat.add_zero, List.take_zero, List.append_nil] at this
    exact this
  have d1 : (plainL k [] ++ (plainL o.length [] ++ R)).drop k = plainL o.length [] ++ R := by
    have := drop_app (plainL k []) (plainL o.length [] ++ R) 0
    rw [plain_len, Nat.add_zero, List.drop_zero] at this
    exact this
  have d2 : (plainL k [] ++ (plainL o.length [] ++ R)).drop (k + o.length) = R := by
    have h1 := drop_app (plainL k []) (plainL o.length [] ++ R) o.length
    have h2 := drop_app (plainL o.length []) R 0
    rw [plain_len] at h1 h2
    rw [Nat.add_zero, List.drop_zero] at h2
    rw [h1, h2]
  have dv : ∀ (o : List ByteArray), devs (plainL o.length [] ++ R) o = o.map (fun x => ((1 : Int), x)) := by
    intro o
    induction o with
    | nil => cases R <;> rfl
    | cons x o ih => show (1, x) :: devs (plainL o.length [] ++ R) o = (1, x) :: o.map _; rw [ih]
  rw [t1, d1, d2]
  show (plainL k []).flatMap kev ++ (n.map (fun x => ((2 : Int), x)) ++ (devs (plainL o.length [] ++ R) o ++ evs (hkEnd (m + k, o, n)) R q)) = _
  rw [dv]
  rfl
theorem bad_plain {R : List Md} : ∀ (o g : List ByteArray), bad (plainL o.length g ++ R) o = false
  | [], _ => by cases R <;> rfl
  | x :: o, g => by show (false && _ || bad (plainL o.length [] ++ R) o) = false; rw [bad_plain o]; rfl
theorem plain_kev {n : Nat} {g : List ByteArray} (h : 1 ≤ n) : (plainL n g).flatMap kev = g.map (fun x => ((1 : Int), x)) ++ (0, ByteArray.empty) :: keeps (n - 1) := by
  obtain ⟨m, rfl⟩ : ∃ m, n = m + 1 := ⟨n - 1, by omega⟩
  exact plain_ev m g
theorem plainG_pos {n : Nat} {g : List ByteArray} (h : 1 ≤ n) : plainG n g = [] := by
  obtain ⟨m, rfl⟩ : ∃ m, n = m + 1 := ⟨n - 1, by omega⟩
  rfl
theorem un_cons (c : Bool) (h : Hk) (M : Mxl) : un ((c, h) :: M) = h :: un M := rfl
/-- from behind a hunk on: the composition adds the mixed patch's hunks -/
theorem mix_col : ∀ (M : Mxl) (b g E : Int) (h : Hk) (gp : List ByteArray) (cu : Option Hk), sep b M → b < E → (∀ x ∈ un M, 0 < x.2.1.length + x.2.2.length ∧ hkEnd x < E) →
    (∀ X, col (b - gp.length) cu (gp.map (fun x => ((1 : Int), x)) ++ X) = col b (some h) X) → col (b - gp.length) cu (evs (b + g) (midA E b (pj true M) gp) (sh false g M)) = h :: un M
  | [], b, g, E, h, gp, cu, _, hE, _, hP => by
    show col _ cu ((plainL (E - b).toNat gp).flatMap kev) = _
    rw [plain_kev (by omega), hP, col_keep]
    have : col (b + 1) none (keeps ((E - b).toNat - 1) ++ []) = [] := by rw [col_plain]; rfl
    rw [List.append_nil] at this
    rw [this]; rfl
  | (true, h') :: M, b, g, E, h, gp, cu, ⟨c1, c2⟩, hE, hz, hP => by
    replace c1 : b < h'.1 := c1
    replace c2 : sep (hkEnd h') M := c2
    obtain ⟨z1, z2⟩ := hz h' (by rw [un_cons]; simp)
    have hz' : ∀ x ∈ un M, 0 < x.2.1.length + x.2.2.length ∧ hkEnd x < E := fun x hx => hz x (by rw [un_cons]; simp [hx])
    have low := sh_low M false (hkEnd h') (g + hkGrow h') c2
    show col _ cu (evs (b + g) (plainL (h'.1 - b).toNat gp ++ insL h'.2.2 (plainG (h'.1 - b).toNat gp ++ h'.2.1) ++ midA E (hkEnd h') (pj true M) (insG h'.2.2 (plainG (h'.1 - b).toNat gp ++ h'.2.1))) (sh false (g + hkGrow h') M)) = h :: un ((true, h') :: M)
    rw [plainG_pos (show 1 ≤ (h'.1 - b).toNat by omega), List.nil_append]
    have hl : (b + g) + ((plainL (h'.1 - b).toNat gp ++ insL h'.2.2 h'.2.1).length : Int) = hkEnd h' + (g + hkGrow h') := by
      rw [List.length_append, plain_len, insL_len]; unfold hkEnd hkGrow; omega
    rw [evs_skip (fun x hx => by rw [hl]; have := low x hx; omega), hl, List.flatMap_append, plain_kev (by omega), List.append_assoc, List.append_assoc, hP]
    show col b (some h) ((0, ByteArray.empty) :: (keeps ((h'.1 - b).toNat - 1) ++ _)) = _
    rw [col_keep, col_plain, show b + 1 + (((h'.1 - b).toNat - 1 : Nat) : Int) = h'.1 by omega]
    have ih := fun gp cu q => mix_col M (hkEnd h') (g + hkGrow h') E h' gp cu c2 z2 hz' q
    rcases h' with ⟨a, o, n⟩
    dsimp only at z1 ih ⊢
    rw [un_cons]
    cases n with
    | nil =>
      have i := ih o none (fun X => by
        have := col_hunk1 z1 a X
        rw [show hkEnd (a, o, ([] : List ByteArray)) = a + o.length from rfl, show a + (o.length : Int) - o.length = a by omega]
        exact this)
      rw [show hkEnd (a, o, ([] : List ByteArray)) - o.length = a by unfold hkEnd; dsimp only; omega] at i
      show h :: col a none (evs _ (midA E (hkEnd (a, o, [])) (pj true M) o) _) = _
      rw [i]
    | cons y n =>
      have i := ih [] (some (a, o, y :: n)) (fun X => by
        show col (hkEnd (a, o, y :: n) - 0) _ X = _
        rw [Int.sub_zero])
      have i : col (hkEnd (a, o, y :: n) - 0) (some (a, o, y :: n)) _ = _ := i
      rw [Int.sub_zero] at i
      rw [insL_ev, List.append_assoc, col_hunk1 z1]
      show h :: col (hkEnd (a, o, y :: n)) (some (a, o, y :: n)) (evs _ (midA E (hkEnd (a, o, y :: n)) (pj true M) []) _) = _
      rw [i]
  | (false, h') :: M, b, g, E, h, gp, cu, ⟨c1, c2⟩, hE, hz, hP => by
    replace c1 : b < h'.1 := c1
    replace c2 : sep (hkEnd h') M := c2
    obtain ⟨z1, z2⟩ := hz h' (by rw [un_cons]; simp)
    have hz' : ∀ x ∈ un M, 0 < x.2.1.length + x.2.2.length ∧ hkEnd x < E := fun x hx => hz x (by rw [un_cons]; simp [hx])
    have low := ch_all (sep_pj M true (hkEnd h') c2)
    have he := hkEnd_ge h'
    have ih := mix_col M (hkEnd h') g E h' [] (some h') c2 z2 hz' (fun X => by
      show col (hkEnd h' - 0) _ X = _
      rw [Int.sub_zero])
    have ih : col (hkEnd h' - 0) (some h') _ = _ := ih
    rw [Int.sub_zero] at ih
    rcases h' with ⟨a, o, n⟩
    dsimp only at z1 c1
    have hen : hkEnd (a, o, n) = a + o.length := rfl
    have ea : b + ((a - b).toNat : Int) = a := by omega
    show col _ cu (evs (b + g) (midA E b (pj true M) gp) ((a + g, o, n) :: sh false g M)) = h :: (a, o, n) :: un M
    rw [midA_cut (n := (a - b).toNat) (by rw [ea]; omega) (fun x hx => by have := low x hx; omega), plainG_pos (show 1 ≤ (a - b).toNat by omega), ea,
      midA_cut (b := a) (n := o.length) (by omega) (fun x hx => by have := low x hx; omega), plainG_nil]
    have h1 : (plainL (a - b).toNat gp).length = 1 + ((a - b).toNat - 1) := by rw [plain_len]; omega
    have h2 : plainL (a - b).toNat gp = (false, ByteArray.empty, gp) :: plainL ((a - b).toNat - 1) [] := by
      obtain ⟨m, hm⟩ : ∃ m, (a - b).toNat = m + 1 := ⟨(a - b).toNat - 1, by omega⟩
      rw [hm]; rfl
    have h3 : evs (b + g) (plainL (a - b).toNat gp ++ (plainL o.length [] ++ midA E (a + o.length) (pj true M) [])) ((a + g, o, n) :: sh false g M) = kev (false, ByteArray.empty, gp) ++ evs (b + g + 1) (plainL ((a - b).toNat - 1) [] ++ (plainL o.length [] ++ midA E (a + o.length) (pj true M) [])) ((a + g, o, n) :: sh false g M) := by
      have := evs_skip (A := [(false, ByteArray.empty, gp)]) (B := plainL ((a - b).toNat - 1) [] ++ (plainL o.length [] ++ midA E (a + o.length) (pj true M) [])) (a := b + g) (q := (a + g, o, n) :: sh false g M) (fun x hx => by
        rcases List.mem_cons.1 hx with rfl | hx
        · show b + g + 1 ≤ a + g; omega
        · have := sh_low M false _ g c2 x hx
          show b + g + 1 ≤ x.1
          omega)
      rw [h2]
      rw [List.flatMap_cons, List.flatMap_nil, List.append_nil] at this
      exact this
    rw [h3, show (a + g, o, n) = (b + g + 1 + (((a - b).toNat - 1 : Nat) : Int), o, n) by rw [show b + g + 1 + (((a - b).toNat - 1 : Nat) : Int) = a + g by omega], evs_hunk]
    show col _ cu ((gp.map (fun x => ((1 : Int), x)) ++ [(0, ByteArray.empty)]) ++ _) = _
    rw [List.append_assoc, hP]
    show col b (some h) ((0, ByteArray.empty) :: (keeps ((a - b).toNat - 1) ++ _)) = _
    rw [col_keep, col_plain, show b + 1 + (((a - b).toNat - 1 : Nat) : Int) = a by omega, col_hunk2 z1]
    rw [show b + g + 1 + (((a - b).toNat - 1 : Nat) : Int) + (o.length : Int) = hkEnd (a, o, n) + g by rw [hen]; omega]
    show h :: col (a + o.length) (some (a, o, n)) _ = _
    rw [← hen, ih]
theorem mix_conf : ∀ (M : Mxl) (b g E : Int) (gp : List ByteArray) (A : List Md) (i : Nat), sep (b - 1) M → (∀ x ∈ un M, hkEnd x < E) → (A.length : Int) = b + g → confI i (A ++ midA E b (pj true M) gp) (sh false g M) = none
  | [], _, _, _, _, _, _, _, _, _ => rfl
  | (true, h') :: M, b, g, E, gp, A, i, ⟨c1, c2⟩, hz, hA => by
    replace c1 : b - 1 < h'.1 := c1
    replace c2 : sep (hkEnd h') M := c2
    have ih := mix_conf M (hkEnd h') (g + hkGrow h') E (insG h'.2.2 (plainG (h'.1 - b).toNat gp ++ h'.2.1)) (A ++ (plainL (h'.1 - b).toNat gp ++ insL h'.2.2 (plainG (h'.1 - b).toNat gp ++ h'.2.1))) i (sep_le (by omega) c2) (fun x hx => hz x (by rw [un_cons]; simp [hx])) (by
      rw [List.length_append, List.length_append, plain_len, insL_len]; unfold hkEnd hkGrow; omega)
    rw [List.append_assoc] at ih
    exact ih
  | (false, h') :: M, b, g, E, gp, A, i, ⟨c1, c2⟩, hz, hA => by
    replace c1 : b - 1 < h'.1 := c1
    replace c2 : sep (hkEnd h') M := c2
    have z := hz h' (by rw [un_cons]; simp)
    have low := ch_all (sep_pj M true (hkEnd h') c2)
    rcases h' with ⟨a, o, n⟩
    dsimp only at c1
    have hen : hkEnd (a, o, n) = a + o.length := rfl
    have ea : b + ((a - b).toNat : Int) = a := by omega
    have ih := mix_conf M (hkEnd (a, o, n)) g E (plainG o.length (plainG (a - b).toNat gp)) (A ++ (plainL (a - b).toNat gp ++ plainL o.length (plainG (a - b).toNat gp))) (i + 1) (sep_le (by omega) c2) (fun x hx => hz x (by rw [un_cons]; simp [hx])) (by
      rw [List.length_append, List.length_append, plain_len, plain_len, hen]; omega)
    show confI i (A ++ midA E b (pj true M) gp) ((a + g, o, n) :: sh false g M) = none
    rw [midA_cut (n := (a - b).toNat) (by rw [ea]; omega) (fun x hx => by have := low x hx; omega), ea,
      midA_cut (b := a) (n := o.length) (by omega) (fun x hx => by have := low x hx; omega)]
    rw [hen] at ih
    simp only [List.append_assoc] at ih
    rw [confI]
    have hd : (A ++ (plainL (a - b).toNat gp ++ (plainL o.length (plainG (a - b).toNat gp) ++ midA E (a + o.length) (pj true M) (plainG o.length (plainG (a - b).toNat gp))))).drop ((a + g, o, n) : Hk).1.toNat = plainL o.length (plainG (a - b).toNat gp) ++ midA E (a + o.length) (pj true M) (plainG o.length (plainG (a - b).toNat gp)) := by
      have := drop_app (A ++ plainL (a - b).toNat gp) (plainL o.length (plainG (a - b).toNat gp) ++ midA E (a + o.length) (pj true M) (plainG o.length (plainG (a - b).toNat gp))) 0
      rw [Nat.add_zero, List.drop_zero, List.length_append, plain_len, List.append_assoc] at this
      rw [show ((a + g, o, n) : Hk).1.toNat = A.length + (a - b).toNat by show (a + g).toNat = _; omega]
      exact this
    rw [hd]
    show (if bad _ o = true then some i else _) = none
    rw [bad_plain, if_neg (by simp)]
    exact ih
theorem un_mem : ∀ {M : Mxl} {x : Hk}, x ∈ un M → x ∈ pj true M ∨ x ∈ pj false M
  | (c, h) :: M, x, hx => by
    rw [un_cons] at hx
    rcases List.mem_cons.1 hx with rfl | hx
    · cases c with
      | true => exact .inl (by show x ∈ x :: pj true M; simp)
      | false => exact .inr (by show x ∈ x :: pj false M; simp)
    · rcases un_mem hx with q | q
      · left
        cases c with
        | true => show x ∈ h :: pj true M; simp [q]
        | false => exact q
      · right
        cases c with
        | true => exact q
        | false => show x ∈ h :: pj false M; simp [q]
theorem co_mix {M : Mxl} (h : sep (-1) M) (h1 : pC (pj true M) = 0) (h2 : pC (pj false M) = 0) : coR (pj true M) (sh false 0 M) = un M ∧ confI 0 (coM (pj true M)) (sh false 0 M) = none := by
  obtain ⟨-, -, g1⟩ := pC_iff.1 h1
  obtain ⟨-, -, g2⟩ := pC_iff.1 h2
  have hE : 480 ≤ lastE 0 (pj true M) := lastE_ge _ 0 (Int.le_refl _) fun x hx => (g1 x hx).1
  have hz : ∀ x ∈ un M, 0 < x.2.1.length + x.2.2.length ∧ hkEnd x < lastE 0 (pj true M) := by
    intro x hx
    rcases un_mem hx with q | q
    · obtain ⟨-, -, -, -, z1, z2⟩ := g1 x q
      exact ⟨z1, by unfold hkEnd; omega⟩
    · obtain ⟨-, -, -, -, z1, z2⟩ := g2 x q
      exact ⟨z1, by unfold hkEnd; omega⟩
  have em : coM (pj true M) = midA (lastE 0 (pj true M)) 0 (pj true M) [] := midA_eq _ _ _
  constructor
  · have i := mix_col M (-1) 0 (lastE 0 (pj true M)) (0, [], []) [] (some (0, [], [])) h (by omega) hz (fun X => by
      show col (-1 - 0) _ X = _
      rw [Int.sub_zero])
    rw [midA_cut (n := 1) (by omega) (fun x hx => by have := ch_all (sep_pj M true (-1) h) x hx; omega), plainG_nil, evs_skip (fun x hx => by
      have := sh_low M false (-1) 0 h x hx
      rw [plain_len]; omega)] at i
    have i : ((0, [], []) : Hk) :: col 0 none (evs 0 (midA (lastE 0 (pj true M)) 0 (pj true M) []) (sh false 0 M)) = (0, [], []) :: un M := i
    unfold coR
    rw [em]
    exact (List.cons.inj i).2
  · rw [em]
    exact mix_conf M 0 0 _ [] [] 0 h (fun x hx => (hz x hx).2) rfl
theorem co_code {p q : List Hk} (hp : pC p = 0) (hq : pC q = 0) (hc : confI 0 (coM p) q = none) : coC p q = (if pC (coR p q) = 0 then 0 else 10) ∧ coI p q = (if pC (coR p q) = 0 then 0 else -1) := by
  constructor
  · unfold coC
    rw [if_neg (by simp [hp]), if_neg (by simp [hq]), hc]
    by_cases h : pC (coR p q) = 0 <;> simp [h]
  · unfold coI
    rw [if_neg (by simp [hp]), if_neg (by simp [hq]), hc]
    by_cases h : pC (coR p q) = 0 <;> simp [h]
theorem co_comm {p q : List Hk} (h : cmOk p q = true) : coC p q = coC (cmA p q) (cmB p q) ∧ coI p q = coI (cmA p q) (cmB p q) ∧ coP p q = coP (cmA p q) (cmB p q) := by
  obtain ⟨v1, v2, v3, v4⟩ := cm_valid h
  obtain ⟨M, m1, m2, m3, m4, m5⟩ := mix_of_cm h
  have a := co_mix m1 (by rw [m2]; exact v1) (by rw [m4]; exact v3)
  have b := co_mix (M := sw M) (sep_sw M _ m1) (by rw [pj_sw]; show pC (pj false M) = 0; rw [m4]; exact v3) (by rw [pj_sw]; show pC (pj true M) = 0; rw [m2]; exact v1)
  rw [m2, m3] at a
  rw [pj_sw, sh_sw, un_sw] at b
  have b : coR (pj false M) (sh true 0 M) = un M ∧ confI 0 (coM (pj false M)) (sh true 0 M) = none := b
  rw [m4, m5] at b
  have hR : coR p q = coR (cmA p q) (cmB p q) := by rw [a.1, b.1]
  have x := co_code v1 v2 a.2
  have y := co_code v3 v4 b.2
  have hC : coC p q = coC (cmA p q) (cmB p q) := by rw [x.1, y.1, hR]
  refine ⟨hC, by rw [x.2, y.2, hR], ?_⟩
  unfold coP
  rw [hC, hR]
end Go.Proofs.Ythacjpemeaekdaa
