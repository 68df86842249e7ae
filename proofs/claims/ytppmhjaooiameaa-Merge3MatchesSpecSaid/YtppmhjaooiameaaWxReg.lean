/- slices.SortFunc at ranges as a spec; the walk of merge3.regions. -/
import Derived.Test.YtppmhjaooiameaaSortL
import Derived.Shelf.SlSortCmp.WholeK
import Derived.Shelf.SlSortCmp.NoneTotal
import Derived.Test.YtppmhjaooiameaaWxComm
import Derived.Test.YtppmhjaooiameaaM3Pure
namespace Go.Proofs.Ytppmhjaooiameaa
open Go.RowKit
set_option maxRecDepth 10000
set_option linter.unusedSimpArgs false

/-! ### the comparison -/
def RB (r : Rg) : Prop := (-100000 ≤ r.1 ∧ r.1 ≤ 100000) ∧ (-100000 ≤ r.2.1 ∧ r.2.1 ≤ 100000)
abbrev BR : Type := { r : Rg // RB r }
instance : Inhabited BR := ⟨⟨(0, 0, 0), by unfold RB; decide⟩⟩
def cfR (a b : BR) : Int := if a.1.1 ≠ b.1.1 then a.1.1 - b.1.1 else a.1.2.1 - b.1.2.1
def encR (a : BR) : List Value := [.int .i64 a.1.1, .int .i64 a.1.2.1, .int .i64 a.1.2.2]
theorem cfR_swo : Go.Sort.SWO (ltOf cfR) where
  irrefl x := by unfold ltOf cfR; simp
  trans x y z h1 h2 := by
    unfold ltOf cfR at *
    simp only [decide_eq_true_eq] at *
    split at h1 <;> split at h2 <;> split <;> omega
  ntrans x y z h1 h2 := by
    unfold ltOf cfR at *
    simp only [decide_eq_false_iff_not] at *
    split at h1 <;> split at h2 <;> split <;> omega
theorem closureR (x y : BR) (W : World) : Calls Try.prog 57 #[.agg (encR x).toArray, .agg (encR y).toArray] W fun e w' => e = .returned (.int .i64 (cfR x y)) ∧ ∃ q os', w' = Go.Sort.grow (W.drewN q) os' := by
  obtain ⟨⟨a, b, g⟩, h1, h2⟩ := x
  obtain ⟨⟨c, d, k⟩, h3, h4⟩ := y
  dsimp only at h1 h2 h3 h4
  show Calls Try.prog 57 #[.agg #[.int .i64 a, .int .i64 b, .int .i64 g], .agg #[.int .i64 c, .int .i64 d, .int .i64 k]] W fun e w' => e = .returned (.int .i64 (if a ≠ c then a - c else b - d)) ∧ ∃ q os', w' = Go.Sort.grow (W.drewN q) os'
  by_cases h : a = c
  · rw [if_neg (fun z => z h)]
    go_enter Try.func57, Try.ntmps57
    go_wp2
    go_ret
    exact ⟨rfl, 0, _, by rw [Go.Sort.alloc_eq_grow, Go.Sort.alloc_eq_grow, Go.Sort.grow_grow]; rfl⟩
  · rw [if_pos h]
    go_enter Try.func57, Try.ntmps57
    go_wp2
    go_ret
    exact ⟨rfl, 0, _, by rw [Go.Sort.alloc_eq_grow, Go.Sort.alloc_eq_grow, Go.Sort.grow_grow]; rfl⟩

/-! ### the row -/
def toBR (l : List Rg) (h : ∀ r ∈ l, RB r) : List BR := l.attach.map fun x => ⟨x.1, h x.1 x.2⟩
theorem toBR_val (l : List Rg) (h : ∀ r ∈ l, RB r) : (toBR l h).map (·.1) = l := by
  unfold toBR
  rw [List.map_map]
  exact List.attach_map_subtype_val l
theorem toBR_len (l : List Rg) (h : ∀ r ∈ l, RB r) : (toBR l h).length = l.length := by unfold toBR; rw [List.length_map, List.length_attach]
def pdqR (d : List BR) : List BR := (Go.Sort.pdq (ltOf cfR) d.toArray 0 d.toArray.size (Lib.bitLen d.toArray.size) true true).toList
open Classical in
/-- what the sort leaves -/
noncomputable def srtR (l : List Rg) : List Rg := if h : ∀ r ∈ l, RB r then (pdqR (toBR l h)).map (·.1) else []
def e3 (r : Rg) : List Value := [.int .i64 r.1, .int .i64 r.2.1, .int .i64 r.2.2]
def rowR (l : List Rg) : List Value := l.flatMap e3
theorem rowR_len (l : List Rg) : (rowR l).length = l.length * 3 := by
  unfold rowR
  induction l with
  | nil => rfl
  | cons r l ih => rw [List.flatMap_cons, List.length_append, ih, List.length_cons]; show 3 + _ = _; omega
theorem rowR_at : ∀ (d : List BR) (j : Nat), j < d.length * 3 → (rowR (d.map (·.1)))[j]? = some ((encR d.toArray[j / 3]!)[j % 3]!)
  | [], j, h => absurd h (by simp)
  | x :: d, j, h => by
    have e : rowR ((x :: d).map (·.1)) = encR x ++ rowR (d.map (·.1)) := rfl
    rw [e]
    have hl : (encR x).length = 3 := rfl
    by_cases hj : j < 3
    · rw [List.getElem?_append_left (by omega)]
      have e1 : j / 3 = 0 := by omega
      have e2 : j % 3 = j := by omega
      rw [e1, e2]
      show (encR x)[j]? = some ((encR x)[j]!)
      rw [List.getElem?_eq_getElem (by omega), getElem!_pos (encR x) j (by omega)]
    · rw [List.getElem?_append_right (by omega), hl, rowR_at d (j - 3) (by rw [List.length_cons] at h; omega)]
      have e1 : j / 3 = (j - 3) / 3 + 1 := by omega
      have e2 : j % 3 = (j - 3) % 3 := by omega
      rw [e1, e2]
      congr 3
      have hlt : (j - 3) / 3 < d.length := by rw [List.length_cons] at h; omega
      rw [getElem!_pos d.toArray _ (by simpa using hlt), getElem!_pos (x :: d).toArray _ (by simp; omega)]
      simp
theorem flat_list (d : List BR) : (Go.Sort.flatK encR 3 d.toArray).toList = rowR (d.map (·.1)) := by
  apply List.ext_getElem?
  intro j
  by_cases h : j < d.length * 3
  · rw [rowR_at d j h]
    have hs : j < (Go.Sort.flatK encR 3 d.toArray).size := by rw [Go.Sort.size_flatK]; simpa using h
    have := Go.Sort.get_flatK encR 3 d.toArray j (by simpa using h)
    rw [getElem!_pos _ j hs] at this
    rw [Array.getElem?_toList, Array.getElem?_eq_getElem hs, this]
  · rw [List.getElem?_eq_none (by rw [Array.length_toList, Go.Sort.size_flatK]; simpa using h), List.getElem?_eq_none (by rw [rowR_len, List.length_map]; omega)]
theorem put_take (F cur : Array Value) (h : F.size ≤ cur.size) : (Go.Sort.putCells id 0 F cur).toList.take F.size = F.toList := by
  apply List.ext_getElem?
  intro j
  rw [List.getElem?_take]
  split
  · rename_i hj
    unfold Go.Sort.putCells
    rw [Array.getElem?_toList, Array.getElem?_mapIdx, Array.getElem?_eq_getElem (by omega), Option.map_some, if_pos (by omega), Array.getElem?_toList, Array.getElem?_eq_getElem hj, Nat.sub_zero, getElem!_pos F j hj]
    rfl
  · rename_i hj
    rw [List.getElem?_eq_none (by rw [Array.length_toList]; omega)]
theorem Sort_calls (w : World) (v : Value) (T : TypeId) (d : List BR) (hd : d.length ≤ 1000) (ho : w.ownsRow 0 T 3 v d.length (rowR (d.map (·.1)))) :
    Calls Try.prog 56 #[v, .func (.func 57) #[] #[]] w fun e w' =>
      e = .returned (.tuple #[]) ∧ Only (fun k => v.ownBlock = some k) w w' ∧ w'.ownsRow 0 T 3 v d.length (rowR ((pdqR d).map (·.1))) := by
  have hpl : (pdqR d).length = d.length := by
    have := (Go.Sort.pdq_sorts (ltOf cfR) cfR_swo d.toArray 0 d.toArray.size (Lib.bitLen d.toArray.size) true true (Nat.zero_le _) (Nat.le_refl _) (Or.inl rfl)).1.1
    unfold pdqR
    rw [Array.length_toList, this]
    rfl
  by_cases h0 : d.length = 0
  · have hd0 : d = [] := List.length_eq_zero_iff.1 h0
    subst hd0
    have hp0 : pdqR [] = [] := List.length_eq_zero_iff.1 hpl
    have hv : ∃ p cap, v = .slice p 0 cap := by
      rcases ho.2 with ⟨rfl, _⟩ | ⟨g, cap, cur, rfl, _⟩
      · exact ⟨none, 0, rfl⟩
      · exact ⟨_, _, rfl⟩
    obtain ⟨p, cap, rfl⟩ := hv
    refine Calls.mono (AnyF.slices_SortFunc_none (P := Try.prog) (ρ := Try.sortRg_ren) { Try.sortRg with } p cap _ w) ?_
    rintro e w' ⟨rfl, rfl⟩
    rw [hp0]
    exact ⟨rfl, Only.refl _ _, ho⟩
  · obtain ⟨h1, h2⟩ := ho
    rcases h2 with ⟨rfl, hn⟩ | ⟨g, cap, cur, rfl, hb, hg, hc1, hc2, hc3, hc4⟩
    · exact absurd hn h0
    · have hsz : d.toArray.size = d.length := by simp
      have hF : (Go.Sort.flatK encR 3 d.toArray).size = d.length * 3 := by rw [Go.Sort.size_flatK]; simp
      have hcur : d.length * 3 ≤ cur.size := by rw [hc3]; exact Nat.mul_le_mul_right 3 hc1
      have hH : Go.Sort.HoldsK encR 3 w g 0 d.toArray := by
        intro j hj
        rw [hF] at hj
        refine ⟨?_, Lib.frozen_of_heap hg _⟩
        rw [Nat.zero_add, Lib.cell_of_heap hg]
        have e1 : cur[j]? = (rowR (d.map (·.1)))[j]? := by
          rw [← hc4, List.getElem?_take, if_pos hj, Array.getElem?_toList]
        have e2 := flat_list d
        have e3 : (Go.Sort.flatK encR 3 d.toArray)[j]! = (encR d.toArray[j / 3]!)[j % 3]! := Go.Sort.get_flatK encR 3 d.toArray j (by simpa using hj)
        show cur[j]? = some (id ((Go.Sort.flatK encR 3 d.toArray)[j]!))
        rw [e1, rowR_at d j hj, e3]
        rfl
      have hlt : g < w.heap.size := lt_of_block hg
      have hk := AnyQ.slices_SortFunc_eq (P := Try.prog) (ρ := Try.sortRg_ren) Try.sortRg 3 (fun w => by kernel_rfl) (fun w => by kernel_rfl) encR (fun _ => rfl) (fun x v hv => by simp [encR] at hv; rcases hv with rfl | rfl | rfl <;> rfl) cfR cfR_swo 57 #[] g 0 cap d.toArray w
        (enters_of Try.func57 (by kernel_rfl) rfl) (fun _ _ _ _ x y => closureR x y _) hH hlt (by rw [hsz]; omega)
      rw [show d.toArray.size = d.length from hsz] at hk
      refine Calls.mono hk ?_
      rintro e w' ⟨rfl, n, os, rfl⟩
      obtain ⟨F, hFF⟩ : ∃ F, Go.Sort.flatK encR 3 (pdqR d).toArray = F := ⟨_, rfl⟩
      have hF2 : F.size = d.length * 3 := by rw [← hFF, Go.Sort.size_flatK]; simp [hpl]
      have hpq : Go.Sort.pdq (ltOf cfR) d.toArray 0 d.length (Lib.bitLen d.length) true true = (pdqR d).toArray := by unfold pdqR; simp
      rw [hpq]
      have hw' : sortWorldK encR 3 w g 0 n (pdqR d).toArray os = Go.Sort.grow (Go.Sort.putRow id (Go.Sort.ahead w n) g 0 F) os := by rw [← hFF]; rfl
      rw [hw']
      have hheap : ∀ k, k < w.heap.size → (Go.Sort.grow (Go.Sort.putRow id (Go.Sort.ahead w n) g 0 F) os).heap[k]? = if g = k then (w.heap[k]?).map (Go.Sort.onCells (Go.Sort.putCells id 0 F)) else w.heap[k]? := by
        intro k hk
        rw [Go.Sort.heap_grow_old _ _ (by simp [Go.Sort.putRow, Go.Sort.mapBlock, Go.Sort.ahead]; exact hk)]
        show (w.heap.modify g (Go.Sort.onCells (Go.Sort.putCells id 0 F)))[k]? = _
        rw [Array.getElem?_modify]
      refine ⟨rfl, ⟨rfl, rfl, rfl, ?_, fun k hk hne => ?_⟩, ?_⟩
      · simp [Go.Sort.putRow, Go.Sort.mapBlock, Go.Sort.ahead]
      · rw [hheap k hk, if_neg (fun e => hne (by rw [e]; rfl))]
      · refine ⟨by rw [rowR_len, List.length_map, hpl], .inr ⟨g, cap, Go.Sort.putCells id 0 F cur, rfl, hb, ?_, hc1, hc2, ?_, ?_⟩⟩
        · rw [hheap g hlt, if_pos rfl, hg]; rfl
        · unfold Go.Sort.putCells; rw [Array.size_mapIdx]; exact hc3
        · rw [← hF2, put_take F cur (by omega), ← hFF]
          exact flat_list (pdqR d)

theorem srtR_of {l : List Rg} (h : ∀ r ∈ l, RB r) : srtR l = (pdqR (toBR l h)).map (·.1) := by unfold srtR; rw [dif_pos h]
theorem pdqR_perm (d : List BR) : (pdqR d).Perm d := by
  have := (Go.Sort.pdq_sorts (ltOf cfR) cfR_swo d.toArray 0 d.toArray.size (Lib.bitLen d.toArray.size) true true (Nat.zero_le _) (Nat.le_refl _) (Or.inl rfl)).1
  obtain ⟨h1, -, h3⟩ := this
  rw [Array.toList_extract, Array.toList_extract] at h3
  have e1 : List.extract (Go.Sort.pdq (ltOf cfR) d.toArray 0 d.toArray.size (Lib.bitLen d.toArray.size) true true).toList 0 d.toArray.size = pdqR d := by
    unfold pdqR List.extract
    rw [List.drop_zero, Nat.sub_zero, List.take_of_length_le (by rw [Array.length_toList, h1]; exact Nat.le_refl _)]
  have e2 : List.extract d.toArray.toList 0 d.toArray.size = d := by
    unfold List.extract
    rw [List.drop_zero, Nat.sub_zero, List.take_of_length_le (by simp)]
  rw [e1, e2] at h3
  exact h3
theorem srtR_perm {l : List Rg} (h : ∀ r ∈ l, RB r) : (srtR l).Perm l := by
  rw [srtR_of h]
  have := (pdqR_perm (toBR l h)).map (·.1)
  rwa [toBR_val] at this
theorem pdqR_sorted (d : List BR) : (pdqR d).Pairwise fun x y => leP (prj x.1) (prj y.1) := by
  have h := (Go.Sort.pdq_sorts (ltOf cfR) cfR_swo d.toArray 0 d.toArray.size (Lib.bitLen d.toArray.size) true true (Nat.zero_le _) (Nat.le_refl _) (Or.inl rfl))
  unfold pdqR
  generalize Go.Sort.pdq (ltOf cfR) d.toArray 0 d.toArray.size (Lib.bitLen d.toArray.size) true true = D at h ⊢
  obtain ⟨⟨h1, -, -⟩, h2⟩ := h
  rw [List.pairwise_iff_getElem]
  intro i j hi hj hij
  rw [Array.length_toList] at hi hj
  have := h2 i j (Nat.zero_le _) hij (by omega)
  rw [getElem!_pos D i hi, getElem!_pos D j hj] at this
  rw [Array.getElem_toList, Array.getElem_toList]
  unfold ltOf cfR at this
  rw [decide_eq_false_iff_not] at this
  unfold leP prj
  dsimp only
  split at this <;> omega
theorem srtR_prj {l : List Rg} (h : ∀ r ∈ l, RB r) : (srtR l).map prj = srtP (l.map prj) := by
  refine srtP_eq ((srtR_perm h).map prj) ?_
  rw [srtR_of h, List.map_map]
  unfold SrtP
  rw [List.pairwise_map]
  exact pdqR_sorted _
theorem rowR_rd {w : World} {A : Nat → Prop} : ∀ {l : List Rg} {vs : List Value}, rdL w A tRg l vs → vs = rowR l ∧ ∀ r ∈ l, (kmin .i64 ≤ r.1 ∧ r.1 ≤ kmax .i64) ∧ (kmin .i64 ≤ r.2.1 ∧ r.2.1 ≤ kmax .i64) ∧ (kmin .i64 ≤ r.2.2 ∧ r.2.2 ≤ kmax .i64)
  | [], vs, h => ⟨h, fun r hr => by cases hr⟩
  | x :: l, vs, h => by
    obtain ⟨c, r, rfl, h1, h2⟩ := h
    obtain ⟨c1, c2, rfl, ⟨rfl, q1⟩, c3, c4, rfl, ⟨rfl, q2⟩, rfl, q3⟩ := h1
    obtain ⟨rfl, k⟩ := rowR_rd h2
    refine ⟨rfl, fun y hy => ?_⟩
    rcases List.mem_cons.1 hy with rfl | hy
    · rw [kmin_eq, kmax_eq]; exact ⟨q1, q2, q3⟩
    · exact k y hy
theorem rd_rowR {w : World} {A : Nat → Prop} : ∀ {l : List Rg}, (∀ r ∈ l, (kmin .i64 ≤ r.1 ∧ r.1 ≤ kmax .i64) ∧ (kmin .i64 ≤ r.2.1 ∧ r.2.1 ≤ kmax .i64) ∧ (kmin .i64 ≤ r.2.2 ∧ r.2.2 ≤ kmax .i64)) → rdL w A tRg l (rowR l)
  | [], _ => rfl
  | x :: l, h => by
    obtain ⟨q1, q2, q3⟩ := h x List.mem_cons_self
    rw [kmin_eq, kmax_eq] at q1 q2 q3
    exact ⟨e3 x, rowR l, rfl, ⟨_, _, rfl, ⟨rfl, q1⟩, _, _, rfl, ⟨rfl, q2⟩, rfl, q3⟩, rd_rowR fun r hr => h r (List.mem_cons_of_mem _ hr)⟩
noncomputable def sp_SortR : SpecF := fun d args hp => match args with
  | [.v false [.o b], .v false [.fn g []]] => match Nat.beq g 57, ownOf hp tRg d (.o b), rowE hp (.o b) 57 with
    | true, some (_, l), true => some ⟨(∀ r ∈ l, RB r) ∧ l.length ≤ 1000, .tu [], [.put b (.row 57 tRg (srtR l))], []⟩
    | _, _, _ => none
  | _ => none
theorem SortR_ok : SpecOk Try.prog 56 sp_SortR := by
  intro d args hp r hr hside
  unfold sp_SortR at hr
  split at hr
  · rename_i b g
    split at hr
    · rename_i b' l hg ho hE
      cases hr
      obtain rfl := Nat.eq_of_beq_eq_true hg
      refine ⟨.inl rfl, fun F G w vals hrep ha => ?_⟩
      obtain ⟨v1, r1, rfl, q1, v2, r2, rfl, q2, q3⟩ := ha
      have q3 : r2 = [] := q3
      subst q3
      have q1 := AV.one_rel (x := .v false [.o b]) rfl q1
      have q2 := AV.one_rel (x := .v false [.fn _ []]) rfl q2
      obtain ⟨gs, rfl, hgs, -⟩ := q2
      have hgs : gs = [] := List.length_eq_zero_iff.1 hgs
      subst hgs
      obtain ⟨vs, s1, s2, s3⟩ := ownOf_owns ho hE hrep q1
      obtain ⟨rfl, hbd⟩ := rowR_rd s1
      obtain ⟨hall, hlen⟩ := hside
      have hob : ∃ ob, hp b = some ob ∧ ∀ k, G.f b k ↔ (G.r b).ownBlock = some k := by
        unfold ownOf at ho
        dsimp only at ho
        split at ho
        · rename_i E' u l' hb
          exact ⟨_, hb, fun k => by obtain ⟨_, _, _, h3⟩ := hrep.sat b _ hb; exact h3 k⟩
        · rename_i E' n cs hb
          refine ⟨_, hb, fun k => ?_⟩
          obtain ⟨g', vs', h1, _, _, _, h5⟩ := hrep.sat b _ hb
          rw [h5 k, h1]
          exact ⟨fun e => by rw [e]; rfl, fun e => by cases e; rfl⟩
        · cases ho
      obtain ⟨ob, hb, hfb⟩ := hob
      obtain ⟨hv, -⟩ := q1
      subst hv
      have hl : (toBR l hall).length = l.length := toBR_len l hall
      have e1 : rowR ((toBR l hall).map (·.1)) = rowR l := by rw [toBR_val]
      refine Calls.mono (Sort_calls w (G.r b) 57 (toBR l hall) (by rw [hl]; exact hlen) (by rw [hl, e1]; exact s2)) ?_
      rintro e w' ⟨rfl, hon, hown⟩
      rw [hl, ← srtR_of hall] at hown
      have hpm := srtR_perm hall
      obtain ⟨z1, z2⟩ := write_step hrep b ob (.row 57 tRg (srtR l)) hb ⟨hon.os, hon.tape, hon.output, hon.size, fun k hk hn => hon.block k hk (fun e => hn ((hfb k).2 e))⟩
        (fun _ => ⟨rowR (srtR l), rd_rowR fun r hr => hbd r (hpm.mem_iff.1 hr), by rw [hpm.length_eq]; exact hown, hfb⟩)
      exact ⟨_, rfl, G, z1, z2, ⟨[], rfl, rfl⟩⟩
    · cases hr
  · cases hr
theorem SortR_loc : SpLoc sp_SortR := by
  intro d args hp hp' h
  unfold sp_SortR
  split
  · rename_i b g
    have hb : hp' b = hp b := h b (by simp [AV.names, Lf.names])
    simp only [ownOf, rowE, hb]
  · rfl
theorem SortR_sp : SpFact 56 sp_SortR :=
  ⟨⟨Try.f56, rfl, rfl, rfl, SortR_ok⟩, SortR_loc⟩
end Go.Proofs.Ytppmhjaooiameaa
