/- Sx, part Za: a row that is owned becomes data. -/
import Derived.Test.YtdpcbffmmndhcaaSxZ
namespace Go.Proofs.Ytdpcbffmmndhcaa
open Go.RowKit

theorem reads_rdB {w : World} {A : Nat → Prop} {t : Ty} {l : List t.den} {v : Value} {E : TypeId} {vs : List Value} (h1 : rdL w A t l vs) (h2 : w.ownsRow 0 E t.size v l.length vs) (hA : ∀ k, v.ownBlock = some k → A k) : (Ty.slice t).rd w A l [v] := by
  obtain ⟨ao, cap, rfl, h2, h3, h4, h5⟩ := sl_of_owns h2
  refine ⟨ao, cap, rfl, h2, h3, h5, fun i hi => ?_⟩
  have hr := rdL_at h1 i hi
  have hlen := rdL_len h1
  have hs := t.size_pos
  have hm : (i + 1) * t.size ≤ l.length * t.size := Nat.mul_le_mul_right _ hi
  have hin : i * t.size < vs.length := by rw [hlen]; rw [Nat.add_mul, Nat.one_mul] at hm; omega
  obtain ⟨b, off, hao, hc⟩ := h4 _ hin
  have hb : b < w.heap.size := cell_lt hc
  refine ⟨b, off, _, hao, hA b (by rw [hao]; rfl), hb, hr, fun j hj => ?_⟩
  have hj' : j < t.size := by simp only [List.length_take] at hj; omega
  have hq : i * t.size + j < vs.length := by rw [hlen]; rw [Nat.add_mul, Nat.one_mul] at hm; omega
  obtain ⟨b', off', e, hc'⟩ := h4 _ hq
  rw [hao] at e
  cases e
  rw [hc', List.getElem_take, List.getElem_drop]

theorem Wk.freeze {n : Nat} {sl : List SEnt} {hl hl' : List HEnt} (t b : Nat) {E : TypeId} {ty : Ty} {l : List ty.den} (h1 : look sl t = .v false [.o b]) (h2 : hget hl b = some (.row E ty l)) (hk : keepH (hget hl) hl') (hb : hget hl' b = none) :
    Wk n sl hl (.put t (.v false [.d (.slice ty) l]) :: sl) hl' := by
  intro F G a w h
  have hs := keepH_get hk
  obtain ⟨hx, hr⟩ := sub_step h.hp hs
  refine ⟨G, h.df, h.sz, h.lm, fun k => ?_, hr⟩
  rw [look_put]
  by_cases e : k = t
  · subst e
    rw [upd_same]
    have hv := h.sl k
    rw [h1] at hv
    obtain ⟨hv1, hv2⟩ := AV.one_rel (x := .v false [.o b]) rfl hv
    obtain ⟨vs, s1, s2, s3⟩ := h.hp.sat b _ h2
    rw [hv1]
    refine AV.rel_of (reads_rdB (rdL_mono (Nat.le_refl _) (fun k k1 k2 => ⟨hx.keepA k k2 k1, rfl⟩) s1) s2 fun k hk' => ?_)
    have hf := (s3 k).2 hk'
    refine ⟨?_, ?_⟩
    · rcases (h.hp.bd b _ h2 k hf).2 with q | q
      · exact .inl (h.hp.zs k q)
      · exact .inr q
    · rintro ⟨c, oc, q1, q2⟩
      by_cases hcb : c = b
      · subst hcb; rw [hb] at q1; cases q1
      · exact h.hp.dj c b oc _ hcb (hs c oc q1) h2 k q2 hf
  · rw [upd_ne _ _ e]
    exact hx.av (fun _ _ => by simp) (h.sl k)
end Go.Proofs.Ytdpcbffmmndhcaa
