/- The walks of tokens and of the reference's Tokens. -/
import Derived.Test.YtdpcbffmmndhcaaWordWalks
import Derived.Test.YtdpcbffmmndhcaaMemStrs
namespace Go.Proofs.Ytdpcbffmmndhcaa
open Go.RowKit

theorem byte_at (s : ByteArray) (q : Nat) (h : q < s.size) (h' : q < s.data.toList.length) : s[q]'h = s.data.toList[q] := by
  simp [ByteArray.getElem_eq_getElem_data]

set_option maxHeartbeats 1000000 in
theorem tokens_any (s : ByteArray) (w : World) (hs : s.size ≤ 80) :
    Calls Try.prog 37 #[.string s] w fun e w' => ∃ x, e = .returned x ∧ OwnStrs w' w.heap.size x (toks s.data.toList) ∧ Below w.heap.size w w' := by
  have hlen : s.data.toList.length = s.size := by rw [Array.length_toList]; rfl
  obtain ⟨L, hL⟩ : ∃ L, L = s.data.toList := ⟨_, rfl⟩
  rw [← hL] at hlen ⊢
  have hbyte : ∀ q (h : q < s.size) (h' : q < L.length), s[q]'h = L[q] := by subst hL; exact byte_at s
  have hext : ∀ p m (hp : p < L.length), s.extract p (p + 1 + m) = ⟨(L[p] :: (L.drop (p + 1)).take m).toArray⟩ := by subst hL; exact extract_tok s
  replace hL := Lib.hid hL
  replace hbyte := Lib.hid hbyte
  replace hext := Lib.hid hext
  replace hlen := Lib.hid hlen
  go_enter Try.func37, Try.ntmps37
  go_wp2
  go_loopw [3, 4] (fun y i wr => ∃ (p : Nat) (o : List ByteArray), p ≤ s.size ∧ o.length ≤ p ∧ i = .int .i64 p ∧ Hid (toks L = o ++ toks (L.drop p)) ∧ Hid (∀ t ∈ o, t.size ≤ 80) ∧ OwnStrs wr w.heap.size y o ∧ Below w.heap.size w wr) (fun _ i _ => s.size - (intOf i).toNat)
  case atStart => exact ⟨0, [], Nat.zero_le _, Nat.zero_le _, rfl, rfl, (fun _ h => by cases h), OwnStrs.nil, Below.refl _ _⟩
  case round =>
    obtain ⟨p, o, hp, hol, rfl, ht, hsz, hown, hb⟩ := hrel
    obtain ⟨wo, rfl⟩ : ∃ wo : World, wo = wr := ⟨_, rfl⟩
    have zb := hb.size
    by_cases hp1 : p < s.size
    · have hpL : p < L.length := by rw [hlen.out]; exact hp1
      obtain ⟨c, hc⟩ : ∃ c, c = L[p] := ⟨_, rfl⟩
      obtain ⟨r, hr⟩ : ∃ r, r = L.drop (p + 1) := ⟨_, rfl⟩
      have hrl : r.length + (p + 1) = s.size := by rw [hr, List.length_drop, hlen.out]; omega
      have hmle := more_le c r
      have hmlt := more_lt c r
      have hmend := more_end c r
      have hb0 : s[p]'hp1 = c := by rw [hbyte.out p hp1 hpL, hc]
      have hbr : ∀ m (h : p + 1 + m < s.size) (h' : m < r.length), s[p + 1 + m]'h = r[m] := by
        intro m h h'
        rw [hbyte.out _ h (by rw [hlen.out]; exact h)]
        simp only [hr, List.getElem_drop]
      have htk : Hid (toks L = (o ++ [s.extract p (p + 1 + more c r)]) ++ toks (L.drop (p + 1 + more c r))) := by
        show _ = _
        rw [ht.out, drop_toks L p hpL, hext.out p _ hpL, ← hc, ← hr]
        simp
      have hesz : (s.extract p (p + 1 + more c r)).size ≤ 80 := by
        rw [ByteArray.size_extract]; omega
      have hsz2 : Hid (∀ t ∈ o ++ [s.extract p (p + 1 + more c r)], t.size ≤ 80) := by
        intro t h
        rcases List.mem_append.1 h with h | h
        · exact hsz.out t h
        · simp at h; rw [h]; exact hesz
      generalize hM : more c r = M at hmle hmlt hmend htk hesz hsz2
      have hcu := c.toNat_lt
      have hcl : clsV c.toNat = cls c := rfl
      replace hmlt := Lib.hid hmlt
      replace hmend := Lib.hid hmend
      replace hbr := Lib.hid hbr
      replace hc := Lib.hid hc
      replace hr := Lib.hid hr
      replace hM := Lib.hid hM
      replace hcl := Lib.hid hcl
      go_wp2_with (go_at_call 55; (with_reducible refine Calls.mono (class_any _ _ (by omega) (by omega)) ?_); rintro e w1 ⟨rfl, rfl⟩; rw [hcl.out])
      go_loopw [5] (fun j wi => ∃ m : Nat, m ≤ M ∧ j = .int .i64 ((p + 1 + m : Nat) : Int) ∧ Hid (wo = wi)) (fun j _ => s.size - (intOf j).toNat)
      case atStart => exact ⟨0, Nat.zero_le _, by go_num, (by first | exact rfl | exact True.intro)⟩
      case round =>
        obtain ⟨m, hm, rfl, hwi⟩ := hrel
        obtain rfl := hwi.out
        clear hwi
        by_cases hm1 : m < M
        · obtain ⟨k0, hmr, k1⟩ := hmlt.out m hm1
          have hq : p + 1 + m < s.size := by omega
          have hbm := hbr.out m hq hmr
          obtain ⟨d, hd⟩ : ∃ d, d = r[m] := ⟨_, rfl⟩
          rw [← hd] at hbm k1
          have hdu := d.toNat_lt
          have hdl : clsV d.toNat = cls c := k1
          have q0 : (cls c != 0) = true := by simpa using k0
          replace hd := Lib.hid hd
          replace hdl := Lib.hid hdl
          clear k0 k1
          go_wp2_with (go_at_call 55; (with_reducible refine Calls.mono (class_any _ _ (by omega) (by omega)) ?_); rintro e w1 ⟨rfl, rfl⟩; rw [hdl.out])
          go_roundw
          case rel => exact ⟨m + 1, hm1, by go_num, (by first | exact rfl | exact True.intro)⟩
          case measure => (first | (simp [intOf]; done) | (simp [intOf]; omega))
        · have em : m = M := by omega
          have htk2 : Hid (toks L = (o ++ [s.extract p (p + 1 + m)]) ++ toks (L.drop (p + 1 + m))) := by rw [em]; exact htk
          have hsz3 : Hid (∀ t ∈ o ++ [s.extract p (p + 1 + m)], t.size ≤ 80) := by rw [em]; exact hsz2
          have hms : (s.extract p (p + 1 + m)).size ≤ maxLen := Nat.le_trans (hsz3.out _ (by simp)) (by decide)
          have hfin : p + 1 + m ≤ s.size := by omega
          have hcase := hmend.out
          rw [← em] at hcase
          replace em := Lib.hid em
          replace hms := Lib.hid hms
          by_cases hz : cls c = 0
          · have q0 : (cls c != 0) = false := by simp [hz]
            replace hz := Lib.hid hz
            clear hcase
            go_wp2_with (first | (at_builtin; refine app_strs rfl (.tmp 35) (.tmp 40) rfl (w.heap.size) rfl rfl (hown.alloc) (strs_one (s.extract p (p + 1 + m)) (by simp) hms.out) (by first | (simp; done) | (simp; omega) | omega) (by first | (simp; done) | (simp; omega) | omega) ?_; intro y1 w3 o3 gw3 b3; (try simp only [List.nil_append] at o3); have zw3 := gw3.size; simp at zw3) | fail)
            go_roundw
            case rel => exact ⟨p + 1 + m, o ++ [s.extract p (p + 1 + m)], hfin, by simp; omega, by go_num, htk2, hsz3, o3, extStep (extAlloc hb) b3 (Nat.le_refl _)⟩
            case measure => (first | (simp [intOf]; done) | (simp [intOf]; omega))
          · have q0 : (cls c != 0) = true := by simpa using hz
            rcases hcase with h0 | h0 | ⟨hmr, k1⟩
            · exact absurd h0 hz
            · have hd : decide ((p : Int) + 1 + (m : Int) < (s.size : Int)) = false := by simp; omega
              replace hz := Lib.hid hz
              replace h0 := Lib.hid h0
              go_wp2_with (first | (at_builtin; refine app_strs rfl (.tmp 35) (.tmp 40) rfl (w.heap.size) rfl rfl (hown.alloc) (strs_one (s.extract p (p + 1 + m)) (by simp) hms.out) (by first | (simp; done) | (simp; omega) | omega) (by first | (simp; done) | (simp; omega) | omega) ?_; intro y1 w3 o3 gw3 b3; (try simp only [List.nil_append] at o3); have zw3 := gw3.size; simp at zw3) | fail)
              go_roundw
              case rel => exact ⟨p + 1 + m, o ++ [s.extract p (p + 1 + m)], hfin, by simp; omega, by go_num, htk2, hsz3, o3, extStep (extAlloc hb) b3 (Nat.le_refl _)⟩
              case measure => (first | (simp [intOf]; done) | (simp [intOf]; omega))
            · have hq : p + 1 + m < s.size := by omega
              have hbm := hbr.out m hq hmr
              obtain ⟨d, hd⟩ : ∃ d, d = r[m] := ⟨_, rfl⟩
              rw [← hd] at hbm k1
              have hdu := d.toNat_lt
              have q1 : (cls d == cls c) = false := by simpa using k1
              have hdl : clsV d.toNat = cls d := rfl
              replace hd := Lib.hid hd
              replace hdl := Lib.hid hdl
              replace hz := Lib.hid hz
              clear k1
              go_wp2_with (first | (go_at_call 55; (with_reducible refine Calls.mono (class_any _ _ (by omega) (by omega)) ?_); rintro e w1 ⟨rfl, rfl⟩; rw [hdl.out]) | (at_builtin; refine app_strs rfl (.tmp 35) (.tmp 40) rfl (w.heap.size) rfl rfl (hown.alloc) (strs_one (s.extract p (p + 1 + m)) (by simp) hms.out) (by first | (simp; done) | (simp; omega) | omega) (by first | (simp; done) | (simp; omega) | omega) ?_; intro y1 w3 o3 gw3 b3; (try simp only [List.nil_append] at o3); have zw3 := gw3.size; simp at zw3) | fail)
              go_roundw
              case rel => exact ⟨p + 1 + m, o ++ [s.extract p (p + 1 + m)], hfin, by simp; omega, by go_num, htk2, hsz3, o3, extStep (extAlloc hb) b3 (Nat.le_refl _)⟩
              case measure => (first | (simp [intOf]; done) | (simp [intOf]; omega))
    · have hend : toks L = o := by
        rw [ht.out, List.drop_eq_nil_of_le (by rw [hlen.out]; omega)]
        show o ++ [] = o
        simp
      replace hend := Lib.hid hend
      go_wp2
      go_ret
      exact ⟨_, rfl, by rw [hend.out]; exact hown, hb⟩
end Go.Proofs.Ytdpcbffmmndhcaa
