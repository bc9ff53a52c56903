/- IsDyck and HeightsOf of both sides. -/
import Derived.Test.YteiffomekjadgaaPathDefs
namespace Go.Proofs.Yteiffomekjadgaa
open Go.RowKit

set_option maxHeartbeats 400000 in
theorem specIsDyck_any (l : List UInt8) (w : World) (hl : l.length ≤ 1000000000) :
    Calls Try.prog 61 #[.string (bs l)] w fun e w' => e = .returned (.bool (dyck l)) ∧ w = w' := by
  go_enter Try.func61, Try.ntmps61
  go_wp2_with fail
  go_loop [3, 4] (fun t i => ∃ k : Nat, k ≤ l.length ∧ i = .int .i64 k ∧ t = .int .i64 (hat l k) ∧ Hid (okB l k = true)) (fun _ i => l.length - (intOf i).toNat)
  case atStart => exact ⟨0, Nat.zero_le _, rfl, rfl, rfl⟩
  case round =>
    obtain ⟨k, hk, rfl, rfl, HO⟩ := hrel
    have hbd := hat_bd l k
    have hnn := okB_nn HO.out
    obtain ⟨H, hH⟩ : ∃ H, H = hat l k := ⟨_, rfl⟩
    rw [← hH] at hbd hnn ⊢
    have HH := Lib.hid hH
    clear hH
    by_cases hlt : k < l.length
    · obtain ⟨c, hc⟩ : ∃ c, l[k] = c := ⟨_, rfl⟩
      have HC := Lib.hid (show l[k]? = some c by rw [List.getElem?_eq_getElem hlt, hc])
      by_cases hu : c = 117
      · subst hu
        have e1 : (((l[k]'hlt).toNat : Int) == 117) = true := by rw [hc]; rfl
        clear hc
        go_wp2_with fail
        go_round
        case rel => exact ⟨k + 1, by omega, by go_num, by rw [hat_u HC.out, HH.out], okB_u HO.out HC.out⟩
        case measure => simp [intOf]; omega
      · by_cases hd : c = 100
        · subst hd
          have e1 : (((l[k]'hlt).toNat : Int) == 117) = false := by rw [hc]; rfl
          have e2 : (((l[k]'hlt).toNat : Int) == 100) = true := by rw [hc]; rfl
          clear hc hu
          by_cases hh : 1 ≤ H
          · go_wp2_with fail
            go_round
            case rel => exact ⟨k + 1, by omega, by go_num, by rw [hat_d HC.out (by decide), HH.out], okB_d HO.out HC.out (by rw [← HH.out]; exact hh)⟩
            case measure => simp [intOf]; omega
          · have HF := Lib.hid (show dyck l = false by rw [dyck, pathB_false (okB_d' HC.out (by rw [← HH.out]; omega)) hlt]; simp)
            have hh' : H < 1 := by omega
            clear hh
            go_wp2_with fail
            go_ret
            exact ⟨ret_bool (by rw [HF.out]), rfl⟩
        · have HF := Lib.hid (show dyck l = false by rw [dyck, pathB_false (okB_x HC.out hu hd) hlt]; simp)
          have h1 : (((l[k]'hlt).toNat : Int) == 117) = false := by rw [hc]; exact u8_ne hu
          have h2 : (((l[k]'hlt).toNat : Int) == 100) = false := by rw [hc]; exact u8_ne hd
          clear hc
          clear hu hd
          go_wp2_with fail
          go_ret
          exact ⟨ret_bool (by rw [HF.out]), rfl⟩
    · have hkn : k = l.length := by omega
      have HF := Lib.hid (show dyck l = (decide (l.length ≤ 16) && (H == 0)) by rw [dyck, pathB, ← hkn, HO.out, HH.out]; simp)
      by_cases h0 : H = 0
      · subst h0
        by_cases h16 : l.length ≤ 16
        · go_wp2_with fail
          go_ret
          exact ⟨ret_bool (by rw [HF.out]; simp; omega), rfl⟩
        · go_wp2_with fail
          go_ret
          exact ⟨ret_bool (by rw [HF.out]; simp; omega), rfl⟩
      · have hb : (H == 0) = false := by simpa using h0
        clear h0
        go_wp2_with fail
        go_ret
        exact ⟨ret_bool (by rw [HF.out, hb]; simp), rfl⟩

set_option maxHeartbeats 800000 in
theorem implheights_any (l : List UInt8) (w : World) (hl : l.length ≤ 16) :
    Calls Try.prog 96 #[.string (bs l)] w fun e w' => ∃ A n c, e = .returned (.tuple #[.slice A n c, .bool (pathB l)]) ∧ Below w.heap.size w w' ∧
      (okB l l.length = true → n = l.length + 1 ∧ OSeg w' 3 w.heap.size w'.heap.size A n c (iv (hts l))) := by
  go_enter Try.func96, Try.ntmps96
  go_wp2_with fail
  go_loopw [4, 5, 6] (fun s t i wr => ∃ (k : Nat) (A : Option Addr) (c : Nat), k ≤ l.length ∧ i = .int .i64 k ∧ t = .int .i64 (hat l k) ∧ s = .slice A (k + 1) c ∧ Hid (okB l k = true) ∧ Own wr 3 w.heap.size A (k + 1) c (iv (htsTo l (k + 1))) ∧ Below w.heap.size w wr) (fun _ _ i _ => l.length - (intOf i).toNat)
  case atStart => exact ⟨0, _, _, Nat.zero_le _, rfl, rfl, rfl, rfl, Own.lit w 3 #[.int .i64 0] 1 rfl (by decide), (Below.refl _ _).alloc (Nat.le_refl _) _⟩
  case round =>
    obtain ⟨k, A, cp, hk, rfl, rfl, rfl, HO, hown, hb⟩ := hrel
    have HW := Lib.hid hown
    clear hown
    have hbs := hb.size
    have hbd := hat_bd l k
    have hnn := okB_nn HO.out
    obtain ⟨H, hH⟩ : ∃ H, H = hat l k := ⟨_, rfl⟩
    rw [← hH] at hbd hnn ⊢
    have HH := Lib.hid hH
    clear hH
    by_cases hlt : k < l.length
    · obtain ⟨c, hc⟩ : ∃ c, l[k] = c := ⟨_, rfl⟩
      have HC := Lib.hid (show l[k]? = some c by rw [List.getElem?_eq_getElem hlt, hc])
      by_cases hu : c = 117
      · subst hu
        have e1 : (((l[k]'hlt).toNat : Int) == 117) = true := by rw [hc]; rfl
        clear hc
        go_wp2_with (at_builtin; refine appI _ rfl _ _ rfl w.heap.size A (k + 1) cp _ rfl (HW.out.alloc _) wr.heap.size (H + 1) rfl (by simp) (by omega) hbs ?_; intro A' c' w' hown' hg' hb')
        have HW' := Lib.hid hown'
        clear hown'
        go_wp2_with fail
        go_roundw
        case rel => exact ⟨k + 1, A', c', by omega, by go_num, by rw [hat_u HC.out, HH.out], rfl, okB_u HO.out HC.out, by rw [htsTo_succ, iv_snoc, hat_u HC.out, ← HH.out]; exact HW'.out, (hb.alloc hb.size _).trans hb'⟩
        case measure => simp [intOf]; omega
      · by_cases hd : c = 100
        · subst hd
          have e1 : (((l[k]'hlt).toNat : Int) == 117) = false := by rw [hc]; rfl
          have e2 : (((l[k]'hlt).toNat : Int) == 100) = true := by rw [hc]; rfl
          clear hc hu
          by_cases hh : 1 ≤ H
          · go_wp2_with (at_builtin; refine appI _ rfl _ _ rfl w.heap.size A (k + 1) cp _ rfl (HW.out.alloc _) wr.heap.size (H - 1) rfl (by simp) (by omega) hbs ?_; intro A' c' w' hown' hg' hb')
            have HW' := Lib.hid hown'
            clear hown'
            go_wp2_with fail
            go_roundw
            case rel => exact ⟨k + 1, A', c', by omega, by go_num, by rw [hat_d HC.out (by decide), HH.out], rfl, okB_d HO.out HC.out (by rw [← HH.out]; exact hh), by rw [htsTo_succ, iv_snoc, hat_d HC.out (by decide), ← HH.out]; exact HW'.out, (hb.alloc hb.size _).trans hb'⟩
            case measure => simp [intOf]; omega
          · have HF := Lib.hid (okB_d' HC.out (by rw [← HH.out]; omega))
            have hh' : H < 1 := by omega
            clear hh
            go_wp2_with fail
            go_ret2
            exact ⟨none, 0, 0, by rw [pathB_false HF.out hlt]; rfl, hb, fun h => absurd (okB_false HF.out hlt) (by rw [h]; simp)⟩
        · have HF := Lib.hid (okB_x HC.out hu hd)
          have h1 : (((l[k]'hlt).toNat : Int) == 117) = false := by rw [hc]; exact u8_ne hu
          have h2 : (((l[k]'hlt).toNat : Int) == 100) = false := by rw [hc]; exact u8_ne hd
          clear hc
          clear hu hd
          go_wp2_with fail
          go_ret2
          exact ⟨none, 0, 0, by rw [pathB_false HF.out hlt]; rfl, hb, fun h => absurd (okB_false HF.out hlt) (by rw [h]; simp)⟩
    · have hkn : k = l.length := by omega
      have HF := Lib.hid (show pathB l = (H == 0) by rw [pathB, ← hkn, HO.out, HH.out]; simp)
      have HW' := Lib.hid (show Own wr 3 w.heap.size A (l.length + 1) cp (iv (hts l)) by have := HW.out; rw [hkn] at this; exact this)
      have HK := Lib.hid hkn
      clear hkn
      go_wp2_with fail
      go_ret2
      refine ⟨A, k + 1, cp, by rw [HF.out]; rfl, hb, fun _ => ?_⟩
      rw [HK.out]
      exact ⟨rfl, OSeg.mk' HW'.out⟩

theorem implIsDyck_any (l : List UInt8) (w : World) (hl : l.length ≤ 1000000000) :
    Calls Try.prog 50 #[.string (bs l)] w fun e w' => e = .returned (.bool (dyck l)) ∧ Below w.heap.size w w' := by
  by_cases h16 : l.length ≤ 16
  · have HF := Lib.hid (show dyck l = pathB l by simp [dyck, h16])
    go_enter Try.func50, Try.ntmps50
    go_wp2_with fail
    refine (implheights_any _ _ h16).mono ?_
    rintro e w1 ⟨A, n, c, rfl, hb, _⟩
    go_wp2_with fail
    go_ret
    exact ⟨ret_bool (by rw [HF.out]), hb⟩
  · have HF := Lib.hid (show dyck l = false by simp [dyck, h16])
    go_enter Try.func50, Try.ntmps50
    go_wp2_with fail
    go_ret
    exact ⟨ret_bool (by rw [HF.out]), Below.refl _ _⟩
/-- The heights of a path, none of another word. -/
def htsD (l : List UInt8) : List Int := if dyck l then hts l else []
theorem implHeightsOf_any (l : List UInt8) (w : World) (hl : l.length ≤ 1000000000) :
    Calls Try.prog 88 #[.string (bs l)] w fun e w' => ∃ A n c, n = (htsD l).length ∧ e = .returned (.slice A n c) ∧ OSeg w' 3 w.heap.size w'.heap.size A n c (iv (htsD l)) ∧ Below w.heap.size w w' := by
  rcases hd : dyck l with _ | _
  · have HF := Lib.hid (show htsD l = [] by simp [htsD, hd])
    have HD := Lib.hid hd
    clear hd
    go_enter Try.func88, Try.ntmps88
    go_wp2_with fail
    refine (implIsDyck_any _ _ hl).mono ?_
    rintro e w1 ⟨rfl, hb⟩
    rw [HD.out]
    go_wp2_with fail
    go_ret
    rw [HF.out]
    exact ⟨_, 0, 0, rfl, rfl, OSeg.mk' ((own_empty w1).mono hb.size), hb.alloc hb.size _⟩
  · have HF := Lib.hid (show htsD l = hts l by simp [htsD, hd])
    obtain ⟨h1, h2, h3⟩ := dyck_pathB hd
    have HD := Lib.hid hd
    have HO := Lib.hid h2
    clear hd h2 h3
    go_enter Try.func88, Try.ntmps88
    go_wp2_with fail
    refine (implIsDyck_any _ _ hl).mono ?_
    rintro e w1 ⟨rfl, hb⟩
    rw [HD.out]
    go_wp2_with fail
    refine (implheights_any _ _ h1).mono ?_
    rintro e w2 ⟨A, n, c, rfl, hb2, hr⟩
    obtain ⟨hn, hs⟩ := hr HO.out
    have HS := Lib.hid hs
    have HN := Lib.hid hn
    clear hs hn hr
    go_wp2_with fail
    go_ret
    rw [HF.out]
    refine ⟨A, n, c, by rw [hts_len]; exact HN.out, rfl, ⟨HS.out.1.mono hb.size, HS.out.2⟩, hb.trans (hb2.mono hb.size)⟩
set_option maxHeartbeats 800000 in
theorem specHeightsOf_any (l : List UInt8) (w : World) (hl : l.length ≤ 1000000000) :
    Calls Try.prog 90 #[.string (bs l)] w fun e w' => ∃ A n c, n = (htsD l).length ∧ e = .returned (.slice A n c) ∧ OSeg w' 3 w.heap.size w'.heap.size A n c (iv (htsD l)) ∧ Below w.heap.size w w' := by
  rcases hd : dyck l with _ | _
  · have HF := Lib.hid (show htsD l = [] by simp [htsD, hd])
    have HD := Lib.hid hd
    clear hd
    go_enter Try.func90, Try.ntmps90
    go_wp2_with fail
    refine (specIsDyck_any _ _ hl).mono ?_
    rintro e w1 ⟨rfl, rfl⟩
    rw [HD.out]
    go_wp2_with fail
    go_ret
    rw [HF.out]
    exact ⟨_, 0, 0, rfl, rfl, OSeg.mk' (own_empty w), (Below.refl _ _).alloc (Nat.le_refl _) _⟩
  · have HF := Lib.hid (show htsD l = hts l by simp [htsD, hd])
    obtain ⟨h1, h2, h3⟩ := dyck_pathB hd
    have HD := Lib.hid hd
    have HO := Lib.hid h2
    clear hd h2 h3
    go_enter Try.func90, Try.ntmps90
    go_wp2_with fail
    refine (specIsDyck_any _ _ hl).mono ?_
    rintro e w1 ⟨rfl, rfl⟩
    rw [HD.out]
    go_wp2_with fail
    go_loopw [3, 4, 5] (fun s t i wr => ∃ (k : Nat) (A : Option Addr) (c : Nat), k ≤ l.length ∧ i = .int .i64 k ∧ t = .int .i64 (hat l k) ∧ s = .slice A k c ∧ Own wr 3 w.heap.size A k c (iv (htsTo l k)) ∧ Below w.heap.size w wr) (fun _ _ i _ => l.length - (intOf i).toNat)
    case atStart => exact ⟨0, _, _, Nat.zero_le _, rfl, rfl, rfl, own_empty w, (Below.refl _ _).alloc (Nat.le_refl _) _⟩
    case round =>
      obtain ⟨k, A, cp, hk, rfl, rfl, rfl, hown, hb⟩ := hrel
      have HW := Lib.hid hown
      clear hown
      have hbs := hb.size
      have hbd := hat_bd l k
      obtain ⟨H, hH⟩ : ∃ H, H = hat l k := ⟨_, rfl⟩
      rw [← hH] at hbd ⊢
      have HH := Lib.hid hH
      clear hH
      by_cases hlt : k < l.length
      · obtain ⟨c, hc⟩ : ∃ c, l[k] = c := ⟨_, rfl⟩
        have HC := Lib.hid (show l[k]? = some c by rw [List.getElem?_eq_getElem hlt, hc])
        by_cases hu : c = 117
        · subst hu
          have e1 : (((l[k]'hlt).toNat : Int) == 117) = true := by rw [hc]; rfl
          clear hc
          go_wp2_with (at_builtin; refine appI _ rfl _ _ rfl w.heap.size A k cp _ rfl (HW.out.alloc _) wr.heap.size H rfl (by simp) (by omega) hbs ?_; intro A' c' w' hown' hg' hb')
          have HW' := Lib.hid hown'
          clear hown'
          go_wp2_with fail
          go_roundw
          case rel => exact ⟨k + 1, A', c', by omega, by go_num, by rw [hat_u HC.out, HH.out], rfl, by rw [htsTo_succ, iv_snoc, ← HH.out]; exact HW'.out, (hb.alloc hb.size _).trans hb'⟩
          case measure => simp [intOf]; omega
        · have h1 : (((l[k]'hlt).toNat : Int) == 117) = false := by rw [hc]; exact u8_ne hu
          clear hc
          have HU := Lib.hid hu
          clear hu
          go_wp2_with (at_builtin; refine appI _ rfl _ _ rfl w.heap.size A k cp _ rfl (HW.out.alloc _) wr.heap.size H rfl (by simp) (by omega) hbs ?_; intro A' c' w' hown' hg' hb')
          have HW' := Lib.hid hown'
          clear hown'
          go_wp2_with fail
          go_roundw
          case rel => exact ⟨k + 1, A', c', by omega, by go_num, by rw [hat_d HC.out HU.out, HH.out], rfl, by rw [htsTo_succ, iv_snoc, ← HH.out]; exact HW'.out, (hb.alloc hb.size _).trans hb'⟩
          case measure => simp [intOf]; omega
      · have hkn : k = l.length := by omega
        have HK := Lib.hid hkn
        clear hkn
        go_wp2_with (at_builtin; refine appI _ rfl _ _ rfl w.heap.size A k cp _ rfl (HW.out.alloc _) wr.heap.size H rfl (by simp) (by omega) hbs ?_; intro A' c' w' hown' hg' hb')
        have HW'' := Lib.hid hown'
        clear hown'
        go_wp2_with fail
        go_ret
        rw [HF.out]
        refine ⟨A', k + 1, c', by rw [hts_len, HK.out], rfl, OSeg.mk' ?_, (hb.alloc hb.size _).trans hb'⟩
        rw [hts, htsTo_succ, iv_snoc, ← HK.out, ← HH.out]
        exact HW''.out

end Go.Proofs.Yteiffomekjadgaa
