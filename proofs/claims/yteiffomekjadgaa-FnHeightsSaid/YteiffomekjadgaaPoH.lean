/- PathOfHeights of both sides, at the heights of a path. -/
import Derived.Test.YteiffomekjadgaaBetwL
import Derived.Test.YteiffomekjadgaaHeights
import Derived.Test.YteiffomekjadgaaNum
import Derived.Test.YteiffomekjadgaaSame
import Derived.Test.YteiffomekjadgaaAppB
namespace Go.Proofs.Yteiffomekjadgaa
open Go.RowKit

theorem hts_at2 {l : List UInt8} {k : Nat} (h : k ≤ l.length) : (hts l)[k]? = some (hat l k) := by
  unfold hts htsTo
  rw [List.getElem?_map, List.getElem?_range (by omega)]; rfl
theorem take_snoc8 {l : List UInt8} {k : Nat} {c : UInt8} (h : l[k]? = some c) : l.take (k + 1) = l.take k ++ [c] := by
  obtain ⟨h1, h2⟩ := List.getElem?_eq_some_iff.1 h
  rw [List.take_succ_eq_append_getElem h1, h2]
theorem dyck_letter {l : List UInt8} (h : dyck l = true) {k : Nat} (hk : k < l.length) : l[k]? = some 117 ∨ l[k]? = some 100 := by
  have h1 := okB_mono (dyck_pathB h).2.1 (show k + 1 ≤ l.length by omega)
  simp only [okB, Bool.and_eq_true, Bool.or_eq_true, beq_iff_eq] at h1
  exact h1.1.2

set_option maxHeartbeats 1000000 in
theorem specPathOfHeights_good (A : Option Addr) (n c : Nat) (l : List UInt8) (w : World) (h : Rd w A n (iv (hts l))) (hd : dyck l = true) :
    Calls Try.prog 115 #[.slice A n c] w fun e w' => e = .returned (.tuple #[.string (bs l), .bool true]) ∧ ∃ m, w' = w.drewN m := by
  have HR := Lib.hid h
  have hn : n = l.length + 1 := by have := h.len; rw [iv_len, hts_len] at this; omega
  have h16 := (dyck_pathB hd).1
  have HD := Lib.hid hd
  have HN := Lib.hid hn
  have hn1 : 1 ≤ n := by omega
  have hn2 : n ≤ 17 := by omega
  have hl9 : l.length ≤ 1000000000 := by omega
  clear h hd
  obtain ⟨b, off, x0, hA, hx0, hc0⟩ := HR.out.ati (show 0 < n by omega)
  obtain rfl : x0 = 0 := by rw [hts_at2 (Nat.zero_le _)] at hx0; cases hx0; rfl
  clear hx0
  rw [Nat.add_zero] at hc0
  subst hA
  obtain ⟨L, hL⟩ : ∃ L, L = l.length := ⟨_, rfl⟩
  have hnL : n = L + 1 := by omega
  rw [← hL] at h16
  have HL := Lib.hid hL
  subst hnL
  clear hn hL
  go_enter Try.func115, Try.ntmps115
  go_wp2_with fail
  go_loopw [4, 5] (fun s i wr => ∃ k m : Nat, k ≤ L ∧ i = .int .i64 ((k : Int) + 1) ∧ s = .string (bs (l.take k)) ∧ wr = w.drewN m) (fun _ i _ => L + 1 - (intOf i).toNat)
  case atStart => exact ⟨0, 0, Nat.zero_le _, rfl, rfl, rfl⟩
  case round =>
    obtain ⟨k, m, hk, rfl, rfl, rfl⟩ := hrel
    by_cases hlt : k < L
    · obtain ⟨b1, o1, y, hA1, hy, hcy⟩ := HR.out.ati (show k + 1 < L + 1 by omega)
      obtain ⟨b2, o2, x, hA2, hx, hcx⟩ := HR.out.ati (show k < L + 1 by omega)
      cases hA1
      cases hA2
      rw [hts_at2 (by have := HL.out; omega)] at hx hy
      have ey : hat l (k + 1) = y := by injection hy
      have ex : hat l k = x := by injection hx
      have bx : 0 ≤ x ∧ x ≤ 8 := by rw [← ex]; exact ⟨dyck_nn HD.out k (by have := HL.out; omega), dyck_8 HD.out (by have := HL.out; omega)⟩
      have by' : 0 ≤ y ∧ y ≤ 8 := by rw [← ey]; exact ⟨dyck_nn HD.out (k + 1) (by have := HL.out; omega), dyck_8 HD.out (by have := HL.out; omega)⟩
      have I1 := Lib.hid (inB_true (x := y) (lo := 0) (hi := 8) by'.1 by'.2)
      have I2 := Lib.hid (inB_true (x := x) (lo := 0) (hi := 8) bx.1 bx.2)
      have k0 : (0 : Int) ≤ (k : Int) := by omega
      have k1 : (k : Int) < ((L + 1 : Nat) : Int) := by omega
      have k2 : (0 : Int) ≤ (k : Int) + 1 := by omega
      have k3 : (k : Int) + 1 < ((L + 1 : Nat) : Int) := by omega
      have k4 : ((k : Int) + 1).toNat = k + 1 := by omega
      have s1 : (l.take k).length ≤ 16 := by rw [List.length_take]; have := HL.out; omega
      rcases dyck_letter HD.out (show k < l.length by have := HL.out; omega) with hu | hu
      · have w1 : IntKind.i64.wrap (y - x) = 1 := by rw [show y - x = 1 by rw [← ey, ← ex, hat_u hu]; omega]; decide
        have w2 : IntKind.i64.wrap ((k : Int) + 1 - 1) = (k : Int) := by rw [show (k : Int) + 1 - 1 = (k : Int) by omega]; exact IntWalk.i64_in _ (by omega)
        have w3 : IntKind.i64.wrap (k : Int) = (k : Int) := IntWalk.i64_in _ (by omega)
        have p1 : ¬ 9223372036854775807 < (l.take k).length + 1 := by omega
        have HT := Lib.hid (take_snoc8 hu)
        clear hx hy ex ey hu
        go_wp2_with fail
        refine (l1In_any _ _ _ _).mono ?_
        rintro e w' ⟨rfl, rfl⟩
        rw [I1.out]
        go_wp2_with fail
        refine (l1In_any _ _ _ _).mono ?_
        rintro e w' ⟨rfl, rfl⟩
        rw [I2.out]
        go_wp2_with fail
        go_quiet (fail)
        go_wp2_with fail
        go_roundw
        case rel => exact ⟨k + 1, _, by omega, by go_num, by rw [HT.out, bs_lit, bs_append], rfl⟩
        case measure => simp [intOf]; omega
      · have w1 : IntKind.i64.wrap (y - x) = -1 := by rw [show y - x = -1 by rw [← ey, ← ex, hat_d hu (by decide)]; omega]; decide
        have w2 : IntKind.i64.wrap ((k : Int) + 1 - 1) = (k : Int) := by rw [show (k : Int) + 1 - 1 = (k : Int) by omega]; exact IntWalk.i64_in _ (by omega)
        have w3 : IntKind.i64.wrap (k : Int) = (k : Int) := IntWalk.i64_in _ (by omega)
        have p1 : ¬ 9223372036854775807 < (l.take k).length + 1 := by omega
        have HT := Lib.hid (take_snoc8 hu)
        clear hx hy ex ey hu
        go_wp2_with fail
        refine (l1In_any _ _ _ _).mono ?_
        rintro e w' ⟨rfl, rfl⟩
        rw [I1.out]
        go_wp2_with fail
        refine (l1In_any _ _ _ _).mono ?_
        rintro e w' ⟨rfl, rfl⟩
        rw [I2.out]
        go_wp2_with fail
        go_quiet (fail)
        go_wp2_with fail
        go_roundw
        case rel => exact ⟨k + 1, _, by omega, by go_num, by rw [HT.out, bs_lit, bs_append], rfl⟩
        case measure => simp [intOf]; omega
    · have hkn : k = L := by omega
      have HT := Lib.hid (show l.take k = l by rw [List.take_of_length_le (by have := HL.out; omega)])
      clear hkn
      go_wp2_with fail
      rw [HT.out]
      refine (specIsDyck_any l _ hl9).mono ?_
      rintro e w' ⟨rfl, rfl⟩
      rw [HD.out]
      go_wp2_with fail
      go_ret2
      exact ⟨rfl, m, rfl⟩

set_option maxHeartbeats 1000000 in
theorem implPathOfHeights_good (A : Option Addr) (n c : Nat) (l : List UInt8) (w : World) (h : Rd w A n (iv (hts l))) (hd : dyck l = true) :
    Calls Try.prog 114 #[.slice A n c] w fun e w' => e = .returned (.tuple #[.string (bs l), .bool true]) ∧ Below w.heap.size w w' := by
  have HR := Lib.hid h
  have hn : n = l.length + 1 := by have := h.len; rw [iv_len, hts_len] at this; omega
  have h16 := (dyck_pathB hd).1
  have HD := Lib.hid hd
  have hl9 : l.length ≤ 1000000000 := by omega
  clear h
  obtain ⟨L, hL⟩ : ∃ L, L = l.length := ⟨_, rfl⟩
  have hnL : n = L + 1 := by omega
  rw [← hL] at h16
  have HL := Lib.hid hL
  subst hnL
  have g0 : ((((L + 1 : Nat) : Int)) == 0) = false := by rw [beq_eq_false_iff_ne]; omega
  have g0' : ((L : Int) + 1 == 0) = false := by rw [beq_eq_false_iff_ne]; omega
  clear hn hL hd
  go_enter Try.func114, Try.ntmps114
  go_wp2_with fail
  go_loopw [4, 5] (fun s i wr => ∃ (k : Nat) (B : Option Addr) (d : Nat), k ≤ L ∧ i = .int .i64 ((k : Int) + 1) ∧ s = .slice B k d ∧ Own wr 5 w.heap.size B k d (bv (l.take k)) ∧ Below w.heap.size w wr) (fun _ i _ => L + 1 - (intOf i).toNat)
  case atStart => exact ⟨0, _, _, Nat.zero_le _, rfl, rfl, own_emptyB w, (Below.refl _ _).alloc (Nat.le_refl _) _⟩
  case round =>
    obtain ⟨k, B, d, hk, rfl, rfl, hown, hb⟩ := hrel
    have HO := Lib.hid hown
    have hbs := hb.size
    clear hown
    by_cases hlt : k < L
    · obtain ⟨b1, o1, y, hA1, hy, hcy⟩ := (HR.out.below hb).ati (show k + 1 < L + 1 by omega)
      obtain ⟨b2, o2, x, hA2, hx, hcx⟩ := (HR.out.below hb).ati (show k < L + 1 by omega)
      subst hA1
      cases hA2
      rw [hts_at2 (by have := HL.out; omega)] at hx hy
      have ey : hat l (k + 1) = y := by injection hy
      have ex : hat l k = x := by injection hx
      have k0 : (0 : Int) ≤ (k : Int) := by omega
      have k1 : (k : Int) < ((L + 1 : Nat) : Int) := by omega
      have k2 : (0 : Int) ≤ (k : Int) + 1 := by omega
      have k3 : (k : Int) + 1 < ((L + 1 : Nat) : Int) := by omega
      have k4 : ((k : Int) + 1).toNat = k + 1 := by omega
      have w2 : IntKind.i64.wrap ((k : Int) + 1 - 1) = (k : Int) := by rw [show (k : Int) + 1 - 1 = (k : Int) by omega]; exact IntWalk.i64_in _ (by omega)
      have w3 : IntKind.i64.wrap (k : Int) = (k : Int) := IntWalk.i64_in _ (by omega)
      rcases dyck_letter HD.out (show k < l.length by have := HL.out; omega) with hu | hu
      · have hyx : x < y := by rw [← ey, ← ex, hat_u hu]; omega
        have HT := Lib.hid (take_snoc8 hu)
        clear hx hy ex ey hu
        go_wp2_with fail
        go_quiet (fail)
        go_wp2_with (at_builtin; refine appB _ rfl _ _ rfl w.heap.size B k d (bv (l.take k)) rfl ((HO.out.drewN nq).alloc _) wr.heap.size 117 rfl (by show ((wr.drewN nq).alloc _).cell? ⟨(wr.drewN nq).heap.size, 0, none⟩ = _; rw [World.cell?_alloc_new]; rfl) (by omega) hbs ?_; intro A' c' w' hown' hg' hb')
        have HW' := Lib.hid hown'
        clear hown' hg'
        go_wp2_with fail
        go_roundw
        case rel => exact ⟨k + 1, A', c', by omega, by go_num, rfl, by rw [HT.out, bv_snoc]; exact HW'.out, ((below_drewN' hb nq).alloc hbs _).trans hb'⟩
        case measure => simp [intOf]; omega
      · have hyx : ¬ x < y := by rw [← ey, ← ex, hat_d hu (by decide)]; omega
        have HT := Lib.hid (take_snoc8 hu)
        clear hx hy ex ey hu
        go_wp2_with fail
        go_quiet (fail)
        go_wp2_with (at_builtin; refine appB _ rfl _ _ rfl w.heap.size B k d (bv (l.take k)) rfl ((HO.out.drewN nq).alloc _) wr.heap.size 100 rfl (by show ((wr.drewN nq).alloc _).cell? ⟨(wr.drewN nq).heap.size, 0, none⟩ = _; rw [World.cell?_alloc_new]; rfl) (by omega) hbs ?_; intro A' c' w' hown' hg' hb')
        have HW' := Lib.hid hown'
        clear hown' hg'
        go_wp2_with fail
        go_roundw
        case rel => exact ⟨k + 1, A', c', by omega, by go_num, rfl, by rw [HT.out, bv_snoc]; exact HW'.out, ((below_drewN' hb nq).alloc hbs _).trans hb'⟩
        case measure => simp [intOf]; omega
    · have hkn : k = L := by omega
      have HO2 := Lib.hid (show Own wr 5 w.heap.size B k d (bv l) by have := HO.out; rw [List.take_of_length_le (by have := HL.out; omega)] at this; exact this)
      have hcv := run_cv (P := Try.prog) wr 22 5 9 Try.underlying22 Try.underlying5 Try.underlying9 _ _ _ _ _ _ HO2.out
      have HK := Lib.hid hkn
      clear hkn
      go_wp2_with fail
      refine (implHeightsOf_any l _ hl9).mono ?_
      rintro e w1 ⟨A1, n1, c1, hn1, rfl, ho1, hb1⟩
      rw [htsD_of HD.out] at hn1 ho1
      have HO1 := Lib.hid ho1
      have hn9 : n1 ≤ 1000000000 := by rw [hn1, hts_len]; have := HL.out; omega
      have HRR := Lib.hid ((HR.out.below hb).below hb1)
      have HO3 := Lib.hid (HO2.out.below hb1)
      have hb01 := hb.trans (hb1.mono hbs)
      clear hn1 ho1 hcv
      go_wp2_with fail
      refine (equalInts_any _ _ _ _ _ _ (hts l) (hts l) _ HO1.out.rd HRR.out hn9 (by omega)).mono ?_
      rintro e w2 ⟨rfl, m, rfl⟩
      rw [show decide (hts l = hts l) = true by simp]
      have hcv := run_cv (P := Try.prog) (w1.drewN m) 22 5 9 Try.underlying22 Try.underlying5 Try.underlying9 _ _ _ _ _ _ (HO3.out.drewN m)
      go_wp2_with fail
      go_ret2
      exact ⟨rfl, below_drewN' hb01 m⟩

end Go.Proofs.Yteiffomekjadgaa
