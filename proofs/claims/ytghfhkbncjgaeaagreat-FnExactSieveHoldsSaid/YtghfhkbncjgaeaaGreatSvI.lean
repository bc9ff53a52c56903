/- SieveHolds of both sides. -/
import Derived.Test.YtghfhkbncjgaeaaGreatSvL
import Derived.Test.YtghfhkbncjgaeaaGreatMg41
import Derived.Test.YtghfhkbncjgaeaaGreatMg49
import Derived.Test.YtghfhkbncjgaeaaGreatMg51
import Derived.BigQuiet
namespace Go.Proofs.YtghfhkbncjgaeaaGreat
set_option linter.unusedVariables false
open Go.RowKit

set_option maxHeartbeats 1000000 in
theorem gcd_any (a b : Nat) (w : World) (ha : a ≤ 1000000) (hb : b ≤ 1000000) : Calls Tryz.prog 36 #[.int .i64 a, .int .i64 b] w fun e w' => e = .returned (.int .i64 (Nat.gcd a b : Nat)) ∧ ∃ q, w' = w.drewN q := by
  go_enter Tryz.func36, Tryz.ntmps36
  go_wp2_with fail
  go_loopw [0, 1] (fun xv yv wr => ∃ x y q : Nat, x ≤ 1000000 ∧ y ≤ 1000000 ∧ xv = .int .i64 x ∧ yv = .int .i64 y ∧ Hid (Nat.gcd x y = Nat.gcd a b) ∧ wr = w.drewN q) (fun _ yv _ => (intOf yv).toNat)
  case atStart => exact ⟨a, b, 0, ha, hb, rfl, rfl, Lib.hid rfl, rfl⟩
  case round =>
    obtain ⟨x, y, q, hx, hy, rfl, rfl, hg, rfl⟩ := hrel
    by_cases h0 : y = 0
    · subst h0
      go_wp2_with fail
      go_ret
      exact ⟨ret_int (by rw [← hg.out, Nat.gcd_zero_right]), q, rfl⟩
    · have n0 : ((y : Int) != 0) = true := by simp; omega
      have n1 : ((y : Int) == 0) = false := by simp; omega
      have n2 : ¬ (y : Int) = 0 := by omega
      have m1 : Int.tmod (x : Int) (y : Int) = ((x % y : Nat) : Int) := rfl
      have hlt : x % y < y := Nat.mod_lt _ (by omega)
      have HG := Lib.hid (show Nat.gcd y (x % y) = Nat.gcd a b by rw [← hg.out, Nat.gcd_comm x y, Nat.gcd_rec y x, Nat.gcd_comm])
      obtain ⟨z, hz⟩ : ∃ z, z = x % y := ⟨_, rfl⟩
      rw [← hz] at m1 hlt HG
      clear hz hg
      go_wp2_with fail
      go_quiet (fail)
      go_wp2_with fail
      go_roundw
      case rel => exact ⟨y, z, _, hy, by omega, rfl, rfl, HG, by rw [World.drewN_drewN]⟩
      case measure => simp [intOf]; omega

set_option maxHeartbeats 1000000 in
theorem l15Order_any {o k : Nat} (ho : o ≤ 10) (hk : k < o) (w : World) : Calls Tryz.prog 38 #[.int .i64 o, .int .i64 k] w fun e w' => e = .returned (.int .i64 (o / Nat.gcd o k : Nat)) ∧ w = w' := by
  obtain ⟨h1, h2, -, h3, h4⟩ := rd_at ho hk
  obtain ⟨r, hr⟩ : ∃ r, r = o / Nat.gcd o k := ⟨_, rfl⟩
  rw [← hr] at h1 h2 h3 h4 ⊢
  have H3 := Lib.hid h3
  have H4 := Lib.hid h4
  have n0 : ((o : Int) == 0) = false := by simp; omega
  have n2 : ¬ (o : Int) = 0 := by omega
  clear h3 h4 hr
  go_enter Tryz.func38, Tryz.ntmps38
  go_wp2_with fail
  go_loop [5] (fun dv => ∃ d : Nat, 1 ≤ d ∧ d ≤ r ∧ dv = .int .i64 d) (fun dv => r - (intOf dv).toNat)
  case atStart => exact ⟨1, Nat.le_refl _, h1, rfl⟩
  case round =>
    obtain ⟨d, hd1, hdr, rfl⟩ := hrel
    by_cases hlt : d < o
    · have hmul : d * k ≤ 100 := Nat.mul_le_mul (show d ≤ 10 by omega) (show k ≤ 10 by omega)
      have wm : IntKind.i64.wrap ((d : Int) * (k : Int)) = ((d * k : Nat) : Int) := by rw [← Int.natCast_mul]; exact IntWalk.i64_in _ (by omega)
      have wm' : IntKind.i64.wrap (((d * k : Nat) : Int)) = ((d * k : Nat) : Int) := IntWalk.i64_in _ (by omega)
      have m1 : Int.tmod ((d : Int) * (k : Int)) (o : Int) = ((d * k % o : Nat) : Int) := by rw [← Int.natCast_mul]; rfl
      by_cases hit : d = r
      · have e1 : (((d * k % o : Nat) : Int) == 0) = true := by rw [hit, H3.out (by omega)]; rfl
        subst hit
        obtain ⟨z, hz⟩ : ∃ z, z = d * k % o := ⟨_, rfl⟩
        rw [← hz] at m1 e1
        clear hz
        go_wp2_with fail
        go_ret
        exact ⟨rfl, rfl⟩
      · have e1 : (((d * k % o : Nat) : Int) == 0) = false := by
          have := H4.out d hd1 (by omega)
          rw [beq_eq_false_iff_ne]; omega
        obtain ⟨z, hz⟩ : ∃ z, z = d * k % o := ⟨_, rfl⟩
        rw [← hz] at m1 e1
        clear hz
        go_wp2_with fail
        go_round
        case rel => exact ⟨d + 1, by omega, by omega, by go_num⟩
        case measure => simp [intOf]; omega
    · obtain rfl : r = o := by omega
      go_wp2_with fail
      go_ret
      exact ⟨rfl, rfl⟩

set_option maxRecDepth 20000 in
set_option maxHeartbeats 4000000 in
theorem implSieveHolds_any (f : List UInt8) (n : Int) (w : World) : Calls Tryz.prog 10 #[.string (bs f), .int .i64 n] w fun e w' => e = .returned (.bool (svT f n)) ∧ Below w.heap.size w w' := by
  rcases ordT_cases f n with h1 | ⟨N, rfl, hN1, hN5, hf, ho, ho1, ho2⟩
  · have HO := Lib.hid h1
    have HF := Lib.hid (show svT f n = false by unfold svT; rw [h1]; rfl)
    clear h1
    go_enter Tryz.func10, Tryz.ntmps10
    go_wp2_with fail
    refine (implOrderOfTurn_any _ _ _).mono ?_
    rintro e w' ⟨rfl, rfl⟩
    rw [HO.out]
    go_wp2_with fail
    go_ret
    exact ⟨ret_bool (by rw [HF.out]), Below.refl _ _⟩
  have HF := Lib.hid (show svT f N = true by unfold svT; rw [ho, decide_eq_true_eq]; omega)
  have HSV := Lib.hid (fun k (hk : k < ordN f N) => sv_at hf hN1 hN5 hk)
  have HFX := Lib.hid (fun (k : Nat) (hk : k < ordN f N) => show fixT f N k = (fixTo (nxT f N) k (paths N).length : Int) by unfold fixT; rw [ho, inB_iff.2 (by omega), Int.toNat_natCast, Int.toNat_natCast]; rfl)
  have HCO := Lib.hid (catP_ok hN5)
  have HCL := Lib.hid (catP_len (N : Int))
  obtain ⟨od, hod⟩ : ∃ od, od = ordN f N := ⟨_, rfl⟩
  rw [← hod] at ho ho1 ho2 HSV HFX
  have HO := Lib.hid ho
  have n1 : ¬ (od : Int) < 0 := by omega
  obtain ⟨CP, hCP⟩ : ∃ C, C = (catP (N : Int)).1 := ⟨_, rfl⟩
  have HCP := Lib.hid hCP
  rw [← hCP] at HSV HCL
  obtain ⟨FX, hFX⟩ : ∃ F : Nat → Nat, F = fun k => fixTo (nxT f N) k (paths N).length := ⟨_, rfl⟩
  have HSV2 := Lib.hid (fun k (hk : k < od) => show vrP CP ((od / Nat.gcd od k : Nat) : Int) = ((FX k : Int), true) by rw [HSV.out k hk, hFX])
  have HFX2 := Lib.hid (fun (k : Nat) (hk : k < od) => show fixT f N k = (FX k : Int) by rw [HFX.out k hk, hFX])
  clear ho hf hod hCP hFX HSV HFX
  go_enter Tryz.func10, Tryz.ntmps10
  go_wp2_with fail
  refine (implOrderOfTurn_any _ _ _).mono ?_
  rintro e w' ⟨rfl, rfl⟩
  rw [HO.out]
  go_wp2_with fail
  refine (implCatalanPolynomial_any _ _).mono ?_
  rintro e w1 ⟨Ac, m, c, hm, rfl, hown, hb1⟩
  rw [HCO.out]
  rw [← HCP.out] at hm hown
  have R := Lib.hid hown.rd
  have HM := Lib.hid (show m ≤ 1048576 by rw [hm]; exact HCL.out)
  have hs1 := hb1.size
  have HB1 := Lib.hid hb1
  clear hm hown hb1
  go_wp2_with fail
  go_loopw [8, 9, 10] (fun kv _ _ wr => ∃ k : Nat, k ≤ od ∧ kv = .int .i64 k ∧ Below w1.heap.size w1 wr) (fun kv _ _ _ => od - (intOf kv).toNat)
  case atStart => exact ⟨0, Nat.zero_le _, rfl, Below.refl _ _⟩
  case round =>
    obtain ⟨k, hk, rfl, hbz⟩ := hrel
    have hsz := hbz.size
    have HBZ := Lib.hid hbz
    clear hbz
    by_cases hlt : k < od
    · obtain ⟨h1, h2, h3, -, -⟩ := rd_at ho2 hlt
      have HV := Lib.hid (HSV2.out k hlt)
      have HX := Lib.hid (HFX2.out k hlt)
      have d1 : Int.tdiv (od : Int) ((Nat.gcd od k : Nat) : Int) = ((od / Nat.gcd od k : Nat) : Int) := rfl
      have GC := Lib.hid (fun W => gcd_any od k W (by omega) (by omega))
      obtain ⟨G, hG⟩ : ∃ g, g = Nat.gcd od k := ⟨_, rfl⟩
      rw [← hG] at h1 h2 h3 HV d1 GC
      obtain ⟨D, hD⟩ : ∃ d, d = od / G := ⟨_, rfl⟩
      rw [← hD] at h1 h2 HV d1
      obtain ⟨X, hX⟩ : ∃ X, X = FX k := ⟨_, rfl⟩
      rw [← hX] at HV HX
      have g0 : ((G : Int) == 0) = false := by simp; omega
      have g2 : ¬ (G : Int) = 0 := by omega
      have x1 : ((X : Int) != (X : Int)) = false := by simp
      clear hG hD hX
      go_wp2_with fail
      refine (GC.out _).mono ?_
      rintro e w2 ⟨rfl, hq2⟩
      have hb2 : Below wr.heap.size wr w2 := below_of_drewN hq2
      have B2 := Lib.hid (HBZ.out.trans (hb2.mono hsz))
      have hs2 := hb2.size
      clear hq2 hb2
      go_wp2_with fail
      refine (implValueAtRoot_any _ _ _ _ _ _ (R.out.below B2.out) (by have := HM.out; omega)).mono ?_
      rintro e w3 ⟨rfl, hb3⟩
      rw [HV.out]
      have B3 := Lib.hid (B2.out.trans (hb3.mono (by omega)))
      have hs3 := hb3.size
      clear hb3
      go_wp2_with fail
      refine (implFixedByTurn_any _ _ _ _).mono ?_
      rintro e w4 ⟨rfl, hb4⟩
      rw [HX.out]
      have B4 := Lib.hid (B3.out.trans (hb4.mono (by omega)))
      clear hb4
      go_wp2_with fail
      go_roundw
      case rel => exact ⟨k + 1, by omega, by go_num, B4.out⟩
      case measure => simp [intOf]; omega
    · obtain rfl : k = od := by omega
      go_wp2_with fail
      go_ret
      exact ⟨ret_bool (by rw [HF.out]), HB1.out.trans (HBZ.out.mono hs1)⟩

set_option maxRecDepth 20000 in
set_option maxHeartbeats 4000000 in
theorem specSieveHolds_any (f : List UInt8) (n : Int) (w : World) : Calls Tryz.prog 11 #[.string (bs f), .int .i64 n] w fun e w' => e = .returned (.bool (svT f n)) ∧ Below w.heap.size w w' := by
  rcases ordT_cases f n with h1 | ⟨N, rfl, hN1, hN5, hf, ho, ho1, ho2⟩
  · have HO := Lib.hid h1
    have HF := Lib.hid (show svT f n = false by unfold svT; rw [h1]; rfl)
    clear h1
    go_enter Tryz.func11, Tryz.ntmps11
    go_wp2_with fail
    refine (specOrderOfTurn_any _ _ _).mono ?_
    rintro e w' ⟨rfl, rfl⟩
    rw [HO.out]
    go_wp2_with fail
    refine (specCatalanPolynomial_any _ _).mono ?_
    rintro e w1 ⟨Ac, m, c, hm, rfl, hown, hb1⟩
    clear hm hown
    have HB1 := Lib.hid hb1
    clear hb1
    obtain ⟨b, hb⟩ : ∃ b, b = (catP n).2 := ⟨_, rfl⟩
    rw [← hb]
    clear hb
    go_wp2_with fail
    go_loopw [8, 9, 10] (fun kv _ _ wr => kv = .int .i64 0 ∧ wr = w1) (fun _ _ _ _ => 0)
    case atStart => exact ⟨rfl, rfl⟩
    case round =>
      obtain ⟨rfl, rfl⟩ := hrel
      cases b
      · go_wp2_with fail
        go_ret
        exact ⟨ret_bool (by rw [HF.out]), HB1.out⟩
      · go_wp2_with fail
        go_ret
        exact ⟨ret_bool (by rw [HF.out]), HB1.out⟩
  have HF := Lib.hid (show svT f N = true by unfold svT; rw [ho, decide_eq_true_eq]; omega)
  have HSV := Lib.hid (fun k (hk : k < ordN f N) => sv_at hf hN1 hN5 hk)
  have HFX := Lib.hid (fun (k : Nat) (hk : k < ordN f N) => show fixT f N k = (fixTo (nxT f N) k (paths N).length : Int) by unfold fixT; rw [ho, inB_iff.2 (by omega), Int.toNat_natCast, Int.toNat_natCast]; rfl)
  have HCO := Lib.hid (catP_ok hN5)
  have HCL := Lib.hid (catP_len (N : Int))
  obtain ⟨od, hod⟩ : ∃ od, od = ordN f N := ⟨_, rfl⟩
  rw [← hod] at ho ho1 ho2 HSV HFX
  have HO := Lib.hid ho
  have n1 : (0 : Int) < (od : Int) := by omega
  obtain ⟨CP, hCP⟩ : ∃ C, C = (catP (N : Int)).1 := ⟨_, rfl⟩
  have HCP := Lib.hid hCP
  rw [← hCP] at HSV HCL
  obtain ⟨FX, hFX⟩ : ∃ F : Nat → Nat, F = fun k => fixTo (nxT f N) k (paths N).length := ⟨_, rfl⟩
  have HSV2 := Lib.hid (fun k (hk : k < od) => show vrP CP ((od / Nat.gcd od k : Nat) : Int) = ((FX k : Int), true) by rw [HSV.out k hk, hFX])
  have HFX2 := Lib.hid (fun (k : Nat) (hk : k < od) => show fixT f N k = (FX k : Int) by rw [HFX.out k hk, hFX])
  clear ho hf hod hCP hFX HSV HFX
  go_enter Tryz.func11, Tryz.ntmps11
  go_wp2_with fail
  refine (specOrderOfTurn_any _ _ _).mono ?_
  rintro e w' ⟨rfl, rfl⟩
  rw [HO.out]
  go_wp2_with fail
  refine (specCatalanPolynomial_any _ _).mono ?_
  rintro e w1 ⟨Ac, m, c, hm, rfl, hown, hb1⟩
  rw [HCO.out]
  rw [← HCP.out] at hm hown
  have R := Lib.hid hown.rd
  have HM := Lib.hid (show m ≤ 1048576 by rw [hm]; exact HCL.out)
  have hs1 := hb1.size
  have HB1 := Lib.hid hb1
  clear hm hown hb1
  go_wp2_with fail
  go_loopw [8, 9, 10] (fun kv _ _ wr => ∃ k : Nat, k ≤ od ∧ kv = .int .i64 k ∧ Below w1.heap.size w1 wr) (fun kv _ _ _ => od - (intOf kv).toNat)
  case atStart => exact ⟨0, Nat.zero_le _, rfl, Below.refl _ _⟩
  case round =>
    obtain ⟨k, hk, rfl, hbz⟩ := hrel
    have hsz := hbz.size
    have HBZ := Lib.hid hbz
    clear hbz
    by_cases hlt : k < od
    · have HV := Lib.hid (HSV2.out k hlt)
      have HX := Lib.hid (HFX2.out k hlt)
      have LO := Lib.hid (fun W => l15Order_any ho2 hlt W)
      obtain ⟨D, hD⟩ : ∃ d, d = od / Nat.gcd od k := ⟨_, rfl⟩
      rw [← hD] at HV LO
      obtain ⟨X, hX⟩ : ∃ X, X = FX k := ⟨_, rfl⟩
      rw [← hX] at HV HX
      have x1 : ((X : Int) != (X : Int)) = false := by simp
      clear hD hX
      go_wp2_with fail
      refine (LO.out _).mono ?_
      rintro e w2 ⟨rfl, rfl⟩
      go_wp2_with fail
      refine (specValueAtRoot_any _ _ _ _ _ _ (R.out.below HBZ.out) (by have := HM.out; omega)).mono ?_
      rintro e w3 ⟨rfl, hb3⟩
      rw [HV.out]
      have B3 := Lib.hid (HBZ.out.trans (hb3.mono (by omega)))
      have hs3 := hb3.size
      clear hb3
      go_wp2_with fail
      refine (specFixedByTurn_any _ _ _ _).mono ?_
      rintro e w4 ⟨rfl, hb4⟩
      rw [HX.out]
      have B4 := Lib.hid (B3.out.trans (hb4.mono (by omega)))
      clear hb4
      go_wp2_with fail
      go_roundw
      case rel => exact ⟨k + 1, by omega, by go_num, B4.out⟩
      case measure => simp [intOf]; omega
    · obtain rfl : k = od := by omega
      go_wp2_with fail
      go_ret
      exact ⟨ret_bool (by rw [HF.out]; simp; omega), HB1.out.trans (HBZ.out.mono hs1)⟩

end Go.Proofs.YtghfhkbncjgaeaaGreat
