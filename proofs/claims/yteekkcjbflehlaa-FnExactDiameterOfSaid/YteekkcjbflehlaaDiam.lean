/- DiameterOf of both sides. -/
import Derived.Test.YteekkcjbflehlaaDiamL
import Derived.Deep.RegionHeld3
namespace Go.Proofs.Yteekkcjbflehlaa
set_option linter.unusedVariables false
open Go.RowKit Go.Deep

set_option maxRecDepth 20000 in
set_option maxHeartbeats 1000000 in
theorem specDiameterOf_good (n : Nat) (w : World) (hn : n ≤ 4) :
    Calls Try.prog 52 #[.int .i64 n] w fun e w' => e = .returned (.int .i64 (dS rdB (treesB n) (treesB n).length)) ∧ Below w.heap.size w w' := by
  have HB := Lib.hid (inB_true (x := n) (lo := 0) (hi := 4) (by omega) (by omega))
  obtain ⟨L, hL⟩ : ∃ L, L = treesB n := ⟨_, rfl⟩
  have HP := Lib.hid (show ∀ w, Calls Try.prog 95 #[.int .i64 n] w (RetS w L) from fun w => by rw [hL]; exact l17Trees_any n w (by omega))
  have hL6 : L.length ≤ 65536 := by rw [hL]; exact treesB_len (by omega)
  have hLm : ∀ x ∈ L, x.length ≤ 1000 := by rw [hL]; exact fun x hx => treesB_mlen (by omega) hx
  obtain ⟨rd, hrd⟩ : ∃ rd, rd = rdB := ⟨_, rfl⟩
  have HRD := Lib.hid (show ∀ x y, -1 ≤ rd x y ∧ rd x y ≤ 1048576 by rw [hrd]; exact rdB_bd)
  have HCA := Lib.hid (show ∀ (x y : Txt) w, x.length ≤ 1000000000 → y.length ≤ 1000000000 → Calls Try.prog 46 #[.string (bs x), .string (bs y)] w fun e w' => e = .returned (.int .i64 (rd x y)) ∧ Below w.heap.size w w' by rw [hrd]; exact fun x y w h1 h2 => specRotationDistance_any x y w h1 h2)
  rw [← hL, ← hrd]
  have HLM := Lib.hid hLm
  clear hL hLm hrd
  go_enter Try.func52, Try.ntmps52
  go_wp2_with fail
  refine (l1In_any _ _ _ _).mono ?_
  rintro e w' ⟨rfl, rfl⟩
  rw [HB.out]
  go_wp2_with fail
  refine (HP.out _).mono ?_
  rintro e w1 ⟨A, m, c, hm, rfl, ho, hb⟩
  have HR := Lib.hid ho.rd
  have HM := Lib.hid hm
  have hm6 : m ≤ 65536 := by rw [hm]; exact hL6
  have hs1 := hb.size
  clear ho hm
  go_wp2_with fail
  go_loopw [4, 5, 6] (fun k i _ wr => ∃ a : Nat, a ≤ m ∧ i = .int .i64 a ∧ k = .int .i64 (dS rd L a) ∧ Below w1.heap.size w1 wr) (fun _ i _ _ => m - (intOf i).toNat)
  case atStart => exact ⟨0, Nat.zero_le _, rfl, rfl, Below.refl _ _⟩
  case round =>
    obtain ⟨a, ha, rfl, rfl, hbl⟩ := hrel
    have hd := dS_bd HRD.out L a
    obtain ⟨K, hK⟩ : ∃ K, K = dS rd L a := ⟨_, rfl⟩
    rw [← hK] at hd ⊢
    have HK := Lib.hid hK
    clear hK
    by_cases hlt : a < m
    · obtain ⟨b1, o1, x, rfl, hx, hc1⟩ := (HR.out.below hbl).ats hlt
      have HX := Lib.hid (getDs hx)
      have hx9 : x.length ≤ 1000000000 := by have := HLM.out x (List.mem_of_getElem? hx); omega
      obtain ⟨w2, rfl⟩ : ∃ W, W = wr := ⟨wr, rfl⟩
      have HBD := Lib.hid (fun z => rowM_bd HRD.out x L hd z)
      clear hx
      go_wp2_with fail
      go_loopw [4, 6] (fun k j wr => ∃ z : Nat, z ≤ a ∧ j = .int .i64 z ∧ k = .int .i64 (rowM rd x L K z) ∧ Below w1.heap.size w1 wr) (fun _ j _ => m - (intOf j).toNat)
      case atStart => exact ⟨0, Nat.zero_le _, rfl, rfl, hbl⟩
      case round =>
        obtain ⟨z, hz, rfl, rfl, hbl2⟩ := hrel
        have hr := HBD.out z
        obtain ⟨R, hR⟩ : ∃ R, R = rowM rd x L K z := ⟨_, rfl⟩
        rw [← hR] at hr ⊢
        have HRR := Lib.hid hR
        have hs2 := hbl2.size
        clear hR
        by_cases hlt2 : z < a
        · obtain ⟨b2, o2, y, hA2, hy, hc2⟩ := (HR.out.below hbl2).ats (show z < m by omega)
          cases hA2
          obtain ⟨b3, o3, x', hA3, hx', hc3⟩ := (HR.out.below hbl2).ats hlt
          cases hA3
          obtain rfl : x = x' := by rw [← HX.out, getDs hx']
          have HY := Lib.hid (getDs hy)
          have hy9 : y.length ≤ 1000000000 := by have := HLM.out y (List.mem_of_getElem? hy); omega
          have a0 : (0 : Int) ≤ (a : Int) := by omega
          have a1 : (a : Int) < (m : Int) := by omega
          have z0 : (0 : Int) ≤ (z : Int) := by omega
          have z1 : (z : Int) < (m : Int) := by omega
          have z2 : (z : Int) < (a : Int) := by omega
          have hvb := HRD.out x y
          have HVC := Lib.hid (HCA.out x y)
          have HSV := Lib.hid (show rowM rd x L K (z + 1) = if R < rd x y then rd x y else R by rw [rowM, HY.out, ← HRR.out])
          obtain ⟨V, hV⟩ : ∃ V, V = rd x y := ⟨_, rfl⟩
          rw [← hV] at hvb HVC HSV
          clear hx' hy hV
          by_cases hmx : R < V
          · have HRC := Lib.hid (show rowM rd x L K (z + 1) = V by rw [HSV.out, if_pos hmx])
            go_wp2_with fail
            have hbl9 : b1 < wr.heap.size := World.block_lt_of_cell? _ _ hc2
            go_region_held3 (fun w' => w'.cell? ⟨b1, o1 + a, none⟩ = some (.string (bs x)) ∧ w'.cell? ⟨b1, o1 + z, none⟩ = some (.string (bs y))) (first | go_keep | exact ⟨by assumption, by assumption⟩) ((go_at_call 46; refine (HVC.out _ hx9 hy9).mono ?_; rintro e w3 ⟨rfl, hb3⟩; have k7 := (hb3.cell (p := ⟨b1, o1 + a, none⟩) hbl9).trans hc3; have k8 := (hb3.cell (p := ⟨b1, o1 + z, none⟩) hbl9).trans hc2))
            have hb3' := hbl2.trans ((show Below wr.heap.size wr w3 from ⟨hb3.os, hb3.tape, hb3.output, hb3.size, hb3.block⟩).mono hs2)
            clear hb3
            go_wp2_with fail
            go_roundw
            case rel => exact ⟨z + 1, by omega, by go_num, by rw [HRC.out]; first | done | (rw [if_neg (by omega)]), hb3'⟩
            case measure => simp [intOf]; omega
          · have HRC := Lib.hid (show rowM rd x L K (z + 1) = R by rw [HSV.out, if_neg hmx])
            go_wp2_with fail
            have hbl9 : b1 < wr.heap.size := World.block_lt_of_cell? _ _ hc2
            go_region_held3 (fun w' => w'.cell? ⟨b1, o1 + a, none⟩ = some (.string (bs x)) ∧ w'.cell? ⟨b1, o1 + z, none⟩ = some (.string (bs y))) (first | go_keep | exact ⟨by assumption, by assumption⟩) ((go_at_call 46; refine (HVC.out _ hx9 hy9).mono ?_; rintro e w3 ⟨rfl, hb3⟩; have k7 := (hb3.cell (p := ⟨b1, o1 + a, none⟩) hbl9).trans hc3; have k8 := (hb3.cell (p := ⟨b1, o1 + z, none⟩) hbl9).trans hc2))
            have hb3' := hbl2.trans ((show Below wr.heap.size wr w3 from ⟨hb3.os, hb3.tape, hb3.output, hb3.size, hb3.block⟩).mono hs2)
            clear hb3
            go_wp2_with fail
            go_roundw
            case rel => exact ⟨z + 1, by omega, by go_num, by rw [HRC.out]; first | done | (rw [if_neg (by omega)]), hb3'⟩
            case measure => simp [intOf]; omega
        · have hzm : z = a := by omega
          have HD := Lib.hid (show dS rd L (a + 1) = R by rw [dS, HX.out, ← HK.out, HRR.out, hzm])
          clear hzm
          go_wp2_with fail
          go_roundw
          case rel => exact ⟨a + 1, by omega, by go_num, by rw [HD.out], hbl2⟩
          case measure => simp [intOf]; omega
    · have ham : a = m := by omega
      have HD := Lib.hid (show dS rd L L.length = K by rw [HK.out, ham, HM.out])
      clear ham
      go_wp2_with fail
      go_ret
      exact ⟨ret_int (by rw [HD.out]), hb.trans (hbl.mono hs1)⟩

set_option maxRecDepth 20000 in
set_option maxHeartbeats 1000000 in
theorem implDiameterOf_good (n : Nat) (w : World) (hn : n ≤ 4) :
    Calls Try.prog 53 #[.int .i64 n] w fun e w' => e = .returned (.int .i64 (dI rdB (treesB n) (treesB n).length)) ∧ Below w.heap.size w w' := by
  have HB := Lib.hid (inB_true (x := n) (lo := 0) (hi := 4) (by omega) (by omega))
  obtain ⟨L, hL⟩ : ∃ L, L = treesB n := ⟨_, rfl⟩
  have HP := Lib.hid (show ∀ w, Calls Try.prog 94 #[.int .i64 n] w (RetS w L) from fun w => by rw [hL]; exact treesOf_any n w (by omega))
  have hL6 : L.length ≤ 65536 := by rw [hL]; exact treesB_len (by omega)
  have hLm : ∀ x ∈ L, x.length ≤ 1000 := by rw [hL]; exact fun x hx => treesB_mlen (by omega) hx
  obtain ⟨rd, hrd⟩ : ∃ rd, rd = rdB := ⟨_, rfl⟩
  have HRD := Lib.hid (show ∀ x y, -1 ≤ rd x y ∧ rd x y ≤ 1048576 by rw [hrd]; exact rdB_bd)
  have HCA := Lib.hid (show ∀ (x y : Txt) w, x.length ≤ 1000000000 → y.length ≤ 1000000000 → Calls Try.prog 47 #[.string (bs x), .string (bs y)] w fun e w' => e = .returned (.int .i64 (rd x y)) ∧ Below w.heap.size w w' by rw [hrd]; exact fun x y w h1 h2 => implRotationDistance_any x y w h1 h2)
  rw [← hL, ← hrd]
  have HLM := Lib.hid hLm
  clear hL hLm hrd
  go_enter Try.func53, Try.ntmps53
  go_wp2_with fail
  refine (within_any _ _ _ _).mono ?_
  rintro e w' ⟨rfl, rfl⟩
  rw [HB.out]
  go_wp2_with fail
  refine (HP.out _).mono ?_
  rintro e w1 ⟨A, m, c, hm, rfl, ho, hb⟩
  have HR := Lib.hid ho.rd
  have HM := Lib.hid hm
  have hm6 : m ≤ 65536 := by rw [hm]; exact hL6
  have hs1 := hb.size
  clear ho hm
  go_wp2_with fail
  go_loopw [3, 16] (fun k i wr => ∃ a : Nat, a ≤ m ∧ i = .int .i64 a ∧ k = .int .i64 (dI rd L a) ∧ Below w1.heap.size w1 wr) (fun _ i _ => m - (intOf i).toNat)
  case atStart => exact ⟨0, Nat.zero_le _, rfl, rfl, Below.refl _ _⟩
  case round =>
    obtain ⟨a, ha, rfl, rfl, hbl⟩ := hrel
    have hd := dI_bd HRD.out L a
    obtain ⟨K, hK⟩ : ∃ K, K = dI rd L a := ⟨_, rfl⟩
    rw [← hK] at hd ⊢
    have HK := Lib.hid hK
    clear hK
    by_cases hlt : a < m
    · obtain ⟨b1, o1, x, rfl, hx, hc1⟩ := (HR.out.below hbl).ats hlt
      have HX := Lib.hid (getDs hx)
      have hx9 : x.length ≤ 1000000000 := by have := HLM.out x (List.mem_of_getElem? hx); omega
      obtain ⟨w2, rfl⟩ : ∃ W, W = wr := ⟨wr, rfl⟩
      have HBD := Lib.hid (fun z => rowM_bd HRD.out x L hd z)
      clear hx
      go_wp2_with fail
      go_loopw [3, 22] (fun k j wr => ∃ z : Nat, z ≤ m ∧ j = .int .i64 z ∧ k = .int .i64 (rowM rd x L K z) ∧ Below w1.heap.size w1 wr) (fun _ j _ => m - (intOf j).toNat)
      case atStart => exact ⟨0, Nat.zero_le _, rfl, rfl, hbl⟩
      case round =>
        obtain ⟨z, hz, rfl, rfl, hbl2⟩ := hrel
        have hr := HBD.out z
        obtain ⟨R, hR⟩ : ∃ R, R = rowM rd x L K z := ⟨_, rfl⟩
        rw [← hR] at hr ⊢
        have HRR := Lib.hid hR
        have hs2 := hbl2.size
        clear hR
        by_cases hlt2 : z < m
        · obtain ⟨b2, o2, y, hA2, hy, hc2⟩ := (HR.out.below hbl2).ats (show z < m by omega)
          cases hA2
          obtain ⟨b3, o3, x', hA3, hx', hc3⟩ := (HR.out.below hbl2).ats hlt
          cases hA3
          obtain rfl : x = x' := by rw [← HX.out, getDs hx']
          have HY := Lib.hid (getDs hy)
          have hy9 : y.length ≤ 1000000000 := by have := HLM.out y (List.mem_of_getElem? hy); omega
          have a0 : (0 : Int) ≤ (a : Int) := by omega
          have a1 : (a : Int) < (m : Int) := by omega
          have z0 : (0 : Int) ≤ (z : Int) := by omega
          have z1 : (z : Int) < (m : Int) := by omega
          have z2 : (z : Int) < (m : Int) := by omega
          have hvb := HRD.out x y
          have HVC := Lib.hid (HCA.out x y)
          have HSV := Lib.hid (show rowM rd x L K (z + 1) = if R < rd x y then rd x y else R by rw [rowM, HY.out, ← HRR.out])
          obtain ⟨V, hV⟩ : ∃ V, V = rd x y := ⟨_, rfl⟩
          rw [← hV] at hvb HVC HSV
          clear hx' hy hV
          by_cases hmx : R < V
          · have HRC := Lib.hid (show rowM rd x L K (z + 1) = V by rw [HSV.out, if_pos hmx])
            go_wp2_with fail
            refine (HVC.out _ hx9 hy9).mono ?_
            rintro e w3 ⟨rfl, hb3⟩
            have hb3' := hbl2.trans ((show Below wr.heap.size wr w3 from ⟨hb3.os, hb3.tape, hb3.output, hb3.size, hb3.block⟩).mono hs2)
            clear hb3
            go_wp2_with fail
            go_roundw
            case rel => exact ⟨z + 1, by omega, by go_num, by rw [HRC.out]; first | done | (rw [if_neg (by omega)]), hb3'⟩
            case measure => simp [intOf]; omega
          · have HRC := Lib.hid (show rowM rd x L K (z + 1) = R by rw [HSV.out, if_neg hmx])
            go_wp2_with fail
            refine (HVC.out _ hx9 hy9).mono ?_
            rintro e w3 ⟨rfl, hb3⟩
            have hb3' := hbl2.trans ((show Below wr.heap.size wr w3 from ⟨hb3.os, hb3.tape, hb3.output, hb3.size, hb3.block⟩).mono hs2)
            clear hb3
            go_wp2_with fail
            go_roundw
            case rel => exact ⟨z + 1, by omega, by go_num, by rw [HRC.out]; first | done | (rw [if_neg (by omega)]), hb3'⟩
            case measure => simp [intOf]; omega
        · have hzm : z = m := by omega
          have HD := Lib.hid (show dI rd L (a + 1) = R by rw [dI, HX.out, ← HK.out, HRR.out, hzm, HM.out])
          clear hzm
          go_wp2_with fail
          go_roundw
          case rel => exact ⟨a + 1, by omega, by go_num, by rw [HD.out], hbl2⟩
          case measure => simp [intOf]; omega
    · have ham : a = m := by omega
      have HD := Lib.hid (show dI rd L L.length = K by rw [HK.out, ham, HM.out])
      clear ham
      go_wp2_with fail
      go_ret
      exact ⟨ret_int (by rw [HD.out]), hb.trans (hbl.mono hs1)⟩

def diaB (n : Int) : Int := if inB n 0 4 then dS rdB (treesB n.toNat) (treesB n.toNat).length else -1
theorem specDiameterOf_any (n : Int) (w : World) : Calls Try.prog 52 #[.int .i64 n] w fun e w' => e = .returned (.int .i64 (diaB n)) ∧ Below w.heap.size w w' := by
  rcases h : inB n 0 4 with _ | _
  · have HF := Lib.hid (show diaB n = -1 by simp [diaB, h])
    have HB := Lib.hid h
    clear h
    go_enter Try.func52, Try.ntmps52
    go_wp2_with fail
    refine (l1In_any _ _ _ _).mono ?_
    rintro e w' ⟨rfl, rfl⟩
    rw [HB.out]
    go_wp2_with fail
    go_ret
    exact ⟨ret_int (by rw [HF.out]), Below.refl _ _⟩
  · have hb := inB_iff.1 h
    obtain ⟨N, rfl⟩ := Int.eq_ofNat_of_zero_le hb.1
    rw [show diaB (N : Int) = dS rdB (treesB N) (treesB N).length by simp [diaB, h]]
    exact specDiameterOf_good N w (by omega)
theorem implDiameterOf_any (n : Int) (w : World) : Calls Try.prog 53 #[.int .i64 n] w fun e w' => e = .returned (.int .i64 (diaB n)) ∧ Below w.heap.size w w' := by
  rcases h : inB n 0 4 with _ | _
  · have HF := Lib.hid (show diaB n = -1 by simp [diaB, h])
    have HB := Lib.hid h
    clear h
    go_enter Try.func53, Try.ntmps53
    go_wp2_with fail
    refine (within_any _ _ _ _).mono ?_
    rintro e w' ⟨rfl, rfl⟩
    rw [HB.out]
    go_wp2_with fail
    go_ret
    exact ⟨ret_int (by rw [HF.out]), Below.refl _ _⟩
  · have hb := inB_iff.1 h
    obtain ⟨N, rfl⟩ := Int.eq_ofNat_of_zero_le hb.1
    rw [show diaB (N : Int) = dS rdB (treesB N) (treesB N).length by simp [diaB, h]]
    rw [← diam_eq (by omega)]
    exact implDiameterOf_good N w (by omega)

end Go.Proofs.Yteekkcjbflehlaa
