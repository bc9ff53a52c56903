/- CountBelow of both sides. -/
import Derived.Test.YteiffomekjadgaaCntL
import Derived.Test.YteiffomekjadgaaPathsS
import Derived.Test.YteiffomekjadgaaPathsI
import Derived.Test.YteiffomekjadgaaHeights
import Derived.StillTailTactics
namespace Go.Proofs.Yteiffomekjadgaa
open Go.RowKit

set_option maxHeartbeats 1000000 in
theorem specCountBelow_good (n : Nat) (w : World) (hn : n ≤ 5) :
    Calls Try.prog 43 #[.int .i64 n] w fun e w' => e = .returned (.int .i64 (dblC belowB (paths n) (paths n).length)) ∧ Below w.heap.size w w' := by
  have HB := Lib.hid (inB_true (x := n) (lo := 0) (hi := 5) (by omega) (by omega))
  obtain ⟨L, hL⟩ : ∃ L, L = (paths n) := ⟨_, rfl⟩
  have HP := Lib.hid (show ∀ w, Calls Try.prog 77 #[.int .i64 n] w (RetS w L) from fun w => by rw [hL]; exact specPathsOf_any n w (by omega))
  have hL6 : L.length ≤ 65536 := by rw [hL]; exact paths_len (by omega)
  have hLm : ∀ x ∈ L, x.length ≤ 1000 := by rw [hL]; exact fun x hx => by have := paths_mem hx; omega
  rw [← hL]
  have HLM := Lib.hid hLm
  clear hL hLm
  go_enter Try.func43, Try.ntmps43
  go_wp2_with fail
  refine (l1In_any _ _ _ _).mono ?_
  rintro e w' ⟨rfl, rfl⟩
  rw [HB.out]
  go_wp2_with fail
  refine (HP.out _).mono ?_
  rintro e w1 ⟨A, m, c, hm, rfl, ho, hb⟩
  have HR := Lib.hid ho.rd
  have HM := Lib.hid hm
  have hm6 : m ≤ 65536 := by rw [hm]; exact hL6
  have hs1 := hb.size
  clear ho hm
  go_wp2_with fail
  go_loopw [4, 5, 6] (fun k i _ wr => ∃ a : Nat, a ≤ m ∧ i = .int .i64 a ∧ k = .int .i64 (dblC belowB L a) ∧ Below w1.heap.size w1 wr) (fun _ i _ _ => m - (intOf i).toNat)
  case atStart => exact ⟨0, Nat.zero_le _, rfl, rfl, Below.refl _ _⟩
  case round =>
    obtain ⟨a, ha, rfl, rfl, hbl⟩ := hrel
    have hd := dblC_bd belowB L (by omega) a
    obtain ⟨K, hK⟩ : ∃ K, K = dblC belowB L a := ⟨_, rfl⟩
    rw [← hK] at hd ⊢
    have HK := Lib.hid hK
    clear hK
    by_cases hlt : a < m
    · obtain ⟨b1, o1, x, rfl, hx, hc1⟩ := (HR.out.below hbl).ats hlt
      have HX := Lib.hid (getDs hx)
      have hx9 : x.length ≤ 1000000000 := by have := HLM.out x (List.mem_of_getElem? hx); omega
      have hKb : K + 65536 ≤ 9000000000000 ∧ 0 ≤ K := by omega
      obtain ⟨w2, rfl⟩ : ∃ W, W = wr := ⟨wr, rfl⟩
      clear hx hd
      go_wp2_with fail
      go_loopw [4, 6] (fun k j wr => ∃ z : Nat, z ≤ m ∧ j = .int .i64 z ∧ k = .int .i64 (K + rowC belowB x L z) ∧ Below w1.heap.size w1 wr) (fun _ j _ => m - (intOf j).toNat)
      case atStart => exact ⟨0, Nat.zero_le _, rfl, by simp [rowC], hbl⟩
      case round =>
        obtain ⟨z, hz, rfl, rfl, hbl2⟩ := hrel
        have hr := rowC_bd belowB x L z
        obtain ⟨R, hR⟩ : ∃ R, R = rowC belowB x L z := ⟨_, rfl⟩
        rw [← hR] at hr ⊢
        have HRR := Lib.hid hR
        have hs2 := hbl2.size
        clear hR
        by_cases hlt2 : z < m
        · obtain ⟨b2, o2, y, hA2, hy, hc2⟩ := (HR.out.below hbl2).ats hlt2
          cases hA2
          obtain ⟨b3, o3, x', hA3, hx', hc3⟩ := (HR.out.below hbl2).ats hlt
          cases hA3
          obtain rfl : x = x' := by rw [← HX.out, getDs hx']
          have HY := Lib.hid (getDs hy)
          have hy9 : y.length ≤ 1000000000 := by have := HLM.out y (List.mem_of_getElem? hy); omega
          have a0 : (0 : Int) ≤ (a : Int) := by omega
          have a1 : (a : Int) < (m : Int) := by omega
          have z0 : (0 : Int) ≤ (z : Int) := by omega
          have z1 : (z : Int) < (m : Int) := by omega
          clear hx' hy
          rcases hp : belowB x y with _ | _
          · have HRC := Lib.hid (show rowC belowB x L (z + 1) = R by rw [rowC, HY.out, hp, ← HRR.out]; rfl)
            have HPP := Lib.hid hp
            clear hp
            go_wp2_with fail
            go_still_tail 8, (by kernel_rfl)
            change wpList _ _ _ _ _ wr.drew
            go_wp2_with fail
            refine (specIsBelow_any _ _ _ hx9 hy9).mono ?_
            rintro e w3 ⟨rfl, hb3⟩
            rw [HPP.out]
            have hb3' := hbl2.trans ((show Below wr.heap.size wr w3 from ⟨hb3.os, hb3.tape, hb3.output, hb3.size, hb3.block⟩).mono hs2)
            clear hb3
            go_wp2_with fail
            go_roundw
            case rel => exact ⟨z + 1, by omega, by go_num, by rw [HRC.out], hb3'⟩
            case measure => simp [intOf]; omega
          · have HRC := Lib.hid (show rowC belowB x L (z + 1) = R + 1 by rw [rowC, HY.out, hp, ← HRR.out]; rfl)
            have HPP := Lib.hid hp
            clear hp
            go_wp2_with fail
            go_still_tail 8, (by kernel_rfl)
            change wpList _ _ _ _ _ wr.drew
            go_wp2_with fail
            refine (specIsBelow_any _ _ _ hx9 hy9).mono ?_
            rintro e w3 ⟨rfl, hb3⟩
            rw [HPP.out]
            have hb3' := hbl2.trans ((show Below wr.heap.size wr w3 from ⟨hb3.os, hb3.tape, hb3.output, hb3.size, hb3.block⟩).mono hs2)
            clear hb3
            go_wp2_with fail
            go_roundw
            case rel => exact ⟨z + 1, by omega, by go_num, by rw [HRC.out]; go_num, hb3'⟩
            case measure => simp [intOf]; omega
        · have hzm : z = m := by omega
          have HD := Lib.hid (show dblC belowB L (a + 1) = K + R by rw [dblC, HX.out, HK.out, HRR.out, hzm, HM.out])
          clear hzm
          go_wp2_with fail
          go_roundw
          case rel => exact ⟨a + 1, by omega, by go_num, by rw [HD.out], hbl2⟩
          case measure => simp [intOf]; omega
    · have ham : a = m := by omega
      have HD := Lib.hid (show dblC belowB L L.length = K by rw [HK.out, ham, HM.out])
      clear ham
      go_wp2_with fail
      go_ret
      exact ⟨ret_int (by rw [HD.out]), hb.trans (hbl.mono hs1)⟩

set_option maxHeartbeats 1000000 in
theorem implCountBelow_good (n : Nat) (w : World) (hn : n ≤ 5) :
    Calls Try.prog 42 #[.int .i64 n] w fun e w' => e = .returned (.int .i64 (dblC belowB (paths n) (paths n).length)) ∧ Below w.heap.size w w' := by
  have HB := Lib.hid (inB_true (x := n) (lo := 0) (hi := 5) (by omega) (by omega))
  obtain ⟨L, hL⟩ : ∃ L, L = (paths n) := ⟨_, rfl⟩
  have HP := Lib.hid (show ∀ w, Calls Try.prog 76 #[.int .i64 n] w (RetS w L) from fun w => by rw [hL]; exact implPathsOf_any n w (by omega))
  have hL6 : L.length ≤ 65536 := by rw [hL]; exact paths_len (by omega)
  have hLm : ∀ x ∈ L, x.length ≤ 1000 := by rw [hL]; exact fun x hx => by have := paths_mem hx; omega
  rw [← hL]
  have HLM := Lib.hid hLm
  clear hL hLm
  go_enter Try.func42, Try.ntmps42
  go_wp2_with fail
  refine (within_any _ _ _ _).mono ?_
  rintro e w' ⟨rfl, rfl⟩
  rw [HB.out]
  go_wp2_with fail
  refine (HP.out _).mono ?_
  rintro e w1 ⟨A, m, c, hm, rfl, ho, hb⟩
  have HR := Lib.hid ho.rd
  have HM := Lib.hid hm
  have hm6 : m ≤ 65536 := by rw [hm]; exact hL6
  have hs1 := hb.size
  clear ho hm
  go_wp2_with fail
  go_loopw [3, 16] (fun k i wr => ∃ a : Nat, a ≤ m ∧ i = .int .i64 a ∧ k = .int .i64 (dblC belowB L a) ∧ Below w1.heap.size w1 wr) (fun _ i _ => m - (intOf i).toNat)
  case atStart => exact ⟨0, Nat.zero_le _, rfl, rfl, Below.refl _ _⟩
  case round =>
    obtain ⟨a, ha, rfl, rfl, hbl⟩ := hrel
    have hd := dblC_bd belowB L (by omega) a
    obtain ⟨K, hK⟩ : ∃ K, K = dblC belowB L a := ⟨_, rfl⟩
    rw [← hK] at hd ⊢
    have HK := Lib.hid hK
    clear hK
    by_cases hlt : a < m
    · obtain ⟨b1, o1, x, rfl, hx, hc1⟩ := (HR.out.below hbl).ats hlt
      have HX := Lib.hid (getDs hx)
      have hx9 : x.length ≤ 1000000000 := by have := HLM.out x (List.mem_of_getElem? hx); omega
      have hKb : K + 65536 ≤ 9000000000000 ∧ 0 ≤ K := by omega
      obtain ⟨w2, rfl⟩ : ∃ W, W = wr := ⟨wr, rfl⟩
      clear hx hd
      go_wp2_with fail
      go_loopw [3, 22] (fun k j wr => ∃ z : Nat, z ≤ m ∧ j = .int .i64 z ∧ k = .int .i64 (K + rowC belowB x L z) ∧ Below w1.heap.size w1 wr) (fun _ j _ => m - (intOf j).toNat)
      case atStart => exact ⟨0, Nat.zero_le _, rfl, by simp [rowC], hbl⟩
      case round =>
        obtain ⟨z, hz, rfl, rfl, hbl2⟩ := hrel
        have hr := rowC_bd belowB x L z
        obtain ⟨R, hR⟩ : ∃ R, R = rowC belowB x L z := ⟨_, rfl⟩
        rw [← hR] at hr ⊢
        have HRR := Lib.hid hR
        have hs2 := hbl2.size
        clear hR
        by_cases hlt2 : z < m
        · obtain ⟨b2, o2, y, hA2, hy, hc2⟩ := (HR.out.below hbl2).ats hlt2
          cases hA2
          have HY := Lib.hid (getDs hy)
          have hy9 : y.length ≤ 1000000000 := by have := HLM.out y (List.mem_of_getElem? hy); omega
          clear hy
          rcases hp : belowB x y with _ | _
          · have HRC := Lib.hid (show rowC belowB x L (z + 1) = R by rw [rowC, HY.out, hp, ← HRR.out]; rfl)
            have HPP := Lib.hid hp
            clear hp
            go_wp2_with fail
            refine (implIsBelow_any _ _ _ hx9 hy9).mono ?_
            rintro e w3 ⟨rfl, hb3⟩
            rw [HPP.out]
            have hb3' := hbl2.trans (hb3.mono hs2)
            clear hb3
            go_wp2_with fail
            go_roundw
            case rel => exact ⟨z + 1, by omega, by go_num, by rw [HRC.out], hb3'⟩
            case measure => simp [intOf]; omega
          · have HRC := Lib.hid (show rowC belowB x L (z + 1) = R + 1 by rw [rowC, HY.out, hp, ← HRR.out]; rfl)
            have HPP := Lib.hid hp
            clear hp
            go_wp2_with fail
            refine (implIsBelow_any _ _ _ hx9 hy9).mono ?_
            rintro e w3 ⟨rfl, hb3⟩
            rw [HPP.out]
            have hb3' := hbl2.trans (hb3.mono hs2)
            clear hb3
            go_wp2_with fail
            go_roundw
            case rel => exact ⟨z + 1, by omega, by go_num, by rw [HRC.out]; go_num, hb3'⟩
            case measure => simp [intOf]; omega
        · have hzm : z = m := by omega
          have HD := Lib.hid (show dblC belowB L (a + 1) = K + R by rw [dblC, HX.out, HK.out, HRR.out, hzm, HM.out])
          clear hzm
          go_wp2_with fail
          go_roundw
          case rel => exact ⟨a + 1, by omega, by go_num, by rw [HD.out], hbl2⟩
          case measure => simp [intOf]; omega
    · have ham : a = m := by omega
      have HD := Lib.hid (show dblC belowB L L.length = K by rw [HK.out, ham, HM.out])
      clear ham
      go_wp2_with fail
      go_ret
      exact ⟨ret_int (by rw [HD.out]), hb.trans (hbl.mono hs1)⟩

def cbB (n : Int) : Int := if inB n 0 5 then dblC belowB (paths n.toNat) (paths n.toNat).length else -1
theorem specCountBelow_any (n : Int) (w : World) : Calls Try.prog 43 #[.int .i64 n] w fun e w' => e = .returned (.int .i64 (cbB n)) ∧ Below w.heap.size w w' := by
  rcases h : inB n 0 5 with _ | _
  · have HF := Lib.hid (show cbB n = -1 by simp [cbB, h])
    have HB := Lib.hid h
    clear h
    go_enter Try.func43, Try.ntmps43
    go_wp2_with fail
    refine (l1In_any _ _ _ _).mono ?_
    rintro e w' ⟨rfl, rfl⟩
    rw [HB.out]
    go_wp2_with fail
    go_ret
    exact ⟨ret_int (by rw [HF.out]), Below.refl _ _⟩
  · have hb := inB_iff.1 h
    obtain ⟨N, rfl⟩ := Int.eq_ofNat_of_zero_le hb.1
    rw [show cbB (N : Int) = dblC belowB (paths N) (paths N).length by simp [cbB, h]]
    exact specCountBelow_good N w (by omega)
theorem implCountBelow_any (n : Int) (w : World) : Calls Try.prog 42 #[.int .i64 n] w fun e w' => e = .returned (.int .i64 (cbB n)) ∧ Below w.heap.size w w' := by
  rcases h : inB n 0 5 with _ | _
  · have HF := Lib.hid (show cbB n = -1 by simp [cbB, h])
    have HB := Lib.hid h
    clear h
    go_enter Try.func42, Try.ntmps42
    go_wp2_with fail
    refine (within_any _ _ _ _).mono ?_
    rintro e w' ⟨rfl, rfl⟩
    rw [HB.out]
    go_wp2_with fail
    go_ret
    exact ⟨ret_int (by rw [HF.out]), Below.refl _ _⟩
  · have hb := inB_iff.1 h
    obtain ⟨N, rfl⟩ := Int.eq_ofNat_of_zero_le hb.1
    rw [show cbB (N : Int) = dblC belowB (paths N) (paths N).length by simp [cbB, h]]
    exact implCountBelow_good N w (by omega)

end Go.Proofs.Yteiffomekjadgaa
