/- IntervalSize of both sides. -/
import Derived.Test.YteekkcjbflehlaaCntL
import Derived.Test.YteekkcjbflehlaaTrees
import Derived.Test.YteekkcjbflehlaaTamS
import Derived.Test.YteekkcjbflehlaaTamI
import Derived.StillTailTactics
namespace Go.Proofs.Yteekkcjbflehlaa
set_option linter.unusedVariables false
open Go.RowKit Go.Deep

def iszTo (a b : List UInt8) (l : List (List UInt8)) : Nat → Int
  | 0 => 0
  | k + 1 => if tlessB a (l.getD k []) && tlessB (l.getD k []) b then iszTo a b l k + 1 else iszTo a b l k
theorem iszTo_bd (a b : List UInt8) (l : List (List UInt8)) : ∀ k : Nat, 0 ≤ iszTo a b l k ∧ iszTo a b l k ≤ k
  | 0 => by simp [iszTo]
  | k + 1 => by have := iszTo_bd a b l k; unfold iszTo; split <;> omega
def iszB (a b : List UInt8) : Int := if alikeB a b 5 then iszTo a b (treesB (nodesB a).toNat) (treesB (nodesB a).toNat).length else -1
theorem alike_58 {a b : List UInt8} (h : alikeB a b 8 = false) (m : Int) (hm : m ≤ 8) : alikeB a b m = false := by
  rcases hh : alikeB a b m with _ | _
  · rfl
  · obtain ⟨s, t, rfl, rfl, h1, h2, _, _, h3, h4⟩ := alike_yes hh
    rw [alike_tx h1 h2, h3] at h
    simp at h
    omega

set_option maxRecDepth 20000 in
set_option maxHeartbeats 1000000 in
theorem specIntervalSize_any (a b : List UInt8) (w : World) (ha : a.length ≤ 1000000000) (hb : b.length ≤ 1000000000) :
    Calls Try.prog 38 #[.string (bs a), .string (bs b)] w fun e w' => e = .returned (.int .i64 (iszB a b)) ∧ Below w.heap.size w w' := by
  rcases hf8 : alikeB a b 8 with _ | _
  · have HF := Lib.hid (show iszB a b = -1 by unfold iszB; rw [alike_58 hf8 5 (by omega)]; rfl)
    have H1 := Lib.hid hf8
    clear hf8
    go_enter Try.func38, Try.ntmps38
    go_wp2_with fail
    refine (fit_any _ _ _ ha hb).mono ?_
    rintro e w0 ⟨rfl, hb0⟩
    rw [H1.out]
    go_wp2_with fail
    go_ret
    exact ⟨ret_int (by rw [HF.out]), hb0⟩
  rcases hf : alikeB a b 5 with _ | _
  · have HF := Lib.hid (show iszB a b = -1 by unfold iszB; rw [hf]; rfl)
    have h5 : 5 < nodesB a := by
      obtain ⟨s, t, rfl, rfl, hs, ht, _, _, hst, _⟩ := alike_yes hf8
      rw [alike_tx hs ht, hst] at hf
      simp at hf
      rw [nodesB_tx hs]; omega
    have H1 := Lib.hid hf8
    clear hf8 hf
    go_enter Try.func38, Try.ntmps38
    go_wp2_with fail
    refine (fit_any _ _ _ ha hb).mono ?_
    rintro e w0 ⟨rfl, hb0⟩
    rw [H1.out]
    go_wp2_with fail
    refine (specNodesOf_any _ _ ha).mono ?_
    rintro e w' ⟨rfl, rfl⟩
    go_wp2_with fail
    go_ret
    exact ⟨ret_int (by rw [HF.out]), hb0⟩
  obtain ⟨s, t, ea, eb, hs, ht, ss, st, hst, hm⟩ := alike_yes hf
  have hn5 : nodes s ≤ 5 := by omega
  have HN := Lib.hid (show nodesB a = (nodes s : Int) by rw [ea, nodesB_tx hs])
  obtain ⟨L, hL⟩ : ∃ L, L = treesB (nodes s) := ⟨_, rfl⟩
  have HF := Lib.hid (show iszB a b = iszTo a b L L.length by unfold iszB; rw [if_pos hf, HN.out, hL]; rfl)
  have HP := Lib.hid (show ∀ w, Calls Try.prog 95 #[.int .i64 (nodes s : Int)] w (RetS w L) from fun w => by rw [hL]; exact l17Trees_any (nodes s) w hn5)
  have hL6 : L.length ≤ 65536 := by rw [hL]; exact treesB_len (by omega)
  have hLm : ∀ x ∈ L, x.length ≤ 1000 := by rw [hL]; exact fun x hx => treesB_mlen hn5 hx
  have HLM := Lib.hid hLm
  have H1 := Lib.hid hf
  have H8 := Lib.hid hf8
  clear hf8
  clear hL hLm hf ea eb ss st hst
  go_enter Try.func38, Try.ntmps38
  go_wp2_with fail
  refine (fit_any _ _ _ ha hb).mono ?_
  rintro e w0 ⟨rfl, hb0⟩
  rw [H8.out]
  have HB0 := Lib.hid hb0
  clear hb0
  go_wp2_with fail
  refine (specNodesOf_any _ _ ha).mono ?_
  rintro e w' ⟨rfl, rfl⟩
  rw [HN.out]
  go_wp2_with fail
  refine (specNodesOf_any _ _ ha).mono ?_
  rintro e w' ⟨rfl, rfl⟩
  rw [HN.out]
  go_wp2_with fail
  refine (HP.out _).mono ?_
  rintro e w1 ⟨A, m, c, hm2, rfl, ho, hb1⟩
  have HR := Lib.hid ho.rd
  have HM := Lib.hid hm2
  have hm6 : m ≤ 65536 := by rw [hm2]; exact hL6
  have hs1 := hb1.size
  have HB1 := Lib.hid (HB0.out.trans (hb1.mono HB0.out.size))
  clear ho hm2 hb1
  go_wp2_with fail
  go_loopw [6, 7] (fun z i wr => ∃ k : Nat, k ≤ m ∧ i = .int .i64 k ∧ z = .int .i64 (iszTo a b L k) ∧ Below w1.heap.size w1 wr) (fun _ i _ => m - (intOf i).toNat)
  case atStart => exact ⟨0, Nat.zero_le _, rfl, rfl, Below.refl _ _⟩
  case round =>
    obtain ⟨k, hk, rfl, rfl, hbl⟩ := hrel
    have hd := iszTo_bd a b L k
    obtain ⟨K, hK⟩ : ∃ K, K = iszTo a b L k := ⟨_, rfl⟩
    rw [← hK] at hd ⊢
    have HK := Lib.hid hK
    have hbs := hbl.size
    clear hK
    by_cases hlt : k < m
    · obtain ⟨b1, o1, x, rfl, hx, hc1⟩ := (HR.out.below hbl).ats hlt
      have HX := Lib.hid (getDs hx)
      have hx9 : x.length ≤ 1000000000 := by have := HLM.out x (List.mem_of_getElem? hx); omega
      have k0 : (0 : Int) ≤ (k : Int) := by omega
      have k1 : (k : Int) < (m : Int) := by omega
      clear hx
      rcases hp : tlessB a x with _ | _
      · have HS := Lib.hid (show iszTo a b L (k + 1) = K by rw [iszTo, HX.out, hp, HK.out]; rfl)
        have HPP := Lib.hid hp
        clear hp
        go_wp2_with fail
        refine (specIsTamariLess_any _ _ _ ha hx9).mono ?_
        rintro e w3 ⟨rfl, hb3⟩
        rw [HPP.out]
        have hb4 := hbl.trans (hb3.mono hbs)
        clear hb3
        go_wp2_with fail
        go_roundw
        case rel => exact ⟨k + 1, by omega, by go_num, by rw [HS.out], hb4⟩
        case measure => simp [intOf]; omega
      · have HPP := Lib.hid hp
        rcases hq : tlessB x b with _ | _
        · have HS := Lib.hid (show iszTo a b L (k + 1) = K by rw [iszTo, HX.out, hp, hq, HK.out]; rfl)
          have HQQ := Lib.hid hq
          clear hp hq
          go_wp2_with fail
          refine (specIsTamariLess_any _ _ _ ha hx9).mono ?_
          rintro e w3 ⟨rfl, hb3⟩
          rw [HPP.out]
          have hb4 := hbl.trans (hb3.mono hbs)
          have hbs4 := hb4.size
          have hc4 := (hb3.cell (World.block_lt_of_cell? _ _ hc1)).trans hc1
          clear hb3
          go_wp2_with fail
          refine (specIsTamariLess_any _ _ _ hx9 hb).mono ?_
          rintro e w4 ⟨rfl, hb5⟩
          rw [HQQ.out]
          have hb6 := hb4.trans (hb5.mono hbs4)
          clear hb5
          go_wp2_with fail
          go_roundw
          case rel => exact ⟨k + 1, by omega, by go_num, by rw [HS.out], hb6⟩
          case measure => simp [intOf]; omega
        · have HS := Lib.hid (show iszTo a b L (k + 1) = K + 1 by rw [iszTo, HX.out, hp, hq, HK.out]; rfl)
          have HQQ := Lib.hid hq
          clear hp hq
          go_wp2_with fail
          refine (specIsTamariLess_any _ _ _ ha hx9).mono ?_
          rintro e w3 ⟨rfl, hb3⟩
          rw [HPP.out]
          have hb4 := hbl.trans (hb3.mono hbs)
          have hbs4 := hb4.size
          have hc4 := (hb3.cell (World.block_lt_of_cell? _ _ hc1)).trans hc1
          clear hb3
          go_wp2_with fail
          refine (specIsTamariLess_any _ _ _ hx9 hb).mono ?_
          rintro e w4 ⟨rfl, hb5⟩
          rw [HQQ.out]
          have hb6 := hb4.trans (hb5.mono hbs4)
          clear hb5
          go_wp2_with fail
          go_roundw
          case rel => exact ⟨k + 1, by omega, by go_num, by rw [HS.out], hb6⟩
          case measure => simp [intOf]; omega
    · have hkm : k = m := by omega
      have HD := Lib.hid (show iszTo a b L L.length = K by rw [HK.out, hkm, HM.out])
      clear hkm
      go_wp2_with fail
      go_ret
      exact ⟨ret_int (by rw [HF.out, HD.out]), HB1.out.trans (hbl.mono (HB1.out.size))⟩

set_option maxRecDepth 20000 in
set_option maxHeartbeats 1000000 in
theorem implIntervalSize_any (a b : List UInt8) (w : World) (ha : a.length ≤ 1000000000) (hb : b.length ≤ 1000000000) :
    Calls Try.prog 35 #[.string (bs a), .string (bs b)] w fun e w' => e = .returned (.int .i64 (iszB a b)) ∧ Below w.heap.size w w' := by
  rcases hf : alikeB a b 5 with _ | _
  · have HF := Lib.hid (show iszB a b = -1 by unfold iszB; rw [hf]; rfl)
    have H1 := Lib.hid hf
    clear hf
    go_enter Try.func35, Try.ntmps35
    go_wp2_with fail
    refine (alike_any _ _ 5 _ ha hb).mono ?_
    rintro e w0 ⟨rfl, hb0⟩
    rw [H1.out]
    go_wp2_with fail
    go_ret
    exact ⟨ret_int (by rw [HF.out]), hb0⟩
  obtain ⟨s, t, ea, eb, hs, ht, ss, st, hst, hm⟩ := alike_yes hf
  have hn5 : nodes s ≤ 5 := by omega
  have HN := Lib.hid (show nodesB a = (nodes s : Int) by rw [ea, nodesB_tx hs])
  obtain ⟨L, hL⟩ : ∃ L, L = treesB (nodes s) := ⟨_, rfl⟩
  have HF := Lib.hid (show iszB a b = iszTo a b L L.length by unfold iszB; rw [if_pos hf, HN.out, hL]; rfl)
  have HP := Lib.hid (show ∀ w, Calls Try.prog 94 #[.int .i64 (nodes s : Int)] w (RetS w L) from fun w => by rw [hL]; exact treesOf_any (nodes s) w hn5)
  have hL6 : L.length ≤ 65536 := by rw [hL]; exact treesB_len (by omega)
  have hLm : ∀ x ∈ L, x.length ≤ 1000 := by rw [hL]; exact fun x hx => treesB_mlen hn5 hx
  have HLM := Lib.hid hLm
  have H1 := Lib.hid hf
  clear hL hLm hf ea eb ss st hst
  go_enter Try.func35, Try.ntmps35
  go_wp2_with fail
  refine (alike_any _ _ 5 _ ha hb).mono ?_
  rintro e w0 ⟨rfl, hb0⟩
  rw [H1.out]
  have HB0a := Lib.hid hb0
  clear hb0
  go_wp2_with fail
  refine (implNodesOf_any _ _ ha).mono ?_
  rintro e w01 ⟨rfl, hb0⟩
  rw [HN.out]
  have HB0 := Lib.hid (HB0a.out.trans (hb0.mono HB0a.out.size))
  clear hb0 HB0a
  go_wp2_with fail
  refine (HP.out _).mono ?_
  rintro e w1 ⟨A, m, c, hm2, rfl, ho, hb1⟩
  have HR := Lib.hid ho.rd
  have HM := Lib.hid hm2
  have hm6 : m ≤ 65536 := by rw [hm2]; exact hL6
  have hs1 := hb1.size
  have HB1 := Lib.hid (HB0.out.trans (hb1.mono HB0.out.size))
  clear ho hm2 hb1
  go_wp2_with fail
  go_loopw [5, 7, 16] (fun z _ i wr => ∃ k : Nat, k ≤ m ∧ i = .int .i64 k ∧ z = .int .i64 (iszTo a b L k) ∧ Below w1.heap.size w1 wr) (fun _ _ i _ => m - (intOf i).toNat)
  case atStart => exact ⟨0, Nat.zero_le _, rfl, rfl, Below.refl _ _⟩
  case round =>
    obtain ⟨k, hk, rfl, rfl, hbl⟩ := hrel
    have hd := iszTo_bd a b L k
    obtain ⟨K, hK⟩ : ∃ K, K = iszTo a b L k := ⟨_, rfl⟩
    rw [← hK] at hd ⊢
    have HK := Lib.hid hK
    have hbs := hbl.size
    clear hK
    by_cases hlt : k < m
    · obtain ⟨b1, o1, x, rfl, hx, hc1⟩ := (HR.out.below hbl).ats hlt
      have HX := Lib.hid (getDs hx)
      have hx9 : x.length ≤ 1000000000 := by have := HLM.out x (List.mem_of_getElem? hx); omega
      have k0 : (0 : Int) ≤ (k : Int) := by omega
      have k1 : (k : Int) < (m : Int) := by omega
      clear hx
      rcases hp : tlessB a x with _ | _
      · have HS := Lib.hid (show iszTo a b L (k + 1) = K by rw [iszTo, HX.out, hp, HK.out]; rfl)
        have HPP := Lib.hid hp
        clear hp
        go_wp2_with fail
        refine (implIsTamariLess_any _ _ _ ha hx9).mono ?_
        rintro e w3 ⟨rfl, hb3⟩
        rw [HPP.out]
        have hb4 := hbl.trans (hb3.mono hbs)
        clear hb3
        go_wp2_with fail
        go_roundw
        case rel => exact ⟨k + 1, by omega, by go_num, by rw [HS.out], hb4⟩
        case measure => simp [intOf]; omega
      · have HPP := Lib.hid hp
        rcases hq : tlessB x b with _ | _
        · have HS := Lib.hid (show iszTo a b L (k + 1) = K by rw [iszTo, HX.out, hp, hq, HK.out]; rfl)
          have HQQ := Lib.hid hq
          clear hp hq
          go_wp2_with fail
          refine (implIsTamariLess_any _ _ _ ha hx9).mono ?_
          rintro e w3 ⟨rfl, hb3⟩
          rw [HPP.out]
          have hb4 := hbl.trans (hb3.mono hbs)
          have hbs4 := hb4.size
          have hc4 := (hb3.cell (World.block_lt_of_cell? _ _ hc1)).trans hc1
          clear hb3
          go_wp2_with fail
          refine (implIsTamariLess_any _ _ _ hx9 hb).mono ?_
          rintro e w4 ⟨rfl, hb5⟩
          rw [HQQ.out]
          have hb6 := hb4.trans (hb5.mono hbs4)
          clear hb5
          go_wp2_with fail
          go_roundw
          case rel => exact ⟨k + 1, by omega, by go_num, by rw [HS.out], hb6⟩
          case measure => simp [intOf]; omega
        · have HS := Lib.hid (show iszTo a b L (k + 1) = K + 1 by rw [iszTo, HX.out, hp, hq, HK.out]; rfl)
          have HQQ := Lib.hid hq
          clear hp hq
          go_wp2_with fail
          refine (implIsTamariLess_any _ _ _ ha hx9).mono ?_
          rintro e w3 ⟨rfl, hb3⟩
          rw [HPP.out]
          have hb4 := hbl.trans (hb3.mono hbs)
          have hbs4 := hb4.size
          have hc4 := (hb3.cell (World.block_lt_of_cell? _ _ hc1)).trans hc1
          clear hb3
          go_wp2_with fail
          refine (implIsTamariLess_any _ _ _ hx9 hb).mono ?_
          rintro e w4 ⟨rfl, hb5⟩
          rw [HQQ.out]
          have hb6 := hb4.trans (hb5.mono hbs4)
          clear hb5
          go_wp2_with fail
          go_roundw
          case rel => exact ⟨k + 1, by omega, by go_num, by rw [HS.out], hb6⟩
          case measure => simp [intOf]; omega
    · have hkm : k = m := by omega
      have HD := Lib.hid (show iszTo a b L L.length = K by rw [HK.out, hkm, HM.out])
      clear hkm
      go_wp2_with fail
      go_ret
      exact ⟨ret_int (by rw [HF.out, HD.out]), HB1.out.trans (hbl.mono (HB1.out.size))⟩

end Go.Proofs.Yteekkcjbflehlaa
