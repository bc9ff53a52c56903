/- Merged: IntervalFormula Isz CntInt Chn TamPl. -/
import Derived.Test.YtiebaoglcdbopaaChoose
import Derived.Test.YtiebaoglcdbopaaCntL
import Derived.Test.YtiebaoglcdbopaaTrees
import Derived.Test.YtiebaoglcdbopaaTamS
import Derived.Test.YtiebaoglcdbopaaTamI
import Derived.StillTailTactics
import Derived.Test.YtiebaoglcdbopaaChnL
import Derived.Test.YtiebaoglcdbopaaRotS
import Derived.Test.YtiebaoglcdbopaaNbI
import Derived.Test.YtiebaoglcdbopaaRotLr
namespace Go.Proofs.Ytiebaoglcdbopaa
open Go.RowKit

def ifC (m : Nat) : Int := 2 * chI (4 * (m : Int) + 5) m m / (((m : Int) + 1) * ((m : Int) + 2))
def ifI (n : Int) : Int := if inB n 0 7 then (if n == 0 then 1 else ifC (n.toNat - 1)) else -1
theorem ch_lb : ∀ m : Nat, m ≤ 6 → lbI (4 * (m : Int) + 5) m = chI (4 * (m : Int) + 5) m m := by
  intro m hm
  have : m = 0 ∨ m = 1 ∨ m = 2 ∨ m = 3 ∨ m = 4 ∨ m = 5 ∨ m = 6 := by omega
  rcases this with rfl | rfl | rfl | rfl | rfl | rfl | rfl <;> decide +kernel

theorem implIntervalFormula_any (n : Int) (w : World) :
    Calls Try.prog 25 #[.int .i64 n] w fun e w' => e = .returned (.int .i64 (ifI n)) ∧ w = w' := by
  rcases hin : inB n 0 7 with _ | _
  · have HB := Lib.hid hin
    have hf := Lib.hid (show ifI n = -1 by simp [ifI, hin])
    clear hin
    go_enter Try.func25, Try.ntmps25
    go_wp2_with (go_at_call 72; refine (within_any _ _ _ _).mono ?_; rintro e w' ⟨rfl, rfl⟩; rw [HB.out])
    go_ret
    exact ⟨by rw [hf.out]; rfl, rfl⟩
  · obtain ⟨h1, h2⟩ := inB_iff.1 hin
    by_cases h0 : n = 0
    · subst h0
      have HB := Lib.hid hin
      clear hin
      go_enter Try.func25, Try.ntmps25
      go_wp2_with (go_at_call 72; refine (within_any _ _ _ _).mono ?_; rintro e w' ⟨rfl, rfl⟩; rw [HB.out])
      go_ret
      exact ⟨rfl, rfl⟩
    · obtain ⟨k, rfl⟩ : ∃ k : Nat, n = (k : Int) + 1 := ⟨(n - 1).toNat, by omega⟩
      have HB := Lib.hid hin
      have hk : k ≤ 6 := by omega
      have hf := Lib.hid (show ifI ((k : Int) + 1) = ifC k by unfold ifI; rw [hin, if_pos rfl, if_neg (by simp; omega)]; congr 1)
      clear hin
      obtain ⟨b1, b2⟩ := chI_bd (n := 4 * (k : Int) + 5) (k := k) (by omega) (by omega) k (by omega)
      obtain ⟨b3, b4⟩ := p30_le k (by omega)
      obtain ⟨x, hx⟩ : ∃ x, x = chI (4 * (k : Int) + 5) k k := ⟨_, rfl⟩
      rw [← hx] at b1 b2
      have HX := Lib.hid hx
      clear hx h0
      have hd1 : 2 ≤ ((k : Int) + 1) * ((k : Int) + 1 + 1) ∧ ((k : Int) + 1) * ((k : Int) + 1 + 1) ≤ 56 := by
        have : k = 0 ∨ k = 1 ∨ k = 2 ∨ k = 3 ∨ k = 4 ∨ k = 5 ∨ k = 6 := by omega
        rcases this with rfl | rfl | rfl | rfl | rfl | rfl | rfl <;> decide
      obtain ⟨d1, d2⟩ := hd1
      go_enter Try.func25, Try.ntmps25
      go_wp2_with fail
      refine (within_any _ _ _ _).mono ?_
      rintro e w' ⟨rfl, rfl⟩
      rw [HB.out]
      go_wp2_with fail
      rw [show 4 * ((k : Int) + 1) + 1 = 4 * (k : Int) + 5 by omega]
      refine (choose_any (4 * (k : Int) + 5) k (by omega) (by omega) (by omega) _).mono ?_
      rintro e w' ⟨rfl, rfl⟩
      rw [← HX.out]
      go_wp2_with fail
      go_ret
      refine ⟨?_, rfl⟩
      rw [hf.out, ifC, ← HX.out]
      rfl

theorem specIntervalFormula_any (n : Int) (w : World) :
    Calls Try.prog 32 #[.int .i64 n] w fun e w' => e = .returned (.int .i64 (ifI n)) ∧ w = w' := by
  rcases hin : inB n 0 7 with _ | _
  · have HB := Lib.hid hin
    have hf := Lib.hid (show ifI n = -1 by simp [ifI, hin])
    clear hin
    go_enter Try.func32, Try.ntmps32
    go_wp2_with (go_at_call 64; refine (l1In_any _ _ _ _).mono ?_; rintro e w' ⟨rfl, rfl⟩; rw [HB.out])
    go_ret
    exact ⟨by rw [hf.out]; rfl, rfl⟩
  · obtain ⟨h1, h2⟩ := inB_iff.1 hin
    by_cases h0 : n = 0
    · subst h0
      have HB := Lib.hid hin
      clear hin
      go_enter Try.func32, Try.ntmps32
      go_wp2_with (go_at_call 64; refine (l1In_any _ _ _ _).mono ?_; rintro e w' ⟨rfl, rfl⟩; rw [HB.out])
      go_ret
      exact ⟨rfl, rfl⟩
    · obtain ⟨k, rfl⟩ : ∃ k : Nat, n = (k : Int) + 1 := ⟨(n - 1).toNat, by omega⟩
      have HB := Lib.hid hin
      have hk : k ≤ 6 := by omega
      have hf := Lib.hid (show ifI ((k : Int) + 1) = ifC k by unfold ifI; rw [hin, if_pos rfl, if_neg (by simp; omega)]; congr 1)
      clear hin
      obtain ⟨b1, b2⟩ := chI_bd (n := 4 * (k : Int) + 5) (k := k) (by omega) (by omega) k (by omega)
      obtain ⟨b3, b4⟩ := p30_le k (by omega)
      obtain ⟨x, hx⟩ : ∃ x, x = chI (4 * (k : Int) + 5) k k := ⟨_, rfl⟩
      rw [← hx] at b1 b2
      have HX := Lib.hid hx
      clear hx h0
      have hd1 : 2 ≤ ((k : Int) + 1) * ((k : Int) + 1 + 1) ∧ ((k : Int) + 1) * ((k : Int) + 1 + 1) ≤ 56 := by
        have : k = 0 ∨ k = 1 ∨ k = 2 ∨ k = 3 ∨ k = 4 ∨ k = 5 ∨ k = 6 := by omega
        rcases this with rfl | rfl | rfl | rfl | rfl | rfl | rfl <;> decide
      obtain ⟨d1, d2⟩ := hd1
      go_enter Try.func32, Try.ntmps32
      go_wp2_with fail
      refine (l1In_any _ _ _ _).mono ?_
      rintro e w' ⟨rfl, rfl⟩
      rw [HB.out]
      go_wp2_with fail
      rw [show 4 * ((k : Int) + 1) + 1 = 4 * (k : Int) + 5 by omega]
      refine (l3Binomial_any (4 * (k : Int) + 5) k (by omega) (by omega) (by omega) _).mono ?_
      rintro e w' ⟨rfl, rfl⟩
      rw [ch_lb k hk, ← HX.out]
      go_wp2_with fail
      go_ret
      refine ⟨?_, rfl⟩
      rw [hf.out, ifC, ← HX.out]
      rfl

end Go.Proofs.Ytiebaoglcdbopaa

namespace Go.Proofs.Ytiebaoglcdbopaa
set_option linter.unusedVariables false
open Go.RowKit Go.Deep

def iszTo (a b : List UInt8) (l : List (List UInt8)) : Nat → Int
  | 0 => 0
  | k + 1 => if tlessB a (l.getD k []) && tlessB (l.getD k []) b then iszTo a b l k + 1 else iszTo a b l k
theorem iszTo_bd (a b : List UInt8) (l : List (List UInt8)) : ∀ k : Nat, 0 ≤ iszTo a b l k ∧ iszTo a b l k ≤ k
  | 0 => by simp [iszTo]
  | k + 1 => by have := iszTo_bd a b l k; unfold iszTo; split <;> omega
def iszB (a b : List UInt8) : Int := if alikeB a b 5 then iszTo a b (treesB (nodesB a).toNat) (treesB (nodesB a).toNat).length else -1
theorem alike_58 {a b : List UInt8} (h : alikeB a b 8 = false) (m : Int) (hm : m ≤ 8) : alikeB a b m = false := by
  rcases hh : alikeB a b m with _ | _
  · rfl
  · obtain ⟨s, t, rfl, rfl, h1, h2, _, _, h3, h4⟩ := alike_yes hh
    rw [alike_tx h1 h2, h3] at h
    simp at h
    omega

set_option maxRecDepth 20000 in
set_option maxHeartbeats 1000000 in
theorem specIntervalSize_any (a b : List UInt8) (w : World) (ha : a.length ≤ 1000000000) (hb : b.length ≤ 1000000000) :
    Calls Try.prog 30 #[.string (bs a), .string (bs b)] w fun e w' => e = .returned (.int .i64 (iszB a b)) ∧ Below w.heap.size w w' := by
  rcases hf8 : alikeB a b 8 with _ | _
  · have HF := Lib.hid (show iszB a b = -1 by unfold iszB; rw [alike_58 hf8 5 (by omega)]; rfl)
    have H1 := Lib.hid hf8
    clear hf8
    go_enter Try.func30, Try.ntmps30
    go_wp2_with fail
    refine (fit_any _ _ _ ha hb).mono ?_
    rintro e w0 ⟨rfl, hb0⟩
    rw [H1.out]
    go_wp2_with fail
    go_ret
    exact ⟨ret_int (by rw [HF.out]), hb0⟩
  rcases hf : alikeB a b 5 with _ | _
  · have HF := Lib.hid (show iszB a b = -1 by unfold iszB; rw [hf]; rfl)
    have h5 : 5 < nodesB a := by
      obtain ⟨s, t, rfl, rfl, hs, ht, _, _, hst, _⟩ := alike_yes hf8
      rw [alike_tx hs ht, hst] at hf
      simp at hf
      rw [nodesB_tx hs]; omega
    have H1 := Lib.hid hf8
    clear hf8 hf
    go_enter Try.func30, Try.ntmps30
    go_wp2_with fail
    refine (fit_any _ _ _ ha hb).mono ?_
    rintro e w0 ⟨rfl, hb0⟩
    rw [H1.out]
    go_wp2_with fail
    refine (specNodesOf_any _ _ ha).mono ?_
    rintro e w' ⟨rfl, rfl⟩
    go_wp2_with fail
    go_ret
    exact ⟨ret_int (by rw [HF.out]), hb0⟩
  obtain ⟨s, t, ea, eb, hs, ht, ss, st, hst, hm⟩ := alike_yes hf
  have hn5 : nodes s ≤ 5 := by omega
  have HN := Lib.hid (show nodesB a = (nodes s : Int) by rw [ea, nodesB_tx hs])
  obtain ⟨L, hL⟩ : ∃ L, L = treesB (nodes s) := ⟨_, rfl⟩
  have HF := Lib.hid (show iszB a b = iszTo a b L L.length by unfold iszB; rw [if_pos hf, HN.out, hL]; rfl)
  have HP := Lib.hid (show ∀ w, Calls Try.prog 74 #[.int .i64 (nodes s : Int)] w (RetS w L) from fun w => by rw [hL]; exact l17Trees_any (nodes s) w hn5)
  have hL6 : L.length ≤ 65536 := by rw [hL]; exact treesB_len (by omega)
  have hLm : ∀ x ∈ L, x.length ≤ 1000 := by rw [hL]; exact fun x hx => treesB_mlen hn5 hx
  have HLM := Lib.hid hLm
  have H1 := Lib.hid hf
  have H8 := Lib.hid hf8
  clear hf8
  clear hL hLm hf ea eb ss st hst
  go_enter Try.func30, Try.ntmps30
  go_wp2_with fail
  refine (fit_any _ _ _ ha hb).mono ?_
  rintro e w0 ⟨rfl, hb0⟩
  rw [H8.out]
  have HB0 := Lib.hid hb0
  clear hb0
  go_wp2_with fail
  refine (specNodesOf_any _ _ ha).mono ?_
  rintro e w' ⟨rfl, rfl⟩
  rw [HN.out]
  go_wp2_with fail
  refine (specNodesOf_any _ _ ha).mono ?_
  rintro e w' ⟨rfl, rfl⟩
  rw [HN.out]
  go_wp2_with fail
  refine (HP.out _).mono ?_
  rintro e w1 ⟨A, m, c, hm2, rfl, ho, hb1⟩
  have HR := Lib.hid ho.rd
  have HM := Lib.hid hm2
  have hm6 : m ≤ 65536 := by rw [hm2]; exact hL6
  have hs1 := hb1.size
  have HB1 := Lib.hid (HB0.out.trans (hb1.mono HB0.out.size))
  clear ho hm2 hb1
  go_wp2_with fail
  go_loopw [6, 7] (fun z i wr => ∃ k : Nat, k ≤ m ∧ i = .int .i64 k ∧ z = .int .i64 (iszTo a b L k) ∧ Below w1.heap.size w1 wr) (fun _ i _ => m - (intOf i).toNat)
  case atStart => exact ⟨0, Nat.zero_le _, rfl, rfl, Below.refl _ _⟩
  case round =>
    obtain ⟨k, hk, rfl, rfl, hbl⟩ := hrel
    have hd := iszTo_bd a b L k
    obtain ⟨K, hK⟩ : ∃ K, K = iszTo a b L k := ⟨_, rfl⟩
    rw [← hK] at hd ⊢
    have HK := Lib.hid hK
    have hbs := hbl.size
    clear hK
    by_cases hlt : k < m
    · obtain ⟨b1, o1, x, rfl, hx, hc1⟩ := (HR.out.below hbl).ats hlt
      have HX := Lib.hid (getDs hx)
      have hx9 : x.length ≤ 1000000000 := by have := HLM.out x (List.mem_of_getElem? hx); omega
      have k0 : (0 : Int) ≤ (k : Int) := by omega
      have k1 : (k : Int) < (m : Int) := by omega
      clear hx
      rcases hp : tlessB a x with _ | _
      · have HS := Lib.hid (show iszTo a b L (k + 1) = K by rw [iszTo, HX.out, hp, HK.out]; rfl)
        have HPP := Lib.hid hp
        clear hp
        go_wp2_with fail
        refine (specIsTamariLess_any _ _ _ ha hx9).mono ?_
        rintro e w3 ⟨rfl, hb3⟩
        rw [HPP.out]
        have hb4 := hbl.trans (hb3.mono hbs)
        clear hb3
        go_wp2_with fail
        go_roundw
        case rel => exact ⟨k + 1, by omega, by go_num, by rw [HS.out], hb4⟩
        case measure => simp [intOf]; omega
      · have HPP := Lib.hid hp
        rcases hq : tlessB x b with _ | _
        · have HS := Lib.hid (show iszTo a b L (k + 1) = K by rw [iszTo, HX.out, hp, hq, HK.out]; rfl)
          have HQQ := Lib.hid hq
          clear hp hq
          go_wp2_with fail
          refine (specIsTamariLess_any _ _ _ ha hx9).mono ?_
          rintro e w3 ⟨rfl, hb3⟩
          rw [HPP.out]
          have hb4 := hbl.trans (hb3.mono hbs)
          have hbs4 := hb4.size
          have hc4 := (hb3.cell (World.block_lt_of_cell? _ _ hc1)).trans hc1
          clear hb3
          go_wp2_with fail
          refine (specIsTamariLess_any _ _ _ hx9 hb).mono ?_
          rintro e w4 ⟨rfl, hb5⟩
          rw [HQQ.out]
          have hb6 := hb4.trans (hb5.mono hbs4)
          clear hb5
          go_wp2_with fail
          go_roundw
          case rel => exact ⟨k + 1, by omega, by go_num, by rw [HS.out], hb6⟩
          case measure => simp [intOf]; omega
        · have HS := Lib.hid (show iszTo a b L (k + 1) = K + 1 by rw [iszTo, HX.out, hp, hq, HK.out]; rfl)
          have HQQ := Lib.hid hq
          clear hp hq
          go_wp2_with fail
          refine (specIsTamariLess_any _ _ _ ha hx9).mono ?_
          rintro e w3 ⟨rfl, hb3⟩
          rw [HPP.out]
          have hb4 := hbl.trans (hb3.mono hbs)
          have hbs4 := hb4.size
          have hc4 := (hb3.cell (World.block_lt_of_cell? _ _ hc1)).trans hc1
          clear hb3
          go_wp2_with fail
          refine (specIsTamariLess_any _ _ _ hx9 hb).mono ?_
          rintro e w4 ⟨rfl, hb5⟩
          rw [HQQ.out]
          have hb6 := hb4.trans (hb5.mono hbs4)
          clear hb5
          go_wp2_with fail
          go_roundw
          case rel => exact ⟨k + 1, by omega, by go_num, by rw [HS.out], hb6⟩
          case measure => simp [intOf]; omega
    · have hkm : k = m := by omega
      have HD := Lib.hid (show iszTo a b L L.length = K by rw [HK.out, hkm, HM.out])
      clear hkm
      go_wp2_with fail
      go_ret
      exact ⟨ret_int (by rw [HF.out, HD.out]), HB1.out.trans (hbl.mono (HB1.out.size))⟩

set_option maxRecDepth 20000 in
set_option maxHeartbeats 1000000 in
theorem implIntervalSize_any (a b : List UInt8) (w : World) (ha : a.length ≤ 1000000000) (hb : b.length ≤ 1000000000) :
    Calls Try.prog 27 #[.string (bs a), .string (bs b)] w fun e w' => e = .returned (.int .i64 (iszB a b)) ∧ Below w.heap.size w w' := by
  rcases hf : alikeB a b 5 with _ | _
  · have HF := Lib.hid (show iszB a b = -1 by unfold iszB; rw [hf]; rfl)
    have H1 := Lib.hid hf
    clear hf
    go_enter Try.func27, Try.ntmps27
    go_wp2_with fail
    refine (alike_any _ _ 5 _ ha hb).mono ?_
    rintro e w0 ⟨rfl, hb0⟩
    rw [H1.out]
    go_wp2_with fail
    go_ret
    exact ⟨ret_int (by rw [HF.out]), hb0⟩
  obtain ⟨s, t, ea, eb, hs, ht, ss, st, hst, hm⟩ := alike_yes hf
  have hn5 : nodes s ≤ 5 := by omega
  have HN := Lib.hid (show nodesB a = (nodes s : Int) by rw [ea, nodesB_tx hs])
  obtain ⟨L, hL⟩ : ∃ L, L = treesB (nodes s) := ⟨_, rfl⟩
  have HF := Lib.hid (show iszB a b = iszTo a b L L.length by unfold iszB; rw [if_pos hf, HN.out, hL]; rfl)
  have HP := Lib.hid (show ∀ w, Calls Try.prog 73 #[.int .i64 (nodes s : Int)] w (RetS w L) from fun w => by rw [hL]; exact treesOf_any (nodes s) w hn5)
  have hL6 : L.length ≤ 65536 := by rw [hL]; exact treesB_len (by omega)
  have hLm : ∀ x ∈ L, x.length ≤ 1000 := by rw [hL]; exact fun x hx => treesB_mlen hn5 hx
  have HLM := Lib.hid hLm
  have H1 := Lib.hid hf
  clear hL hLm hf ea eb ss st hst
  go_enter Try.func27, Try.ntmps27
  go_wp2_with fail
  refine (alike_any _ _ 5 _ ha hb).mono ?_
  rintro e w0 ⟨rfl, hb0⟩
  rw [H1.out]
  have HB0a := Lib.hid hb0
  clear hb0
  go_wp2_with fail
  refine (implNodesOf_any _ _ ha).mono ?_
  rintro e w01 ⟨rfl, hb0⟩
  rw [HN.out]
  have HB0 := Lib.hid (HB0a.out.trans (hb0.mono HB0a.out.size))
  clear hb0 HB0a
  go_wp2_with fail
  refine (HP.out _).mono ?_
  rintro e w1 ⟨A, m, c, hm2, rfl, ho, hb1⟩
  have HR := Lib.hid ho.rd
  have HM := Lib.hid hm2
  have hm6 : m ≤ 65536 := by rw [hm2]; exact hL6
  have hs1 := hb1.size
  have HB1 := Lib.hid (HB0.out.trans (hb1.mono HB0.out.size))
  clear ho hm2 hb1
  go_wp2_with fail
  go_loopw [5, 7, 16] (fun z _ i wr => ∃ k : Nat, k ≤ m ∧ i = .int .i64 k ∧ z = .int .i64 (iszTo a b L k) ∧ Below w1.heap.size w1 wr) (fun _ _ i _ => m - (intOf i).toNat)
  case atStart => exact ⟨0, Nat.zero_le _, rfl, rfl, Below.refl _ _⟩
  case round =>
    obtain ⟨k, hk, rfl, rfl, hbl⟩ := hrel
    have hd := iszTo_bd a b L k
    obtain ⟨K, hK⟩ : ∃ K, K = iszTo a b L k := ⟨_, rfl⟩
    rw [← hK] at hd ⊢
    have HK := Lib.hid hK
    have hbs := hbl.size
    clear hK
    by_cases hlt : k < m
    · obtain ⟨b1, o1, x, rfl, hx, hc1⟩ := (HR.out.below hbl).ats hlt
      have HX := Lib.hid (getDs hx)
      have hx9 : x.length ≤ 1000000000 := by have := HLM.out x (List.mem_of_getElem? hx); omega
      have k0 : (0 : Int) ≤ (k : Int) := by omega
      have k1 : (k : Int) < (m : Int) := by omega
      clear hx
      rcases hp : tlessB a x with _ | _
      · have HS := Lib.hid (show iszTo a b L (k + 1) = K by rw [iszTo, HX.out, hp, HK.out]; rfl)
        have HPP := Lib.hid hp
        clear hp
        go_wp2_with fail
        refine (implIsTamariLess_any _ _ _ ha hx9).mono ?_
        rintro e w3 ⟨rfl, hb3⟩
        rw [HPP.out]
        have hb4 := hbl.trans (hb3.mono hbs)
        clear hb3
        go_wp2_with fail
        go_roundw
        case rel => exact ⟨k + 1, by omega, by go_num, by rw [HS.out], hb4⟩
        case measure => simp [intOf]; omega
      · have HPP := Lib.hid hp
        rcases hq : tlessB x b with _ | _
        · have HS := Lib.hid (show iszTo a b L (k + 1) = K by rw [iszTo, HX.out, hp, hq, HK.out]; rfl)
          have HQQ := Lib.hid hq
          clear hp hq
          go_wp2_with fail
          refine (implIsTamariLess_any _ _ _ ha hx9).mono ?_
          rintro e w3 ⟨rfl, hb3⟩
          rw [HPP.out]
          have hb4 := hbl.trans (hb3.mono hbs)
          have hbs4 := hb4.size
          have hc4 := (hb3.cell (World.block_lt_of_cell? _ _ hc1)).trans hc1
          clear hb3
          go_wp2_with fail
          refine (implIsTamariLess_any _ _ _ hx9 hb).mono ?_
          rintro e w4 ⟨rfl, hb5⟩
          rw [HQQ.out]
          have hb6 := hb4.trans (hb5.mono hbs4)
          clear hb5
          go_wp2_with fail
          go_roundw
          case rel => exact ⟨k + 1, by omega, by go_num, by rw [HS.out], hb6⟩
          case measure => simp [intOf]; omega
        · have HS := Lib.hid (show iszTo a b L (k + 1) = K + 1 by rw [iszTo, HX.out, hp, hq, HK.out]; rfl)
          have HQQ := Lib.hid hq
          clear hp hq
          go_wp2_with fail
          refine (implIsTamariLess_any _ _ _ ha hx9).mono ?_
          rintro e w3 ⟨rfl, hb3⟩
          rw [HPP.out]
          have hb4 := hbl.trans (hb3.mono hbs)
          have hbs4 := hb4.size
          have hc4 := (hb3.cell (World.block_lt_of_cell? _ _ hc1)).trans hc1
          clear hb3
          go_wp2_with fail
          refine (implIsTamariLess_any _ _ _ hx9 hb).mono ?_
          rintro e w4 ⟨rfl, hb5⟩
          rw [HQQ.out]
          have hb6 := hb4.trans (hb5.mono hbs4)
          clear hb5
          go_wp2_with fail
          go_roundw
          case rel => exact ⟨k + 1, by omega, by go_num, by rw [HS.out], hb6⟩
          case measure => simp [intOf]; omega
    · have hkm : k = m := by omega
      have HD := Lib.hid (show iszTo a b L L.length = K by rw [HK.out, hkm, HM.out])
      clear hkm
      go_wp2_with fail
      go_ret
      exact ⟨ret_int (by rw [HF.out, HD.out]), HB1.out.trans (hbl.mono (HB1.out.size))⟩

end Go.Proofs.Ytiebaoglcdbopaa

namespace Go.Proofs.Ytiebaoglcdbopaa
open Go.RowKit

set_option maxRecDepth 20000 in
set_option maxHeartbeats 1000000 in
theorem specCountIntervals_good (n : Nat) (w : World) (hn : n ≤ 5) :
    Calls Try.prog 24 #[.int .i64 n] w fun e w' => e = .returned (.int .i64 (dblC tlessB (treesB n) (treesB n).length)) ∧ Below w.heap.size w w' := by
  have HB := Lib.hid (inB_true (x := n) (lo := 0) (hi := 5) (by omega) (by omega))
  obtain ⟨L, hL⟩ : ∃ L, L = (treesB n) := ⟨_, rfl⟩
  have HP := Lib.hid (show ∀ w, Calls Try.prog 74 #[.int .i64 n] w (RetS w L) from fun w => by rw [hL]; exact l17Trees_any n w (by omega))
  have hL6 : L.length ≤ 65536 := by rw [hL]; exact treesB_len (by omega)
  have hLm : ∀ x ∈ L, x.length ≤ 1000 := by rw [hL]; exact fun x hx => treesB_mlen hn hx
  rw [← hL]
  have HLM := Lib.hid hLm
  clear hL hLm
  go_enter Try.func24, Try.ntmps24
  go_wp2_with fail
  refine (l1In_any _ _ _ _).mono ?_
  rintro e w' ⟨rfl, rfl⟩
  rw [HB.out]
  go_wp2_with fail
  refine (HP.out _).mono ?_
  rintro e w1 ⟨A, m, c, hm, rfl, ho, hb⟩
  have HR := Lib.hid ho.rd
  have HM := Lib.hid hm
  have hm6 : m ≤ 65536 := by rw [hm]; exact hL6
  have hs1 := hb.size
  clear ho hm
  go_wp2_with fail
  go_loopw [4, 5, 6] (fun k i _ wr => ∃ a : Nat, a ≤ m ∧ i = .int .i64 a ∧ k = .int .i64 (dblC tlessB L a) ∧ Below w1.heap.size w1 wr) (fun _ i _ _ => m - (intOf i).toNat)
  case atStart => exact ⟨0, Nat.zero_le _, rfl, rfl, Below.refl _ _⟩
  case round =>
    obtain ⟨a, ha, rfl, rfl, hbl⟩ := hrel
    have hd := dblC_bd tlessB L (by omega) a
    obtain ⟨K, hK⟩ : ∃ K, K = dblC tlessB L a := ⟨_, rfl⟩
    rw [← hK] at hd ⊢
    have HK := Lib.hid hK
    clear hK
    by_cases hlt : a < m
    · obtain ⟨b1, o1, x, rfl, hx, hc1⟩ := (HR.out.below hbl).ats hlt
      have HX := Lib.hid (getDs hx)
      have hx9 : x.length ≤ 1000000000 := by have := HLM.out x (List.mem_of_getElem? hx); omega
      have hKb : K + 65536 ≤ 9000000000000 ∧ 0 ≤ K := by omega
      obtain ⟨w2, rfl⟩ : ∃ W, W = wr := ⟨wr, rfl⟩
      clear hx hd
      go_wp2_with fail
      go_loopw [4, 6] (fun k j wr => ∃ z : Nat, z ≤ m ∧ j = .int .i64 z ∧ k = .int .i64 (K + rowC tlessB x L z) ∧ Below w1.heap.size w1 wr) (fun _ j _ => m - (intOf j).toNat)
      case atStart => exact ⟨0, Nat.zero_le _, rfl, by simp [rowC], hbl⟩
      case round =>
        obtain ⟨z, hz, rfl, rfl, hbl2⟩ := hrel
        have hr := rowC_bd tlessB x L z
        obtain ⟨R, hR⟩ : ∃ R, R = rowC tlessB x L z := ⟨_, rfl⟩
        rw [← hR] at hr ⊢
        have HRR := Lib.hid hR
        have hs2 := hbl2.size
        clear hR
        by_cases hlt2 : z < m
        · obtain ⟨b2, o2, y, hA2, hy, hc2⟩ := (HR.out.below hbl2).ats hlt2
          cases hA2
          obtain ⟨b3, o3, x', hA3, hx', hc3⟩ := (HR.out.below hbl2).ats hlt
          cases hA3
          obtain rfl : x = x' := by rw [← HX.out, getDs hx']
          have HY := Lib.hid (getDs hy)
          have hy9 : y.length ≤ 1000000000 := by have := HLM.out y (List.mem_of_getElem? hy); omega
          have a0 : (0 : Int) ≤ (a : Int) := by omega
          have a1 : (a : Int) < (m : Int) := by omega
          have z0 : (0 : Int) ≤ (z : Int) := by omega
          have z1 : (z : Int) < (m : Int) := by omega
          clear hx' hy
          rcases hp : tlessB x y with _ | _
          · have HRC := Lib.hid (show rowC tlessB x L (z + 1) = R by rw [rowC, HY.out, hp, ← HRR.out]; rfl)
            have HPP := Lib.hid hp
            clear hp
            go_wp2_with fail
            go_still_tail 8, (by kernel_rfl)
            change wpList _ _ _ _ _ wr.drew
            go_wp2_with fail
            refine (specIsTamariLess_any _ _ _ hx9 hy9).mono ?_
            rintro e w3 ⟨rfl, hb3⟩
            rw [HPP.out]
            have hb3' := hbl2.trans ((show Below wr.heap.size wr w3 from ⟨hb3.os, hb3.tape, hb3.output, hb3.size, hb3.block⟩).mono hs2)
            clear hb3
            go_wp2_with fail
            go_roundw
            case rel => exact ⟨z + 1, by omega, by go_num, by rw [HRC.out], hb3'⟩
            case measure => simp [intOf]; omega
          · have HRC := Lib.hid (show rowC tlessB x L (z + 1) = R + 1 by rw [rowC, HY.out, hp, ← HRR.out]; rfl)
            have HPP := Lib.hid hp
            clear hp
            go_wp2_with fail
            go_still_tail 8, (by kernel_rfl)
            change wpList _ _ _ _ _ wr.drew
            go_wp2_with fail
            refine (specIsTamariLess_any _ _ _ hx9 hy9).mono ?_
            rintro e w3 ⟨rfl, hb3⟩
            rw [HPP.out]
            have hb3' := hbl2.trans ((show Below wr.heap.size wr w3 from ⟨hb3.os, hb3.tape, hb3.output, hb3.size, hb3.block⟩).mono hs2)
            clear hb3
            go_wp2_with fail
            go_roundw
            case rel => exact ⟨z + 1, by omega, by go_num, by rw [HRC.out]; go_num, hb3'⟩
            case measure => simp [intOf]; omega
        · have hzm : z = m := by omega
          have HD := Lib.hid (show dblC tlessB L (a + 1) = K + R by rw [dblC, HX.out, HK.out, HRR.out, hzm, HM.out])
          clear hzm
          go_wp2_with fail
          go_roundw
          case rel => exact ⟨a + 1, by omega, by go_num, by rw [HD.out], hbl2⟩
          case measure => simp [intOf]; omega
    · have ham : a = m := by omega
      have HD := Lib.hid (show dblC tlessB L L.length = K by rw [HK.out, ham, HM.out])
      clear ham
      go_wp2_with fail
      go_ret
      exact ⟨ret_int (by rw [HD.out]), hb.trans (hbl.mono hs1)⟩

set_option maxRecDepth 20000 in
set_option maxHeartbeats 1000000 in
theorem implCountIntervals_good (n : Nat) (w : World) (hn : n ≤ 5) :
    Calls Try.prog 23 #[.int .i64 n] w fun e w' => e = .returned (.int .i64 (dblC tlessB (treesB n) (treesB n).length)) ∧ Below w.heap.size w w' := by
  have HB := Lib.hid (inB_true (x := n) (lo := 0) (hi := 5) (by omega) (by omega))
  obtain ⟨L, hL⟩ : ∃ L, L = (treesB n) := ⟨_, rfl⟩
  have HP := Lib.hid (show ∀ w, Calls Try.prog 73 #[.int .i64 n] w (RetS w L) from fun w => by rw [hL]; exact treesOf_any n w (by omega))
  have hL6 : L.length ≤ 65536 := by rw [hL]; exact treesB_len (by omega)
  have hLm : ∀ x ∈ L, x.length ≤ 1000 := by rw [hL]; exact fun x hx => treesB_mlen hn hx
  rw [← hL]
  have HLM := Lib.hid hLm
  clear hL hLm
  go_enter Try.func23, Try.ntmps23
  go_wp2_with fail
  refine (within_any _ _ _ _).mono ?_
  rintro e w' ⟨rfl, rfl⟩
  rw [HB.out]
  go_wp2_with fail
  refine (HP.out _).mono ?_
  rintro e w1 ⟨A, m, c, hm, rfl, ho, hb⟩
  have HR := Lib.hid ho.rd
  have HM := Lib.hid hm
  have hm6 : m ≤ 65536 := by rw [hm]; exact hL6
  have hs1 := hb.size
  clear ho hm
  go_wp2_with fail
  go_loopw [3, 16] (fun k i wr => ∃ a : Nat, a ≤ m ∧ i = .int .i64 a ∧ k = .int .i64 (dblC tlessB L a) ∧ Below w1.heap.size w1 wr) (fun _ i _ => m - (intOf i).toNat)
  case atStart => exact ⟨0, Nat.zero_le _, rfl, rfl, Below.refl _ _⟩
  case round =>
    obtain ⟨a, ha, rfl, rfl, hbl⟩ := hrel
    have hd := dblC_bd tlessB L (by omega) a
    obtain ⟨K, hK⟩ : ∃ K, K = dblC tlessB L a := ⟨_, rfl⟩
    rw [← hK] at hd ⊢
    have HK := Lib.hid hK
    clear hK
    by_cases hlt : a < m
    · obtain ⟨b1, o1, x, rfl, hx, hc1⟩ := (HR.out.below hbl).ats hlt
      have HX := Lib.hid (getDs hx)
      have hx9 : x.length ≤ 1000000000 := by have := HLM.out x (List.mem_of_getElem? hx); omega
      have hKb : K + 65536 ≤ 9000000000000 ∧ 0 ≤ K := by omega
      obtain ⟨w2, rfl⟩ : ∃ W, W = wr := ⟨wr, rfl⟩
      clear hx hd
      go_wp2_with fail
      go_loopw [3, 22] (fun k j wr => ∃ z : Nat, z ≤ m ∧ j = .int .i64 z ∧ k = .int .i64 (K + rowC tlessB x L z) ∧ Below w1.heap.size w1 wr) (fun _ j _ => m - (intOf j).toNat)
      case atStart => exact ⟨0, Nat.zero_le _, rfl, by simp [rowC], hbl⟩
      case round =>
        obtain ⟨z, hz, rfl, rfl, hbl2⟩ := hrel
        have hr := rowC_bd tlessB x L z
        obtain ⟨R, hR⟩ : ∃ R, R = rowC tlessB x L z := ⟨_, rfl⟩
        rw [← hR] at hr ⊢
        have HRR := Lib.hid hR
        have hs2 := hbl2.size
        clear hR
        by_cases hlt2 : z < m
        · obtain ⟨b2, o2, y, hA2, hy, hc2⟩ := (HR.out.below hbl2).ats hlt2
          cases hA2
          have HY := Lib.hid (getDs hy)
          have hy9 : y.length ≤ 1000000000 := by have := HLM.out y (List.mem_of_getElem? hy); omega
          clear hy
          rcases hp : tlessB x y with _ | _
          · have HRC := Lib.hid (show rowC tlessB x L (z + 1) = R by rw [rowC, HY.out, hp, ← HRR.out]; rfl)
            have HPP := Lib.hid hp
            clear hp
            go_wp2_with fail
            refine (implIsTamariLess_any _ _ _ hx9 hy9).mono ?_
            rintro e w3 ⟨rfl, hb3⟩
            rw [HPP.out]
            have hb3' := hbl2.trans (hb3.mono hs2)
            clear hb3
            go_wp2_with fail
            go_roundw
            case rel => exact ⟨z + 1, by omega, by go_num, by rw [HRC.out], hb3'⟩
            case measure => simp [intOf]; omega
          · have HRC := Lib.hid (show rowC tlessB x L (z + 1) = R + 1 by rw [rowC, HY.out, hp, ← HRR.out]; rfl)
            have HPP := Lib.hid hp
            clear hp
            go_wp2_with fail
            refine (implIsTamariLess_any _ _ _ hx9 hy9).mono ?_
            rintro e w3 ⟨rfl, hb3⟩
            rw [HPP.out]
            have hb3' := hbl2.trans (hb3.mono hs2)
            clear hb3
            go_wp2_with fail
            go_roundw
            case rel => exact ⟨z + 1, by omega, by go_num, by rw [HRC.out]; go_num, hb3'⟩
            case measure => simp [intOf]; omega
        · have hzm : z = m := by omega
          have HD := Lib.hid (show dblC tlessB L (a + 1) = K + R by rw [dblC, HX.out, HK.out, HRR.out, hzm, HM.out])
          clear hzm
          go_wp2_with fail
          go_roundw
          case rel => exact ⟨a + 1, by omega, by go_num, by rw [HD.out], hbl2⟩
          case measure => simp [intOf]; omega
    · have ham : a = m := by omega
      have HD := Lib.hid (show dblC tlessB L L.length = K by rw [HK.out, ham, HM.out])
      clear ham
      go_wp2_with fail
      go_ret
      exact ⟨ret_int (by rw [HD.out]), hb.trans (hbl.mono hs1)⟩

def ciB (n : Int) : Int := if inB n 0 5 then dblC tlessB (treesB n.toNat) (treesB n.toNat).length else -1
theorem specCountIntervals_any (n : Int) (w : World) : Calls Try.prog 24 #[.int .i64 n] w fun e w' => e = .returned (.int .i64 (ciB n)) ∧ Below w.heap.size w w' := by
  rcases h : inB n 0 5 with _ | _
  · have HF := Lib.hid (show ciB n = -1 by simp [ciB, h])
    have HB := Lib.hid h
    clear h
    go_enter Try.func24, Try.ntmps24
    go_wp2_with fail
    refine (l1In_any _ _ _ _).mono ?_
    rintro e w' ⟨rfl, rfl⟩
    rw [HB.out]
    go_wp2_with fail
    go_ret
    exact ⟨ret_int (by rw [HF.out]), Below.refl _ _⟩
  · have hb := inB_iff.1 h
    obtain ⟨N, rfl⟩ := Int.eq_ofNat_of_zero_le hb.1
    rw [show ciB (N : Int) = dblC tlessB (treesB N) (treesB N).length by simp [ciB, h]]
    exact specCountIntervals_good N w (by omega)
theorem implCountIntervals_any (n : Int) (w : World) : Calls Try.prog 23 #[.int .i64 n] w fun e w' => e = .returned (.int .i64 (ciB n)) ∧ Below w.heap.size w w' := by
  rcases h : inB n 0 5 with _ | _
  · have HF := Lib.hid (show ciB n = -1 by simp [ciB, h])
    have HB := Lib.hid h
    clear h
    go_enter Try.func23, Try.ntmps23
    go_wp2_with fail
    refine (within_any _ _ _ _).mono ?_
    rintro e w' ⟨rfl, rfl⟩
    rw [HB.out]
    go_wp2_with fail
    go_ret
    exact ⟨ret_int (by rw [HF.out]), Below.refl _ _⟩
  · have hb := inB_iff.1 h
    obtain ⟨N, rfl⟩ := Int.eq_ofNat_of_zero_le hb.1
    rw [show ciB (N : Int) = dblC tlessB (treesB N) (treesB N).length by simp [ciB, h]]
    exact implCountIntervals_good N w (by omega)

end Go.Proofs.Ytiebaoglcdbopaa

namespace Go.Proofs.Ytiebaoglcdbopaa
set_option linter.unusedVariables false
open Go.RowKit Go.Deep

theorem upB_1 {lg : Bool} {m n : Int} (h : n < 0) : upB lg m n = m := by unfold upB; rw [if_neg (by omega)]
theorem upB_2 {lg : Bool} {m n : Int} (h : 0 ≤ n) (hm : m < 0) : upB lg m n = n + 1 := by unfold upB; rw [if_pos ⟨h, Or.inl hm⟩]
theorem upB_3 {m n : Int} (h : 0 ≤ n) (hm : m < n + 1) : upB true m n = n + 1 := by unfold upB; rw [if_pos ⟨h, Or.inr (Or.inl ⟨rfl, hm⟩)⟩]
theorem upB_4 {m n : Int} (hm : 0 ≤ m) (h : n + 1 ≤ m) : upB true m n = m := by
  unfold upB; rw [if_neg]; rintro ⟨_, h1 | ⟨_, h1⟩ | ⟨h1, _⟩⟩
  · omega
  · omega
  · cases h1
theorem upB_5 {m n : Int} (h : 0 ≤ n) (hm : n + 1 < m) : upB false m n = n + 1 := by unfold upB; rw [if_pos ⟨h, Or.inr (Or.inr ⟨rfl, hm⟩)⟩]
theorem upB_6 {m n : Int} (hm : 0 ≤ m) (h : m ≤ n + 1) : upB false m n = m := by
  unfold upB; rw [if_neg]; rintro ⟨_, h1 | ⟨h1, _⟩ | ⟨_, h1⟩⟩
  · omega
  · cases h1
  · omega
theorem tx_ne {t s : Tr} (h : tx t ≠ tx s) : (tx t == tx s) = false := by simpa using h
theorem tx_eq {t s : Tr} (h : tx t = tx s) : (tx t == tx s) = true := by simpa using h

set_option maxRecDepth 20000 in
set_option maxHeartbeats 2000000 in
theorem l17Chain_any (lg : Bool) : ∀ (f : Nat) (t s : Tr) (w : World), nodes t ≤ 4 → nodes s ≤ 8 → sh t = t → 34 < f + sm t → f ≤ 1000 →
    Calls Try.prog 69 #[.string (bs (tx t)), .string (bs (tx s)), .bool lg] w fun e w' => e = .returned (.int .i64 (chn lg f (tx t) (tx s))) ∧ Below w.heap.size w w' := by
  intro f
  induction f with
  | zero => intro t s w ht _ _ hf _; have := sm_le t (by omega); omega
  | succ f ih =>
    intro t s w ht hs hsh hf hf9
    have hsm := sm_le t (by omega)
    obtain ⟨g, rfl⟩ : ∃ g, f = g + 1 := ⟨f - 1, by omega⟩
    have HIH := Lib.hid ih
    have hta := tx_len t
    have hsa := tx_len s
    have hl : (tx t).length ≤ 1000000000 := by omega
    have hl2 : (tx s).length ≤ 1000000000 := by omega
    clear ih
    by_cases he : tx t = tx s
    · have HF := Lib.hid (show chn lg (g + 1 + 1) (tx t) (tx s) = 0 by rw [he, chn_eq])
      have h1 := tx_eq he
      clear he
      go_enter Try.func69, Try.ntmps69
      go_wp2_with fail
      go_ret
      exact ⟨ret_int (by rw [HF.out]), Below.refl _ _⟩
    have HF := Lib.hid (chn_fold (lg := lg) (f := g) (show nodes t ≤ 8 by omega) hs hsh he)
    have h1 := tx_ne he
    have HN := Lib.hid (nodesB_tx (t := t) (by omega))
    have HS := Lib.hid hsh
    clear he hsh
    go_enter Try.func69, Try.ntmps69
    go_wp2_with fail
    go_loopw [7, 8, 9, 10, 11] (fun b v _ _ _ wr => ∃ k : Nat, k ≤ nodes t ∧ v = .int .i64 k ∧ b = .int .i64 (chF lg (g + 1) (tx s) (rts rotR t k)) ∧ Below w.heap.size w wr) (fun _ v _ _ _ _ => nodes t - (intOf v).toNat)
    case atStart => exact ⟨0, Nat.zero_le _, rfl, rfl, Below.refl _ _⟩
    case round =>
      obtain ⟨k, hk, rfl, rfl, hb⟩ := hrel
      have hKb := chF_bd lg (g + 1) (tx s) (rts rotR t k)
      obtain ⟨K, hK⟩ : ∃ K, K = chF lg (g + 1) (tx s) (rts rotR t k) := ⟨_, rfl⟩
      rw [← hK] at hKb ⊢
      have HK := Lib.hid hK
      have hbs := hb.size
      clear hK
      by_cases hlt : k < nodes t
      · have HR := Lib.hid (show rotRB (tx t) (k : Int) = oT (rotR t k) by rw [rotRB, atB_in (by omega) HS.out hlt])
        rcases hr : rotR t k with _ | x
        · have HC := Lib.hid (show chF lg (g + 1) (tx s) (rts rotR t (k + 1)) = K by rw [rts_none hr, HK.out])
          have HR2 := Lib.hid (show rotRB (tx t) (k : Int) = ([], false) by rw [HR.out, hr]; rfl)
          clear hr
          go_wp2_with fail
          refine (specNodesOf_any _ _ hl).mono ?_
          rintro e w' ⟨rfl, rfl⟩
          rw [HN.out]
          go_wp2_with fail
          refine (specRotateRight_any _ _ _ hl).mono ?_
          rintro e w' ⟨rfl, m2, rfl⟩
          rw [HR2.out]
          go_wp2_with fail
          go_roundw
          case rel => exact ⟨k + 1, by omega, by go_num, by rw [HC.out], below_drewN' hb m2⟩
          case measure => simp [intOf]; omega
        · obtain ⟨_, u1, u2, _⟩ := rotR_up hr
          have HXS := Lib.hid (rotR_sh HS.out hr)
          have hx4 : nodes x ≤ 4 := by omega
          have hxl : (tx x).length ≤ 1000000000 := by rw [tx_len]; omega
          have HR2 := Lib.hid (show rotRB (tx t) (k : Int) = (tx x, true) by rw [HR.out, hr]; rfl)
          rcases hl17 : tlessB (tx x) (tx s) with _ | _
          · have HC := Lib.hid (show chF lg (g + 1) (tx s) (rts rotR t (k + 1)) = K by rw [rts_some hr, chF_skip (by omega) hl17, HK.out])
            have HLS := Lib.hid hl17
            clear hr hl17
            go_wp2_with fail
            refine (specNodesOf_any _ _ hl).mono ?_
            rintro e w' ⟨rfl, rfl⟩
            rw [HN.out]
            go_wp2_with fail
            refine (specRotateRight_any _ _ _ hl).mono ?_
            rintro e w2 ⟨rfl, m2, hw2⟩
            have hb2 : Below w.heap.size w w2 := by rw [hw2]; exact below_drewN' hb m2
            have hbs2 := hb2.size
            clear hw2
            rw [HR2.out]
            go_wp2_with fail
            refine (specIsTamariLess_any _ _ _ hxl hl2).mono ?_
            rintro e w3 ⟨rfl, hb3⟩
            rw [HLS.out]
            have hb4 := hb2.trans (hb3.mono hbs2)
            clear hb3
            go_wp2_with fail
            go_roundw
            case rel => exact ⟨k + 1, by omega, by go_num, by rw [HC.out], hb4⟩
            case measure => simp [intOf]; omega
          · have HC := Lib.hid (show chF lg (g + 1) (tx s) (rts rotR t (k + 1)) = upB lg K (chn lg (g + 1) (tx x) (tx s)) by rw [rts_some hr, chF_snoc, HK.out])
            have HLS := Lib.hid hl17
            have hVb := chn_bd lg (g + 1) (tx x) (tx s)
            have HV := Lib.hid (HIH.out x s)
            obtain ⟨V, hV⟩ : ∃ V, V = chn lg (g + 1) (tx x) (tx s) := ⟨_, rfl⟩
            rw [← hV] at HC HV hVb
            have hg9 : g ≤ 1000000 := by omega
            clear hr hl17 hV
            by_cases hv : V < 0
            · have HU := Lib.hid (show upB lg K V = K from upB_1 hv)
              have hv1 : ¬ (0 ≤ V) := by omega
              go_wp2_with fail
              refine (specNodesOf_any _ _ hl).mono ?_
              rintro e w' ⟨rfl, rfl⟩
              rw [HN.out]
              go_wp2_with fail
              refine (specRotateRight_any _ _ _ hl).mono ?_
              rintro e w2 ⟨rfl, m2, hw2⟩
              have hb2 : Below w.heap.size w w2 := by rw [hw2]; exact below_drewN' hb m2
              have hbs2 := hb2.size
              clear hw2
              rw [HR2.out]
              go_wp2_with fail
              refine (specIsTamariLess_any _ _ _ hxl hl2).mono ?_
              rintro e w3 ⟨rfl, hb3⟩
              rw [HLS.out]
              have hb4 := hb2.trans (hb3.mono hbs2)
              have hbs4 := hb4.size
              clear hb3
              go_wp2_with fail
              refine (HV.out _ hx4 hs HXS.out (by omega) (by omega)).mono ?_
              rintro e w4 ⟨rfl, hb5⟩
              have hb6 := hb4.trans (hb5.mono hbs4)
              clear hb5
              go_wp2_with fail
              go_roundw
              case rel => exact ⟨k + 1, by omega, by go_num, by rw [HC.out, HU.out], hb6⟩
              case measure => simp [intOf]; omega
            have hv0 : 0 ≤ V := by omega
            by_cases hK0 : K < 0
            · have HU := Lib.hid (show upB lg K V = V + 1 from upB_2 hv0 hK0)
              go_wp2_with fail
              refine (specNodesOf_any _ _ hl).mono ?_
              rintro e w' ⟨rfl, rfl⟩
              rw [HN.out]
              go_wp2_with fail
              refine (specRotateRight_any _ _ _ hl).mono ?_
              rintro e w2 ⟨rfl, m2, hw2⟩
              have hb2 : Below w.heap.size w w2 := by rw [hw2]; exact below_drewN' hb m2
              have hbs2 := hb2.size
              clear hw2
              rw [HR2.out]
              go_wp2_with fail
              refine (specIsTamariLess_any _ _ _ hxl hl2).mono ?_
              rintro e w3 ⟨rfl, hb3⟩
              rw [HLS.out]
              have hb4 := hb2.trans (hb3.mono hbs2)
              have hbs4 := hb4.size
              clear hb3
              go_wp2_with fail
              refine (HV.out _ hx4 hs HXS.out (by omega) (by omega)).mono ?_
              rintro e w4 ⟨rfl, hb5⟩
              have hb6 := hb4.trans (hb5.mono hbs4)
              clear hb5
              go_wp2_with fail
              go_roundw
              case rel => exact ⟨k + 1, by omega, by go_num, by rw [HC.out, HU.out], hb6⟩
              case measure => simp [intOf]; omega
            have hK1 : 0 ≤ K := by omega
            rcases hlg : lg with _ | _
            · subst hlg
              by_cases hc : V + 1 < K
              · have HU := Lib.hid (show upB false K V = V + 1 from upB_5 hv0 hc)
                go_wp2_with fail
                refine (specNodesOf_any _ _ hl).mono ?_
                rintro e w' ⟨rfl, rfl⟩
                rw [HN.out]
                go_wp2_with fail
                refine (specRotateRight_any _ _ _ hl).mono ?_
                rintro e w2 ⟨rfl, m2, hw2⟩
                have hb2 : Below w.heap.size w w2 := by rw [hw2]; exact below_drewN' hb m2
                have hbs2 := hb2.size
                clear hw2
                rw [HR2.out]
                go_wp2_with fail
                refine (specIsTamariLess_any _ _ _ hxl hl2).mono ?_
                rintro e w3 ⟨rfl, hb3⟩
                rw [HLS.out]
                have hb4 := hb2.trans (hb3.mono hbs2)
                have hbs4 := hb4.size
                clear hb3
                go_wp2_with fail
                refine (HV.out _ hx4 hs HXS.out (by omega) (by omega)).mono ?_
                rintro e w4 ⟨rfl, hb5⟩
                have hb6 := hb4.trans (hb5.mono hbs4)
                clear hb5
                go_wp2_with fail
                go_roundw
                case rel => exact ⟨k + 1, by omega, by go_num, by rw [HC.out, HU.out], hb6⟩
                case measure => simp [intOf]; omega
              · have HU := Lib.hid (show upB false K V = K from upB_6 hK1 (by omega))
                go_wp2_with fail
                refine (specNodesOf_any _ _ hl).mono ?_
                rintro e w' ⟨rfl, rfl⟩
                rw [HN.out]
                go_wp2_with fail
                refine (specRotateRight_any _ _ _ hl).mono ?_
                rintro e w2 ⟨rfl, m2, hw2⟩
                have hb2 : Below w.heap.size w w2 := by rw [hw2]; exact below_drewN' hb m2
                have hbs2 := hb2.size
                clear hw2
                rw [HR2.out]
                go_wp2_with fail
                refine (specIsTamariLess_any _ _ _ hxl hl2).mono ?_
                rintro e w3 ⟨rfl, hb3⟩
                rw [HLS.out]
                have hb4 := hb2.trans (hb3.mono hbs2)
                have hbs4 := hb4.size
                clear hb3
                go_wp2_with fail
                refine (HV.out _ hx4 hs HXS.out (by omega) (by omega)).mono ?_
                rintro e w4 ⟨rfl, hb5⟩
                have hb6 := hb4.trans (hb5.mono hbs4)
                clear hb5
                go_wp2_with fail
                go_roundw
                case rel => exact ⟨k + 1, by omega, by go_num, by rw [HC.out, HU.out], hb6⟩
                case measure => simp [intOf]; omega
            · subst hlg
              by_cases hc : K < V + 1
              · have HU := Lib.hid (show upB true K V = V + 1 from upB_3 hv0 hc)
                go_wp2_with fail
                refine (specNodesOf_any _ _ hl).mono ?_
                rintro e w' ⟨rfl, rfl⟩
                rw [HN.out]
                go_wp2_with fail
                refine (specRotateRight_any _ _ _ hl).mono ?_
                rintro e w2 ⟨rfl, m2, hw2⟩
                have hb2 : Below w.heap.size w w2 := by rw [hw2]; exact below_drewN' hb m2
                have hbs2 := hb2.size
                clear hw2
                rw [HR2.out]
                go_wp2_with fail
                refine (specIsTamariLess_any _ _ _ hxl hl2).mono ?_
                rintro e w3 ⟨rfl, hb3⟩
                rw [HLS.out]
                have hb4 := hb2.trans (hb3.mono hbs2)
                have hbs4 := hb4.size
                clear hb3
                go_wp2_with fail
                refine (HV.out _ hx4 hs HXS.out (by omega) (by omega)).mono ?_
                rintro e w4 ⟨rfl, hb5⟩
                have hb6 := hb4.trans (hb5.mono hbs4)
                clear hb5
                go_wp2_with fail
                go_roundw
                case rel => exact ⟨k + 1, by omega, by go_num, by rw [HC.out, HU.out], hb6⟩
                case measure => simp [intOf]; omega
              · have HU := Lib.hid (show upB true K V = K from upB_4 hK1 (by omega))
                go_wp2_with fail
                refine (specNodesOf_any _ _ hl).mono ?_
                rintro e w' ⟨rfl, rfl⟩
                rw [HN.out]
                go_wp2_with fail
                refine (specRotateRight_any _ _ _ hl).mono ?_
                rintro e w2 ⟨rfl, m2, hw2⟩
                have hb2 : Below w.heap.size w w2 := by rw [hw2]; exact below_drewN' hb m2
                have hbs2 := hb2.size
                clear hw2
                rw [HR2.out]
                go_wp2_with fail
                refine (specIsTamariLess_any _ _ _ hxl hl2).mono ?_
                rintro e w3 ⟨rfl, hb3⟩
                rw [HLS.out]
                have hb4 := hb2.trans (hb3.mono hbs2)
                have hbs4 := hb4.size
                clear hb3
                go_wp2_with fail
                refine (HV.out _ hx4 hs HXS.out (by omega) (by omega)).mono ?_
                rintro e w4 ⟨rfl, hb5⟩
                have hb6 := hb4.trans (hb5.mono hbs4)
                clear hb5
                go_wp2_with fail
                go_roundw
                case rel => exact ⟨k + 1, by omega, by go_num, by rw [HC.out, HU.out], hb6⟩
                case measure => simp [intOf]; omega
      · have hkn : k = nodes t := by omega
        have HD := Lib.hid (show chn lg (g + 1 + 1) (tx t) (tx s) = K by rw [HK.out, hkn]; exact HF.out)
        clear hkn
        go_wp2_with fail
        refine (specNodesOf_any _ _ hl).mono ?_
        rintro e w' ⟨rfl, rfl⟩
        rw [HN.out]
        go_wp2_with fail
        go_ret
        exact ⟨ret_int (by rw [HD.out]), hb⟩

set_option maxRecDepth 20000 in
set_option maxHeartbeats 2000000 in
theorem chain_any (lg : Bool) : ∀ (f : Nat) (t s : Tr) (w : World), nodes t ≤ 4 → nodes s ≤ 8 → sh t = t → 34 < f + sm t → f ≤ 1000 →
    Calls Try.prog 68 #[.string (bs (tx t)), .string (bs (tx s)), .bool lg] w fun e w' => e = .returned (.int .i64 (chn lg f (tx t) (tx s))) ∧ Below w.heap.size w w' := by
  intro f
  induction f with
  | zero => intro t s w ht _ _ hf _; have := sm_le t (by omega); omega
  | succ f ih =>
    intro t s w ht hs hsh hf hf9
    have hsm := sm_le t (by omega)
    obtain ⟨g, rfl⟩ : ∃ g, f = g + 1 := ⟨f - 1, by omega⟩
    have HIH := Lib.hid ih
    have hta := tx_len t
    have hsa := tx_len s
    have hl : (tx t).length ≤ 1000000000 := by omega
    have hl2 : (tx s).length ≤ 1000000000 := by omega
    clear ih
    by_cases he : tx t = tx s
    · have HF := Lib.hid (show chn lg (g + 1 + 1) (tx t) (tx s) = 0 by rw [he, chn_eq])
      have h1 := tx_eq he
      clear he
      go_enter Try.func68, Try.ntmps68
      go_wp2_with fail
      go_ret
      exact ⟨ret_int (by rw [HF.out]), Below.refl _ _⟩
    have h1 := tx_ne he
    rcases hl17 : tlessB (tx t) (tx s) with _ | _
    · have HF := Lib.hid (show chn lg (g + 1 + 1) (tx t) (tx s) = -1 from chn_no he hl17)
      have HLS := Lib.hid hl17
      clear he hl17
      go_enter Try.func68, Try.ntmps68
      go_wp2_with fail
      refine (implIsTamariLess_any _ _ _ hl hl2).mono ?_
      rintro e w3 ⟨rfl, hb3⟩
      rw [HLS.out]
      go_wp2_with fail
      go_ret
      exact ⟨ret_int (by rw [HF.out]), hb3⟩
    have HF := Lib.hid (show chn lg (g + 1 + 1) (tx t) (tx s) = chF lg (g + 1) (tx s) (rtsB rotR (tx t)) from chn_yes he hl17)
    have HLS := Lib.hid hl17
    have HM := Lib.hid (show ∀ x ∈ rtsB rotR (tx t), ∃ y, x = tx y ∧ nodes y = nodes t ∧ sm t < sm y ∧ sh y = y by
      intro x hx
      rw [rtsB_tx (by omega) hsh] at hx
      obtain ⟨v, y, _, h2, h3⟩ := rts_mem hx
      obtain ⟨_, u1, u2, _⟩ := rotR_up h2
      exact ⟨y, h3, u1, u2, rotR_sh hsh h2⟩)
    have hx8 := rtsB_len rotR (tx t)
    obtain ⟨XS, hXS⟩ : ∃ XS, XS = rtsB rotR (tx t) := ⟨_, rfl⟩
    have HP := Lib.hid (show ∀ w, Calls Try.prog 85 #[.string (bs (tx t)), .func (.func 34) #[] #[]] w (RetS w XS) from fun w => by rw [hXS]; exact rotationsRight_any _ w hl)
    rw [← hXS] at HF HM hx8
    clear he hl17 hXS hsh
    go_enter Try.func68, Try.ntmps68
    go_wp2_with fail
    refine (implIsTamariLess_any _ _ _ hl hl2).mono ?_
    rintro e w3 ⟨rfl, hb3⟩
    rw [HLS.out]
    go_wp2_with fail
    refine (HP.out _).mono ?_
    rintro e w4 ⟨A, m, c, hm, rfl, ho, hb4⟩
    have HR := Lib.hid ho.rd
    have HML := Lib.hid hm
    have hb5 := hb3.trans (hb4.mono hb3.size)
    have hs5 := hb5.size
    have hm8 : m ≤ 8 := by omega
    clear ho hm hb3 hb4
    go_wp2_with fail
    go_loopw [7, 9, 10, 21] (fun b _ _ v wr => ∃ k : Nat, k ≤ m ∧ v = .int .i64 k ∧ b = .int .i64 (chF lg (g + 1) (tx s) (XS.take k)) ∧ Below w4.heap.size w4 wr) (fun _ _ _ v _ => m - (intOf v).toNat)
    case atStart => exact ⟨0, Nat.zero_le _, rfl, rfl, Below.refl _ _⟩
    case round =>
      obtain ⟨k, hk, rfl, rfl, hb⟩ := hrel
      have hKb := chF_bd lg (g + 1) (tx s) (XS.take k)
      obtain ⟨K, hK⟩ : ∃ K, K = chF lg (g + 1) (tx s) (XS.take k) := ⟨_, rfl⟩
      rw [← hK] at hKb ⊢
      have HK := Lib.hid hK
      have hbs := hb.size
      clear hK
      by_cases hlt : k < m
      · obtain ⟨bl, off, x, rfl, hx, hc⟩ := (HR.out.below hb).ats hlt
        obtain ⟨y, rfl, n1, n2, n3⟩ := HM.out x (List.mem_of_getElem? hx)
        have HXS := Lib.hid n3
        have hx4 : nodes y ≤ 4 := by omega
        have HC := Lib.hid (show chF lg (g + 1) (tx s) (XS.take (k + 1)) = upB lg K (chn lg (g + 1) (tx y) (tx s)) by
          obtain ⟨h2, h3⟩ := List.getElem?_eq_some_iff.1 hx
          rw [List.take_succ_eq_append_getElem h2, h3, chF_snoc, HK.out])
        have hVb := chn_bd lg (g + 1) (tx y) (tx s)
        have HV := Lib.hid (HIH.out y s)
        obtain ⟨V, hV⟩ : ∃ V, V = chn lg (g + 1) (tx y) (tx s) := ⟨_, rfl⟩
        rw [← hV] at HC HV hVb
        have hg9 : g ≤ 1000000 := by omega
        clear hx hV n1 n3
        by_cases hv : V < 0
        · have HU := Lib.hid (show upB lg K V = K from upB_1 hv)
          have hv1 : ¬ (0 ≤ V) := by omega
          go_wp2_with fail
          refine (HV.out _ hx4 hs HXS.out (by omega) (by omega)).mono ?_
          rintro e w6 ⟨rfl, hb6⟩
          have hb7 := hb.trans (hb6.mono hbs)
          clear hb6
          go_wp2_with fail
          go_roundw
          case rel => exact ⟨k + 1, by omega, by go_num, by rw [HC.out, HU.out], hb7⟩
          case measure => simp [intOf]; omega
        have hv0 : 0 ≤ V := by omega
        by_cases hK0 : K < 0
        · have HU := Lib.hid (show upB lg K V = V + 1 from upB_2 hv0 hK0)
          go_wp2_with fail
          refine (HV.out _ hx4 hs HXS.out (by omega) (by omega)).mono ?_
          rintro e w6 ⟨rfl, hb6⟩
          have hb7 := hb.trans (hb6.mono hbs)
          clear hb6
          go_wp2_with fail
          go_roundw
          case rel => exact ⟨k + 1, by omega, by go_num, by rw [HC.out, HU.out], hb7⟩
          case measure => simp [intOf]; omega
        have hK1 : 0 ≤ K := by omega
        rcases hlg : lg with _ | _
        · subst hlg
          by_cases hc : V + 1 < K
          · have HU := Lib.hid (show upB false K V = V + 1 from upB_5 hv0 hc)
            go_wp2_with fail
            refine (HV.out _ hx4 hs HXS.out (by omega) (by omega)).mono ?_
            rintro e w6 ⟨rfl, hb6⟩
            have hb7 := hb.trans (hb6.mono hbs)
            clear hb6
            go_wp2_with fail
            go_roundw
            case rel => exact ⟨k + 1, by omega, by go_num, by rw [HC.out, HU.out], hb7⟩
            case measure => simp [intOf]; omega
          · have HU := Lib.hid (show upB false K V = K from upB_6 hK1 (by omega))
            go_wp2_with fail
            refine (HV.out _ hx4 hs HXS.out (by omega) (by omega)).mono ?_
            rintro e w6 ⟨rfl, hb6⟩
            have hb7 := hb.trans (hb6.mono hbs)
            clear hb6
            go_wp2_with fail
            go_roundw
            case rel => exact ⟨k + 1, by omega, by go_num, by rw [HC.out, HU.out], hb7⟩
            case measure => simp [intOf]; omega
        · subst hlg
          by_cases hc : K < V + 1
          · have HU := Lib.hid (show upB true K V = V + 1 from upB_3 hv0 hc)
            go_wp2_with fail
            refine (HV.out _ hx4 hs HXS.out (by omega) (by omega)).mono ?_
            rintro e w6 ⟨rfl, hb6⟩
            have hb7 := hb.trans (hb6.mono hbs)
            clear hb6
            go_wp2_with fail
            go_roundw
            case rel => exact ⟨k + 1, by omega, by go_num, by rw [HC.out, HU.out], hb7⟩
            case measure => simp [intOf]; omega
          · have HU := Lib.hid (show upB true K V = K from upB_4 hK1 (by omega))
            go_wp2_with fail
            refine (HV.out _ hx4 hs HXS.out (by omega) (by omega)).mono ?_
            rintro e w6 ⟨rfl, hb6⟩
            have hb7 := hb.trans (hb6.mono hbs)
            clear hb6
            go_wp2_with fail
            go_roundw
            case rel => exact ⟨k + 1, by omega, by go_num, by rw [HC.out, HU.out], hb7⟩
            case measure => simp [intOf]; omega
      · have hkn : k = m := by omega
        have HD := Lib.hid (show chn lg (g + 1 + 1) (tx t) (tx s) = K by rw [HF.out, HK.out, hkn, HML.out, List.take_length])
        clear hkn
        go_wp2_with fail
        go_ret
        exact ⟨ret_int (by rw [HD.out]), hb5.trans (hb.mono hs5)⟩

theorem alike_48 {a b : List UInt8} (h : alikeB a b 8 = false) (m : Int) (hm : m ≤ 8) : alikeB a b m = false := by
  rcases hh : alikeB a b m with _ | _
  · rfl
  · obtain ⟨s, t, rfl, rfl, h1, h2, _, _, h3, h4⟩ := alike_yes hh
    rw [alike_tx h1 h2, h3] at h
    simp at h
    omega

theorem specLongestChain_any (a b : List UInt8) (w : World) (ha : a.length ≤ 1000000000) (hb : b.length ≤ 1000000000) :
    Calls Try.prog 20 #[.string (bs a), .string (bs b)] w fun e w' => e = .returned (.int .i64 (chB true a b)) ∧ Below w.heap.size w w' := by
  rcases hf8 : alikeB a b 8 with _ | _
  · have HF := Lib.hid (show chB true a b = -1 by unfold chB; rw [alike_48 hf8 4 (by omega)]; rfl)
    have H1 := Lib.hid hf8
    clear hf8
    go_enter Try.func20, Try.ntmps20
    go_wp2_with fail
    refine (fit_any _ _ _ ha hb).mono ?_
    rintro e w0 ⟨rfl, hb0⟩
    rw [H1.out]
    go_wp2_with fail
    go_ret
    exact ⟨ret_int (by rw [HF.out]), hb0⟩
  rcases hf : alikeB a b 4 with _ | _
  · have HF := Lib.hid (show chB true a b = -1 by unfold chB; rw [hf]; rfl)
    have h5 : 4 < nodesB a := by
      obtain ⟨s, t, rfl, rfl, hs, ht, _, _, hst, _⟩ := alike_yes hf8
      rw [alike_tx hs ht, hst] at hf
      simp at hf
      rw [nodesB_tx hs]; omega
    have H1 := Lib.hid hf8
    clear hf8 hf
    go_enter Try.func20, Try.ntmps20
    go_wp2_with fail
    refine (fit_any _ _ _ ha hb).mono ?_
    rintro e w0 ⟨rfl, hb0⟩
    rw [H1.out]
    go_wp2_with fail
    refine (specNodesOf_any _ _ ha).mono ?_
    rintro e w' ⟨rfl, rfl⟩
    go_wp2_with fail
    go_ret
    exact ⟨ret_int (by rw [HF.out]), hb0⟩
  obtain ⟨t, s, rfl, rfl, ht, hs, st, _, hst, hm⟩ := alike_yes hf
  have HF := Lib.hid (show chB true (tx t) (tx s) = chn true 40 (tx t) (tx s) by unfold chB; rw [if_pos hf])
  have HN := Lib.hid (nodesB_tx ht)
  have h4 : nodes t ≤ 4 := by omega
  have HC := Lib.hid (fun w => l17Chain_any true 40 t s w h4 hs st (by omega) (by omega))
  have H8 := Lib.hid hf8
  clear hf8 hf st hst
  go_enter Try.func20, Try.ntmps20
  go_wp2_with fail
  refine (fit_any _ _ _ ha hb).mono ?_
  rintro e w0 ⟨rfl, hb0⟩
  rw [H8.out]
  go_wp2_with fail
  refine (specNodesOf_any _ _ ha).mono ?_
  rintro e w' ⟨rfl, rfl⟩
  rw [HN.out]
  go_wp2_with fail
  refine (HC.out _).mono ?_
  rintro e w1 ⟨rfl, hb1⟩
  go_wp2_with fail
  go_ret
  exact ⟨ret_int (by rw [HF.out]), hb0.trans (hb1.mono hb0.size)⟩
theorem implLongestChain_any (a b : List UInt8) (w : World) (ha : a.length ≤ 1000000000) (hb : b.length ≤ 1000000000) :
    Calls Try.prog 18 #[.string (bs a), .string (bs b)] w fun e w' => e = .returned (.int .i64 (chB true a b)) ∧ Below w.heap.size w w' := by
  rcases hf : alikeB a b 4 with _ | _
  · have HF := Lib.hid (show chB true a b = -1 by unfold chB; rw [hf]; rfl)
    have H1 := Lib.hid hf
    clear hf
    go_enter Try.func18, Try.ntmps18
    go_wp2_with fail
    refine (alike_any _ _ 4 _ ha hb).mono ?_
    rintro e w0 ⟨rfl, hb0⟩
    rw [H1.out]
    go_wp2_with fail
    go_ret
    exact ⟨ret_int (by rw [HF.out]), hb0⟩
  obtain ⟨t, s, rfl, rfl, ht, hs, st, _, hst, hm⟩ := alike_yes hf
  have HF := Lib.hid (show chB true (tx t) (tx s) = chn true 40 (tx t) (tx s) by unfold chB; rw [if_pos hf])
  have h4 : nodes t ≤ 4 := by omega
  have HC := Lib.hid (fun w => chain_any true 40 t s w h4 hs st (by omega) (by omega))
  have H1 := Lib.hid hf
  clear hf st hst
  go_enter Try.func18, Try.ntmps18
  go_wp2_with fail
  refine (alike_any _ _ 4 _ ha hb).mono ?_
  rintro e w0 ⟨rfl, hb0⟩
  rw [H1.out]
  go_wp2_with fail
  refine (HC.out _).mono ?_
  rintro e w1 ⟨rfl, hb1⟩
  go_wp2_with fail
  go_ret
  exact ⟨ret_int (by rw [HF.out]), hb0.trans (hb1.mono hb0.size)⟩

theorem specShortestChain_any (a b : List UInt8) (w : World) (ha : a.length ≤ 1000000000) (hb : b.length ≤ 1000000000) :
    Calls Try.prog 21 #[.string (bs a), .string (bs b)] w fun e w' => e = .returned (.int .i64 (chB false a b)) ∧ Below w.heap.size w w' := by
  rcases hf8 : alikeB a b 8 with _ | _
  · have HF := Lib.hid (show chB false a b = -1 by unfold chB; rw [alike_48 hf8 4 (by omega)]; rfl)
    have H1 := Lib.hid hf8
    clear hf8
    go_enter Try.func21, Try.ntmps21
    go_wp2_with fail
    refine (fit_any _ _ _ ha hb).mono ?_
    rintro e w0 ⟨rfl, hb0⟩
    rw [H1.out]
    go_wp2_with fail
    go_ret
    exact ⟨ret_int (by rw [HF.out]), hb0⟩
  rcases hf : alikeB a b 4 with _ | _
  · have HF := Lib.hid (show chB false a b = -1 by unfold chB; rw [hf]; rfl)
    have h5 : 4 < nodesB a := by
      obtain ⟨s, t, rfl, rfl, hs, ht, _, _, hst, _⟩ := alike_yes hf8
      rw [alike_tx hs ht, hst] at hf
      simp at hf
      rw [nodesB_tx hs]; omega
    have H1 := Lib.hid hf8
    clear hf8 hf
    go_enter Try.func21, Try.ntmps21
    go_wp2_with fail
    refine (fit_any _ _ _ ha hb).mono ?_
    rintro e w0 ⟨rfl, hb0⟩
    rw [H1.out]
    go_wp2_with fail
    refine (specNodesOf_any _ _ ha).mono ?_
    rintro e w' ⟨rfl, rfl⟩
    go_wp2_with fail
    go_ret
    exact ⟨ret_int (by rw [HF.out]), hb0⟩
  obtain ⟨t, s, rfl, rfl, ht, hs, st, _, hst, hm⟩ := alike_yes hf
  have HF := Lib.hid (show chB false (tx t) (tx s) = chn false 40 (tx t) (tx s) by unfold chB; rw [if_pos hf])
  have HN := Lib.hid (nodesB_tx ht)
  have h4 : nodes t ≤ 4 := by omega
  have HC := Lib.hid (fun w => l17Chain_any false 40 t s w h4 hs st (by omega) (by omega))
  have H8 := Lib.hid hf8
  clear hf8 hf st hst
  go_enter Try.func21, Try.ntmps21
  go_wp2_with fail
  refine (fit_any _ _ _ ha hb).mono ?_
  rintro e w0 ⟨rfl, hb0⟩
  rw [H8.out]
  go_wp2_with fail
  refine (specNodesOf_any _ _ ha).mono ?_
  rintro e w' ⟨rfl, rfl⟩
  rw [HN.out]
  go_wp2_with fail
  refine (HC.out _).mono ?_
  rintro e w1 ⟨rfl, hb1⟩
  go_wp2_with fail
  go_ret
  exact ⟨ret_int (by rw [HF.out]), hb0.trans (hb1.mono hb0.size)⟩
theorem implShortestChain_any (a b : List UInt8) (w : World) (ha : a.length ≤ 1000000000) (hb : b.length ≤ 1000000000) :
    Calls Try.prog 19 #[.string (bs a), .string (bs b)] w fun e w' => e = .returned (.int .i64 (chB false a b)) ∧ Below w.heap.size w w' := by
  rcases hf : alikeB a b 4 with _ | _
  · have HF := Lib.hid (show chB false a b = -1 by unfold chB; rw [hf]; rfl)
    have H1 := Lib.hid hf
    clear hf
    go_enter Try.func19, Try.ntmps19
    go_wp2_with fail
    refine (alike_any _ _ 4 _ ha hb).mono ?_
    rintro e w0 ⟨rfl, hb0⟩
    rw [H1.out]
    go_wp2_with fail
    go_ret
    exact ⟨ret_int (by rw [HF.out]), hb0⟩
  obtain ⟨t, s, rfl, rfl, ht, hs, st, _, hst, hm⟩ := alike_yes hf
  have HF := Lib.hid (show chB false (tx t) (tx s) = chn false 40 (tx t) (tx s) by unfold chB; rw [if_pos hf])
  have h4 : nodes t ≤ 4 := by omega
  have HC := Lib.hid (fun w => chain_any false 40 t s w h4 hs st (by omega) (by omega))
  have H1 := Lib.hid hf
  clear hf st hst
  go_enter Try.func19, Try.ntmps19
  go_wp2_with fail
  refine (alike_any _ _ 4 _ ha hb).mono ?_
  rintro e w0 ⟨rfl, hb0⟩
  rw [H1.out]
  go_wp2_with fail
  refine (HC.out _).mono ?_
  rintro e w1 ⟨rfl, hb1⟩
  go_wp2_with fail
  go_ret
  exact ⟨ret_int (by rw [HF.out]), hb0.trans (hb1.mono hb0.size)⟩

end Go.Proofs.Ytiebaoglcdbopaa

namespace Go.Proofs.Ytiebaoglcdbopaa
set_option linter.unusedVariables false
open Go.RowKit Go.Deep

theorem ci_if (n : Int) (h1 : -1 ≤ n) (h2 : n ≤ 5) : ciB n < 0 ∨ ciB n = ifI n := by
  have h : n = -1 ∨ n = 0 ∨ n = 1 ∨ n = 2 ∨ n = 3 ∨ n = 4 ∨ n = 5 := by omega
  rcases h with rfl | rfl | rfl | rfl | rfl | rfl | rfl
  · left; decide
  all_goals right; decide +kernel

theorem mem_trees (t : Tr) : tx t ∈ treesB (nodes t) := by
  unfold treesB
  rw [List.mem_map]
  exact ⟨wd t, wd_mem t, by rw [tw_wd, tx_sh]⟩
def chOk (n : Nat) : Bool := (treesB n).all fun x => (treesB n).all fun y => decide (chn false 40 x y ≤ chn true 40 x y) && (decide (0 ≤ chn true 40 x y) == tlessB x y)
theorem chOk_4 : ∀ n, n ≤ 4 → chOk n = true := by
  intro n hn
  have h : n = 0 ∨ n = 1 ∨ n = 2 ∨ n = 3 ∨ n = 4 := by omega
  rcases h with rfl | rfl | rfl | rfl | rfl <;> decide +kernel
theorem ch_law (a b : List UInt8) : chB false a b ≤ chB true a b ∧ (nodesB a ≤ 4 → decide (0 ≤ chB true a b) = tlessB a b) := by
  unfold chB
  rcases h : alikeB a b 4 with _ | _
  · refine ⟨by simp, fun hn => ?_⟩
    rw [if_neg (by simp)]
    have : tlessB a b = false := by
      rcases ht : tlessB a b with _ | _
      · rfl
      · unfold tlessB at ht
        rw [Bool.and_eq_true] at ht
        obtain ⟨s, t, rfl, rfl, h1, h2, _, _, h3, h4⟩ := alike_yes ht.1
        rw [alike_tx h1 h2, h3] at h
        rw [nodesB_tx h1] at hn
        simp at h
        omega
    rw [this]
    decide
  · obtain ⟨s, t, rfl, rfl, h1, h2, _, _, h3, h4⟩ := alike_yes h
    rw [if_pos rfl, if_pos rfl]
    have hk := chOk_4 (nodes s) (by omega)
    unfold chOk at hk
    rw [List.all_eq_true] at hk
    have hk := hk _ (mem_trees s)
    rw [List.all_eq_true] at hk
    have hk := hk _ (by rw [h3]; exact mem_trees t)
    rw [Bool.and_eq_true, decide_eq_true_eq, beq_iff_eq] at hk
    exact ⟨hk.1, fun _ => hk.2⟩
theorem chB_bd (lg : Bool) (a b : List UInt8) : -1 ≤ chB lg a b ∧ chB lg a b ≤ 40 := by
  unfold chB
  split
  · have := chn_bd lg 40 a b; omega
  · omega
theorem isz_pos (a b : List UInt8) (l : List (List UInt8)) : ∀ k, 0 < iszTo a b l k ↔ ∃ j, j < k ∧ tlessB a (l.getD j []) = true ∧ tlessB (l.getD j []) b = true
  | 0 => by simp [iszTo]
  | k + 1 => by
    have ih := isz_pos a b l k
    have hb := iszTo_bd a b l k
    unfold iszTo
    rcases h1 : tlessB a (l.getD k []) && tlessB (l.getD k []) b with _ | _
    · rw [if_neg (by simp), ih]
      constructor
      · rintro ⟨j, hj, h⟩; exact ⟨j, by omega, h⟩
      · rintro ⟨j, hj, h2, h3⟩
        rcases Nat.lt_or_ge j k with hk | hk
        · exact ⟨j, hk, h2, h3⟩
        · have : j = k := by omega
          subst this
          rw [h2, h3] at h1
          cases h1
    · rw [if_pos rfl]
      rw [Bool.and_eq_true] at h1
      exact ⟨fun _ => ⟨k, by omega, h1⟩, fun _ => by omega⟩
theorem isz_law (a b : List UInt8) : iszB a b < 0 ∨ (0 ≤ iszB a b ∧ decide (0 < iszB a b) = tlessB a b) := by
  unfold iszB
  rcases h : alikeB a b 5 with _ | _
  · left; simp
  · right
    obtain ⟨s, t, rfl, rfl, h1, h2, _, _, h3, h4⟩ := alike_yes h
    rw [if_pos rfl, nodesB_tx h1, Int.toNat_natCast]
    refine ⟨(iszTo_bd _ _ _ _).1, ?_⟩
    have hi := isz_pos (tx s) (tx t) (treesB (nodes s)) (treesB (nodes s)).length
    rcases ht : tlessB (tx s) (tx t) with _ | _
    · rw [decide_eq_false_iff_not, hi]
      rintro ⟨j, hj, a1, a2⟩
      have hm : (treesB (nodes s)).getD j [] ∈ treesB (nodes s) := by
        rw [List.getD_eq_getElem?_getD, List.getElem?_eq_getElem hj]; exact List.getElem_mem hj
      obtain ⟨u, hu, hn, _⟩ := treesB_mem (by omega) hm
      rw [hu] at a1 a2
      have := (tless_iff h1 h2).2 (le2_trans ((tless_iff h1 (by omega)).1 a1) ((tless_iff (by omega) h2).1 a2))
      rw [ht] at this; cases this
    · rw [decide_eq_true_eq, hi]
      obtain ⟨j, hj, he⟩ := List.getElem_of_mem (mem_trees s)
      refine ⟨j, hj, ?_⟩
      rw [List.getD_eq_getElem?_getD, List.getElem?_eq_getElem hj, he]
      exact ⟨tless_refl h1, ht⟩
theorem isz_bd (a b : List UInt8) : -1 ≤ iszB a b ∧ iszB a b ≤ 100000 := by
  unfold iszB
  rcases h : alikeB a b 5 with _ | _
  · simp
  · obtain ⟨s, t, rfl, rfl, h1, h2, _, _, h3, h4⟩ := alike_yes h
    rw [if_pos rfl, nodesB_tx h1, Int.toNat_natCast]
    have := iszTo_bd (tx s) (tx t) (treesB (nodes s)) (treesB (nodes s)).length
    have := treesB_len (n := nodes s) h1
    omega

end Go.Proofs.Ytiebaoglcdbopaa
