/- RankOfPath of both sides: the sum of what heights are above the lowest path's, halved. -/
import Derived.Test.YteiffomekjadgaaHeights
namespace Go.Proofs.Yteiffomekjadgaa
open Go.RowKit

/-- The lowest path of m letters u. -/
def zg : Nat → List UInt8
  | 0 => []
  | m + 1 => zg m ++ [117, 100]
theorem zg_len (m : Nat) : (zg m).length = 2 * m := by
  induction m with
  | zero => rfl
  | succ m ih => simp [zg, ih]; omega
theorem zg_at : ∀ m i, i < 2 * m → (zg m)[i]? = some (if i % 2 = 0 then 117 else 100)
  | 0, i, h => by omega
  | m + 1, i, h => by
    rcases Nat.lt_or_ge i (2 * m) with h1 | h1
    · rw [zg, List.getElem?_append_left (by rw [zg_len]; exact h1)]
      exact zg_at m i h1
    · rw [zg, List.getElem?_append_right (by rw [zg_len]; exact h1), zg_len]
      have : i = 2 * m ∨ i = 2 * m + 1 := by omega
      rcases this with rfl | rfl
      · simp
      · rw [show 2 * m + 1 - 2 * m = 1 from by omega, if_neg (by omega)]; rfl
theorem zg_hat (m : Nat) : ∀ i, i ≤ 2 * m → hat (zg m) i = ((i % 2 : Nat) : Int)
  | 0, _ => rfl
  | i + 1, h => by
    have ih := zg_hat m i (by omega)
    have hz := zg_at m i (by omega)
    by_cases h2 : i % 2 = 0
    · rw [if_pos h2] at hz
      rw [hat_u hz, ih]; omega
    · rw [if_neg h2] at hz
      rw [hat_d hz (by decide), ih]; omega
theorem zg_ok (m : Nat) : ∀ i, i ≤ 2 * m → okB (zg m) i = true
  | 0, _ => rfl
  | i + 1, h => by
    have ih := zg_ok m i (by omega)
    have hz := zg_at m i (by omega)
    have hh := zg_hat m i (by omega)
    by_cases h2 : i % 2 = 0
    · rw [if_pos h2] at hz
      exact okB_u ih hz
    · rw [if_neg h2] at hz
      exact okB_d ih hz (by rw [hh]; omega)
theorem zg_dyck (m : Nat) (h : m ≤ 8) : dyck (zg m) = true := by
  have h1 := zg_ok m (2 * m) (Nat.le_refl _)
  have h2 := zg_hat m (2 * m) (Nat.le_refl _)
  simp only [dyck, pathB, zg_len, h1, h2]
  simp
  omega
/-- The height has the place's parity. -/
theorem hat_par {l : List UInt8} : ∀ k, ∃ z : Int, hat l k = (k : Int) - 2 * z
  | 0 => ⟨0, rfl⟩
  | k + 1 => by
    obtain ⟨z, hz⟩ := hat_par (l := l) k
    by_cases h : l[k]? = some 117
    · exact ⟨z, by rw [hat_u h, hz]; omega⟩
    · exact ⟨z + 1, by rw [hat, if_neg h, hz]; omega⟩
theorem hat_ge {l : List UInt8} {k : Nat} (h : okB l k = true) : ((k % 2 : Nat) : Int) ≤ hat l k := by
  have h0 := okB_nn h
  obtain ⟨z, hz⟩ := hat_par (l := l) k
  omega
def rsum (l : List UInt8) : Nat → Int
  | 0 => 0
  | k + 1 => rsum l k + hat l k - ((k : Int) % 2)
def rankB (l : List UInt8) : Int := if dyck l then rsum l (l.length + 1) / 2 else -1
theorem rsum_bd {l : List UInt8} : ∀ k : Nat, k ≤ 17 → (∀ j, j < k → okB l j = true) → 0 ≤ rsum l k ∧ rsum l k ≤ 17 * k
  | 0, _, _ => by simp [rsum]
  | k + 1, h, ho => by
    have h1 := rsum_bd k (by omega) (fun j hj => ho j (by omega))
    have h2 := hat_bd l k
    have h3 := hat_ge (ho k (by omega))
    simp only [rsum]
    omega
theorem rsum_dsum {l : List UInt8} {m : Nat} : ∀ k, k ≤ 2 * m + 1 → (∀ j, j < k → okB l j = true) → dsum l (zg m) k = rsum l k
  | 0, _, _ => rfl
  | k + 1, h, ho => by
    have h1 := rsum_dsum (m := m) k (by omega) (fun j hj => ho j (by omega))
    have h2 := hat_ge (ho k (by omega))
    have h3 := zg_hat m k (by omega)
    simp only [dsum, rsum, h1, h3]
    rw [max_if]
    split <;> omega
theorem dyck_even {l : List UInt8} (h : dyck l = true) : ∃ m, l.length = 2 * m := by
  obtain ⟨h1, h2, h3⟩ := dyck_pathB h
  obtain ⟨z, hz⟩ := hat_par (l := l) l.length
  exact ⟨z.toNat, by omega⟩
theorem rank_dist {l : List UInt8} (h : dyck l = true) {m : Nat} (hm : l.length = 2 * m) : distB l (zg m) = rankB l := by
  obtain ⟨h1, h2, h3⟩ := dyck_pathB h
  have hz := zg_dyck m (by omega)
  have hf : fitB l (zg m) = true := by simp [fitB, h, hz, zg_len, hm]
  rw [distB, rankB, if_pos hf, if_pos h, rsum_dsum _ (by omega) (fun j hj => okB_mono h2 (by omega))]

set_option maxHeartbeats 400000 in
theorem specRankOfPath_any (l : List UInt8) (w : World) (hl : l.length ≤ 1000000000) :
    Calls Try.prog 46 #[.string (bs l)] w fun e w' => e = .returned (.int .i64 (rankB l)) ∧ Below w.heap.size w w' := by
  rcases hd : dyck l with _ | _
  · have HF := Lib.hid (show rankB l = -1 by simp [rankB, hd])
    have LA := Lib.hid (show (htsD l).length = 0 by simp [htsD, hd])
    clear hd
    go_enter Try.func46, Try.ntmps46
    go_wp2_with fail
    refine (specHeightsOf_any _ _ hl).mono ?_
    rintro e w1 ⟨A1, n1, c1, hn1, rfl, ho1, hb1⟩
    obtain rfl : n1 = 0 := hn1.trans LA.out
    clear hn1 ho1
    go_wp2_with fail
    refine wp_loop_rounds 1 ?_
    rw [rounds_succ]
    go_wp2_with fail
    go_ret
    exact ⟨ret_int (by rw [HF.out]), hb1⟩
  · obtain ⟨h16, h2, h3⟩ := dyck_pathB hd
    have HF := Lib.hid (show rankB l = rsum l (l.length + 1) / 2 by simp [rankB, hd])
    have LA := Lib.hid (htsD_len hd)
    have EA := Lib.hid (htsD_of hd)
    have HO := Lib.hid h2
    clear hd h2 h3
    go_enter Try.func46, Try.ntmps46
    go_wp2_with fail
    refine (specHeightsOf_any _ _ hl).mono ?_
    rintro e w1 ⟨A1, n1, c1, hn1, rfl, ho1, hb1⟩
    have R1 := Lib.hid ho1.rd
    have N1 := Lib.hid (show n1 = l.length + 1 from hn1.trans LA.out)
    clear hn1 ho1
    have hn17 : n1 ≤ 17 := by have := N1.out; omega
    have hn1p : 1 ≤ n1 := by have := N1.out; omega
    have hn0 : ((n1 : Int) == 0) = false := by simp; omega
    go_wp2_with fail
    go_loop [4, 5] (fun t i => ∃ k : Nat, k ≤ n1 ∧ i = .int .i64 k ∧ t = .int .i64 (rsum l k)) (fun _ i => n1 - (intOf i).toNat)
    case atStart => exact ⟨0, Nat.zero_le _, rfl, rfl⟩
    case round =>
      obtain ⟨k, hk, rfl, rfl⟩ := hrel
      obtain ⟨bd1, bd2⟩ := rsum_bd (l := l) k (by omega) (fun j hj => okB_mono HO.out (by have := N1.out; omega))
      obtain ⟨D, hD⟩ : ∃ D, D = rsum l k := ⟨_, rfl⟩
      rw [← hD] at bd1 bd2 ⊢
      have HD := Lib.hid hD
      clear hD
      by_cases hlt : k < n1
      · obtain ⟨b1, o1, x, rfl, hx, hc1⟩ := R1.out.ati hlt
        rw [EA.out] at hx
        have HX := Lib.hid (hts_at hx).1
        have bx := hat_bd l k
        rw [← HX.out] at bx
        clear hx
        go_wp2_with fail
        go_round
        case rel => exact ⟨k + 1, by omega, by go_num, by rw [rsum, ← HD.out, ← HX.out]⟩
        case measure => simp [intOf]; omega
      · have hkn : k = n1 := by omega
        have HF2 := Lib.hid (show rankB l = D / 2 by rw [HF.out, ← N1.out, ← hkn, HD.out])
        clear hkn
        go_wp2_with fail
        go_ret
        exact ⟨ret_int (by rw [HF2.out]), hb1⟩
set_option maxHeartbeats 400000 in
theorem implRankOfPath_any (l : List UInt8) (w : World) (hl : l.length ≤ 1000000000) :
    Calls Try.prog 37 #[.string (bs l)] w fun e w' => e = .returned (.int .i64 (rankB l)) ∧ Below w.heap.size w w' := by
  rcases hd : dyck l with _ | _
  · have HF := Lib.hid (show rankB l = -1 by simp [rankB, hd])
    have HD := Lib.hid hd
    clear hd
    go_enter Try.func37, Try.ntmps37
    go_wp2_with fail
    refine (implIsDyck_any _ _ hl).mono ?_
    rintro e w1 ⟨rfl, hb1⟩
    rw [HD.out]
    go_wp2_with fail
    go_ret
    exact ⟨ret_int (by rw [HF.out]), hb1⟩
  · obtain ⟨h16, h2, h3⟩ := dyck_pathB hd
    obtain ⟨m, hm⟩ := dyck_even hd
    have HR := Lib.hid (rank_dist hd hm)
    have HD := Lib.hid hd
    have hm1 : 2 * m ≤ l.length := by omega
    have hm2 : l.length ≤ 2 * m := by omega
    clear hd h2 h3 hm
    go_enter Try.func37, Try.ntmps37
    go_wp2_with fail
    refine (implIsDyck_any _ _ hl).mono ?_
    rintro e w1 ⟨rfl, hb1⟩
    rw [HD.out]
    go_wp2_with fail
    go_loop [3, 10] (fun t i => ∃ k : Nat, k ≤ m ∧ i = .int .i64 k ∧ t = .string (bs (zg k))) (fun _ i => m - (intOf i).toNat)
    case atStart => exact ⟨0, Nat.zero_le _, rfl, rfl⟩
    case round =>
      obtain ⟨k, hk, rfl, rfl⟩ := hrel
      have hzs : (zg k).length ≤ 16 := by rw [zg_len]; omega
      by_cases hlt : k < m
      · go_wp2_with fail
        go_round
        case rel => exact ⟨k + 1, by omega, by go_num, by rw [bs_lit, bs_append]; rfl⟩
        case measure => simp [intOf]; omega
      · obtain rfl : k = m := by omega
        go_wp2_with fail
        refine (implDistanceBetween_any _ _ _ hl (by rw [zg_len]; omega)).mono ?_
        rintro e w2 ⟨rfl, hb2⟩
        rw [HR.out]
        go_wp2_with fail
        go_ret
        exact ⟨rfl, hb1.trans (hb2.mono hb1.size)⟩

end Go.Proofs.Yteiffomekjadgaa
