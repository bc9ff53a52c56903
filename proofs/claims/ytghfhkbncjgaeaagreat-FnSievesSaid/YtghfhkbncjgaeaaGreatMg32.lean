/- Merged: PbS SieS. -/
import Derived.Test.YtghfhkbncjgaeaaGreatMg31
import Derived.Test.YtghfhkbncjgaeaaGreatMg6
import Derived.Test.YtghfhkbncjgaeaaGreatMg18
import Derived.Test.YtghfhkbncjgaeaaGreatMg19
import Derived.Test.YtghfhkbncjgaeaaGreatMg21
import Derived.Test.YtghfhkbncjgaeaaGreatMg22
import Derived.Test.YtghfhkbncjgaeaaGreatMg24
import Derived.Test.YtghfhkbncjgaeaaGreatMg30

namespace Go.Proofs.YtghfhkbncjgaeaaGreat
set_option linter.unusedVariables false
open Go.RowKit Go.Deep

set_option maxHeartbeats 1000000 in
theorem l6Path_any (t : Tr) : ∀ w : World, nodes t ≤ 1000000 →
    Calls Tryz.prog 124 #[.string (bs (tx t))] w fun e w' => e = .returned (.string (bs (wd t))) ∧ ∃ n, w' = w.drewN n := by
  induction t with
  | nil =>
    intro w _
    show Calls _ _ #[.string (bs [46])] _ _
    go_enter Tryz.func124, Tryz.ntmps124
    go_wp2_with fail
    go_ret
    exact ⟨rfl, 0, rfl⟩
  | node b o a l r ihl ihr =>
    intro w hn
    have hnn : nodes l + nodes r + 1 ≤ 1000000 := hn
    obtain ⟨L, x, hL, hc⟩ := cut_of b o a l r
    rw [← hL]
    have HC := Lib.hid hc
    have hlen := hc.len
    have hxn := hc.xn
    have hne := hc.ne
    have hL9 : L.length ≤ 1000000000 := by omega
    have hx1 : 1 ≤ x := by omega
    have hx2 : x ≤ L.length - 1 := by omega
    have hx3 : 1 ≤ L.length := by omega
    obtain ⟨X, hX⟩ : ∃ X, X = tx l := ⟨_, rfl⟩
    obtain ⟨Y, hY⟩ : ∃ Y, Y = tx r := ⟨_, rfl⟩
    have s1 : List.take (x - 1) L.tail = X := by rw [hX, ← List.drop_one]; exact hc.left
    have s1' : List.take (x - 1) (List.drop 1 L) = X := by rw [hX]; exact hc.left
    have s2 : List.take (L.length - 1 - x) (List.drop x L) = Y := by rw [hY]; exact hc.right
    have HX := Lib.hid hX
    have HY := Lib.hid hY
    have ml := wd_len l
    have mr := wd_len r
    obtain ⟨P, hP⟩ : ∃ P, P = wd l := ⟨_, rfl⟩
    obtain ⟨Q, hQ⟩ : ∃ Q, Q = wd r := ⟨_, rfl⟩
    rw [← hP] at ml
    rw [← hQ] at mr
    have hP3 : P.length ≤ 3000001 := by omega
    have hQ3 : Q.length ≤ 3000001 := by omega
    have hil : ∀ w, Calls Tryz.prog 124 #[.string (bs X)] w fun e w' => e = .returned (.string (bs P)) ∧ ∃ n, w' = w.drewN n := by rw [hX, hP]; exact fun w => ihl w (by omega)
    have hir : ∀ w, Calls Tryz.prog 124 #[.string (bs Y)] w fun e w' => e = .returned (.string (bs Q)) ∧ ∃ n, w' = w.drewN n := by rw [hY, hQ]; exact fun w => ihr w (by omega)
    have HIL := Lib.hid hil
    have HIR := Lib.hid hir
    have HP := Lib.hid hP
    have HQ := Lib.hid hQ
    have HR := Lib.hid (show wd (.node b o a l r) = [117] ++ P ++ [100] ++ Q by rw [hP, hQ]; simp [wd])
    have e1 : IntKind.i64.wrap ((L.length : Int) - 1) = (L.length : Int) - 1 := IntWalk.i64_in _ (by omega)
    have e2 : ((L.length : Int) - 1).toNat = L.length - 1 := by omega
    have b1 : (0 : Int) ≤ (L.length : Int) - 1 := by omega
    have b2 : (x : Int) ≤ (L.length : Int) - 1 := by omega
    have b3 : (L.length : Int) - 1 ≤ (L.length : Int) := by omega
    have b4 : (0 : Int) ≤ (x : Int) := by omega
    have b5 : (1 : Int) ≤ (x : Int) := by omega
    have b6 : (x : Int) ≤ (L.length : Int) := by omega
    have f1 : x < L.length := by omega
    have f2 : 0 < L.length := by omega
    have f3 : ¬ L = [] := by intro h; rw [h] at f2; simp at f2
    have f5 : (x : Int) < (L.length : Int) := by omega
    have f6 : x ≤ L.length := by omega
    have f7 : (1 : Int) ≤ (L.length : Int) := by omega
    clear hil hir hX hY hc hL ihl ihr hlen hxn hn hnn hP hQ ml mr
    go_enter Tryz.func124, Tryz.ntmps124
    go_wp2_with fail
    refine (l6End_sub _ 1 x l _ _ hL9 HC.out.at1 HC.out.x_eq).mono ?_
    rintro e w' ⟨rfl, rfl⟩
    go_wp2_with fail
    go_quiet (first | (go_at_call_of 124 (Value.string (bs X)); exact Calls.quiet_of (HIL.out _)) | (go_at_call_of 124 (Value.string (bs Y)); exact Calls.quiet_of (HIR.out _)))
    go_wp2_with fail
    go_ret
    refine ⟨?_, _, rfl⟩
    rw [HR.out]
    show _ = _
    rw [bs_lit, bs_lit, bs_append, bs_append, bs_append]
    rfl
theorem specPathOfBinary_yes (t : Tr) (w : World) (h : nodes t ≤ 8) :
    Calls Tryz.prog 82 #[.string (bs (tx t))] w fun e w' => e = .returned (.tuple #[.string (bs (wd t)), .bool true]) ∧ ∃ q, w' = w.drewN q := by
  have hl := tx_len t
  have HB := Lib.hid (isB_tx h)
  have HC := Lib.hid (fun w => l6Path_any t w (by omega))
  obtain ⟨L, hL⟩ : ∃ L, L = tx t := ⟨_, rfl⟩
  obtain ⟨P, hP⟩ : ∃ P, P = wd t := ⟨_, rfl⟩
  rw [← hL] at HB HC hl ⊢
  rw [← hP] at HC ⊢
  have hL9 : L.length ≤ 1000000000 := by omega
  clear hL hP hl
  go_enter Tryz.func82, Tryz.ntmps82
  go_wp2_with fail
  refine (specIsBinary_any _ _ hL9).mono ?_
  rintro e w' ⟨rfl, rfl⟩
  rw [HB.out]
  go_wp2_with fail
  refine (HC.out _).mono ?_
  rintro e w' ⟨rfl, q, rfl⟩
  go_wp2_with fail
  go_ret2
  exact ⟨rfl, q, rfl⟩
theorem specBinaryOf_yes (t : Tr) (w : World) (h : nodes t ≤ 8) :
    Calls Tryz.prog 78 #[.string (bs (wd t))] w fun e w' => e = .returned (.tuple #[.string (bs (tx t)), .bool true]) ∧ ∃ q, w' = w.drewN q := by
  have hl := wd_len t
  have HB := Lib.hid (dyck_wd h)
  have HC := Lib.hid (fun w => l6Binary_any t w (by omega))
  obtain ⟨L, hL⟩ : ∃ L, L = tx t := ⟨_, rfl⟩
  obtain ⟨P, hP⟩ : ∃ P, P = wd t := ⟨_, rfl⟩
  rw [← hL] at HC ⊢
  rw [← hP] at HC HB hl ⊢
  have hL9 : P.length ≤ 1000000000 := by omega
  clear hL hP hl
  go_enter Tryz.func78, Tryz.ntmps78
  go_wp2_with fail
  refine (specIsDyck_any _ _ hL9).mono ?_
  rintro e w' ⟨rfl, rfl⟩
  rw [HB.out]
  go_wp2_with fail
  refine (HC.out _).mono ?_
  rintro e w' ⟨rfl, q, rfl⟩
  go_wp2_with fail
  go_ret2
  exact ⟨rfl, q, rfl⟩

end Go.Proofs.YtghfhkbncjgaeaaGreat

namespace Go.Proofs.YtghfhkbncjgaeaaGreat
set_option linter.unusedVariables false
open Go.RowKit Go.Deep

theorem turnM_at {n i k : Nat} (hn : n ≤ 5) (hi : i < (paths n).length) (hk : k < 2 * n) : turnM (mO (P n i)) (k : Int) = (mO (P n (itN (nxMs.getD n []) i k)), true) := by
  obtain ⟨h1, _, h3⟩ := chM_at hn hi
  unfold turnM
  rw [ncM_mat h1, mO_len hn hi, inB_true (by omega) (by omega), h3 k hk]
  rfl
theorem parS_at {n i : Nat} (hn : n ≤ 5) (hi : i < (paths n).length) : parS (P n i) = (pO (P n i), true) := by
  rw [← par_eq (by omega) (P_mem hi)]
  unfold parI
  rw [P_dyck hn hi]; rfl
theorem u8_len {n : Nat} {L : List UInt8} (h : L.length = 2 * n) : Int.tdiv (L.length : Int) 2 = (n : Int) ∧ (L.length : Int) / 2 = (n : Int) := by
  constructor
  · rw [Int.tdiv_eq_ediv_of_nonneg (by omega)]; omega
  · omega

set_option maxRecDepth 20000 in
set_option maxHeartbeats 2000000 in
theorem l15Turn_M {n i k : Nat} (hn1 : 1 ≤ n) (hn : n ≤ 5) (hi : i < (paths n).length) (hk : k < 2 * n) (w : World) :
    Calls Tryz.prog 42 #[.string (bs nmM), .string (bs (P n i)), .int .i64 k] w fun e w' => e = .returned (.string (bs (P n (itN (nxMs.getD n []) i k)))) ∧ Below w.heap.size w w' := by
  have hj := it_lt (bd_all hn).1 hi k
  obtain ⟨j, hjj⟩ : ∃ j, j = itN (nxMs.getD n []) i k := ⟨_, rfl⟩
  rw [← hjj] at hj ⊢
  have HTM := Lib.hid (turnM_at hn hi hk)
  rw [← hjj] at HTM
  have HC1 := Lib.hid (fun w => specMatchingOf_any (P n i) w (P_ok hn hi))
  have hpl := P_len hn hi
  have HML := Lib.hid (mO_len hn hi)
  have HML2 := Lib.hid (mO_len hn hj)
  obtain ⟨hN, hPM, _⟩ := chM_at hn hj
  have HN := Lib.hid hN
  have HPM := Lib.hid hPM
  obtain ⟨L, hL⟩ : ∃ L, L = P n i := ⟨_, rfl⟩
  obtain ⟨R, hR⟩ : ∃ R, R = P n j := ⟨_, rfl⟩
  rw [← hL] at HTM HC1 hpl HML ⊢
  rw [← hR] at HTM HN HPM HML2 ⊢
  obtain ⟨d1, d2⟩ := u8_len hpl
  obtain ⟨f, hf⟩ : ∃ f, f = nmM := ⟨_, rfl⟩
  have e1 : (f == [109, 97, 116, 99, 104, 105, 110, 103, 115]) = true := by rw [hf]; rfl
  rw [← hf]
  have w1 : IntKind.i64.wrap (2 * (n : Int)) = 2 * (n : Int) := IntWalk.i64_in _ (by omega)
  have m1 : Int.tmod (k : Int) (2 * (n : Int)) = (k : Int) := by rw [Int.tmod_eq_emod_of_nonneg (by omega)]; exact Int.emod_eq_of_lt (by omega) (by omega)
  have m2 : (k : Int) % (2 * (n : Int)) = (k : Int) := Int.emod_eq_of_lt (by omega) (by omega)
  have z1 : ((2 * (n : Int)) == 0) = false := by rw [beq_eq_false_iff_ne]; omega
  have z2 : ¬ (2 * (n : Int)) = 0 := by omega
  have z3 : ¬ (n : Int) = 0 := by omega
  have z4 : ¬ n = 0 := by omega
  have hl9 : L.length ≤ 10 := by omega
  clear hL hR hjj hf hN hPM hpl
  go_enter Tryz.func42, Tryz.ntmps42
  go_wp2_with fail
  refine (HC1.out _).mono ?_
  rintro e w1 ⟨A1, q1, c1, hq1, rfl, ho1, hb1⟩
  have HQ1 := Lib.hid hq1
  have HO1 := Lib.hid ho1
  have hs1 := hb1.size
  have hq9 : q1 ≤ 10 := by have h := HML.out; unfold mO at h; omega
  clear hq1 ho1
  go_wp2_with fail
  refine (specTurnMatching_any A1 q1 c1 (mO L) (k : Int) _ (by exact HO1.out.rd) (by omega)).mono ?_
  rintro e w2 ⟨A2, q2, c2, hq2, rfl, ho2, hb2⟩
  rw [HTM.out] at hq2 ho2 ⊢
  have HQ2 := Lib.hid (show q2 = 2 * n by rw [hq2]; exact HML2.out)
  have HO2 := Lib.hid ho2
  have hb3 := hb1.trans (hb2.mono hs1)
  clear hq2 ho2 hb2 hb1
  go_wp2_with fail
  refine (specPathOfMatching_yes A2 q2 c2 (mO R) _ HO2.out.rd HN.out).mono ?_
  rintro e w3 ⟨rfl, q, rfl⟩
  go_wp2_with fail
  go_ret
  exact ⟨ret_str (by rw [HQ2.out, HPM.out]), below_drewN' hb3 q⟩

set_option maxRecDepth 20000 in
set_option maxHeartbeats 2000000 in
theorem l15Turn_P {n i k : Nat} (hn1 : 1 ≤ n) (hn : n ≤ 5) (hi : i < (paths n).length) (hk : k ≤ 100) (w : World) :
    Calls Tryz.prog 42 #[.string (bs nmP), .string (bs (P n i)), .int .i64 k] w fun e w' => e = .returned (.string (bs (P n (itN (nxPs.getD n []) i k)))) ∧ Below w.heap.size w w' := by
  have HIT := Lib.hid (fun z => it_lt (bd_all hn).2.1 hi z)
  have HC1 := Lib.hid (show ∀ w, Calls Tryz.prog 75 #[.string (bs (P n i))] w (RetIB w (pO (P n i)) true) from fun w => by
    have := specPartitionOf_any (P n i) w (by have := P_len hn hi; omega)
    rwa [parS_at hn hi] at this)
  have HPO := Lib.hid (fun z (hz : z < (paths n).length) => pO_len hn hz)
  have HST := Lib.hid (fun z => show turnP (pO (P n (itN (nxPs.getD n []) i z))) = pO (P n (itN (nxPs.getD n []) i (z + 1))) from ((chP_at hn (HIT.out z)).2.2).resolve_left (by omega))
  have HNC := Lib.hid (fun z (hz : z < (paths n).length) => (chP_at hn hz).1)
  have HPT := Lib.hid (fun z (hz : z < (paths n).length) => (chP_at hn hz).2.1)
  have hpl := P_len hn hi
  have HP0 := Lib.hid (show P n i = P n (itN (nxPs.getD n []) i 0) from rfl)
  have HPL := Lib.hid (pO_len hn hi)
  obtain ⟨L, hL⟩ : ∃ L, L = P n i := ⟨_, rfl⟩
  rw [← hL] at HC1 hpl HP0 HPL ⊢
  obtain ⟨d1, d2⟩ := u8_len hpl
  obtain ⟨f, hf⟩ : ∃ f, f = nmP := ⟨_, rfl⟩
  have e1 : (f == [109, 97, 116, 99, 104, 105, 110, 103, 115]) = false := by rw [hf]; rfl
  have e2 : (f == [112, 97, 114, 116, 105, 116, 105, 111, 110, 115]) = true := by rw [hf]; rfl
  rw [← hf]
  have hl9 : L.length ≤ 10 := by omega
  clear hL hf hpl
  go_enter Tryz.func42, Tryz.ntmps42
  go_wp2_with fail
  refine (HC1.out _).mono ?_
  rintro e w1 ⟨A1, q1, c1, hq1, rfl, ho1, hb1⟩
  obtain rfl : q1 = n := by rw [hq1]; exact HPL.out
  have HO1 := Lib.hid ho1
  have hs1 := hb1.size
  have hcc := own_capT ho1
  clear hq1 ho1
  go_wp2_with fail
  go_loopw [14, 16] (fun pv iv' wr => ∃ (z : Nat) (A : Option Addr) (c : Nat), z ≤ k ∧ iv' = .int .i64 z ∧ pv = .slice A q1 c ∧ q1 ≤ c ∧ Rd wr A q1 (iv (pO (P q1 (itN (nxPs.getD q1 []) i z)))) ∧ Below w.heap.size w wr) (fun _ i' _ => k - (intOf i').toNat)
  case atStart => exact ⟨0, A1, c1, Nat.zero_le _, rfl, rfl, hcc, by rw [← HP0.out]; exact HO1.out.rd, hb1⟩
  case round =>
    obtain ⟨z, A, c, hz, rfl, rfl, hqc, hr, hb⟩ := hrel
    have R := Lib.hid hr
    have hbs := hb.size
    clear hr
    by_cases hlt : z < k
    · go_wp2_with fail
      refine (specTurnPartition_any A q1 c _ _ R.out (nonc_par (HNC.out _ (HIT.out z))) (by omega) hqc).mono ?_
      rintro e w2 ⟨A2, q2, c2, hq2, rfl, ho2, hb2⟩
      rw [HST.out] at hq2 ho2
      obtain rfl : q2 = q1 := by rw [hq2]; exact HPO.out _ (HIT.out _)
      have HO2 := Lib.hid ho2
      have hcc2 := own_capT ho2
      have hb3 := hb.trans (hb2.mono hbs)
      clear hq2 ho2 hb2
      go_wp2_with fail
      go_roundw
      case rel => exact ⟨z + 1, A2, c2, by omega, by go_num, rfl, hcc2, HO2.out.rd, hb3⟩
      case measure => simp [intOf]; omega
    · have HZ := Lib.hid (show k = z by omega)
      go_wp2_with fail
      refine (specPathOfPartition_any A q1 c _ _ R.out (HNC.out _ (HIT.out z))).mono ?_
      rintro e w2 ⟨rfl, hb2⟩
      go_wp2_with fail
      go_ret
      exact ⟨ret_str (by have h := HPT.out _ (HIT.out z); rw [HZ.out]; exact h), hb.trans (hb2.mono hbs)⟩

set_option maxRecDepth 20000 in
set_option maxHeartbeats 2000000 in
theorem l15Turn_T {n i k : Nat} (hn1 : 1 ≤ n) (hn : n ≤ 5) (hi : i < (paths n).length) (hk : k < n + 2) (w : World) :
    Calls Tryz.prog 42 #[.string (bs nmT), .string (bs (P n i)), .int .i64 k] w fun e w' => e = .returned (.string (bs (P n (itN (nxTs.getD n []) i k)))) ∧ Below w.heap.size w w' := by
  have hj := it_lt (bd_all hn).2.2 hi k
  obtain ⟨hT1, _, _, hT4, hT5, hT6⟩ := chT_at hn hi
  have hT6 := hT6 k hk
  obtain ⟨j, hjj⟩ : ∃ j, j = itN (nxTs.getD n []) i k := ⟨_, rfl⟩
  rw [← hjj] at hj hT6 ⊢
  obtain ⟨hU1, _, hU3, hU4, hU5, _⟩ := chT_at hn hj
  have hpl := P_len hn hi
  obtain ⟨t, ht⟩ : ∃ t, t = tw (P n i) := ⟨_, rfl⟩
  obtain ⟨u, hu⟩ : ∃ u, u = tw (P n j) := ⟨_, rfl⟩
  have HB := Lib.hid (show ∀ w, Calls Tryz.prog 78 #[.string (bs (P n i))] w fun e w' => e = .returned (.tuple #[.string (bs (tx t)), .bool true]) ∧ ∃ q, w' = w.drewN q from fun w => by
    have := specBinaryOf_yes t w (by rw [ht]; omega)
    rwa [show wd t = P n i by rw [ht]; exact hT4] at this)
  have HC := Lib.hid (show ∀ w, Calls Tryz.prog 79 #[.string (bs (tx t))] w (RetDgB w (dO (P n i)) true) from fun w => by
    have := specTriangulationOf_any t w (by rw [ht]; omega)
    rwa [show specD t = dO (P n i) by rw [ht]; rfl] at this)
  have HD := Lib.hid (fun (A : Option Addr) (m c : Nat) (vs : List Value) (w : World) (h : R2 w A m vs (dO (P n i))) => show Calls Tryz.prog 80 #[.int .i64 ((n : Int) + 2), .slice A m c, .int .i64 k] w (RetDgB w (dO (P n j)) true) by
    have := specTurnPolygon_yes A (n + 2) m c k vs _ w h hT1 hk
    rwa [hT6, show ((n + 2 : Nat) : Int) = (n : Int) + 2 by omega] at this)
  have HE := Lib.hid (fun (A : Option Addr) (m c : Nat) (vs : List Value) (w : World) (h : R2 w A m vs (dO (P n j))) => show Calls Tryz.prog 81 #[.int .i64 ((n : Int) + 2), .slice A m c] w fun e w' => e = .returned (.tuple #[.string (bs (tx u)), .bool true]) ∧ ∃ q, w' = w.drewN q by
    have := specBinaryOfTriangles_yes A (n + 2) m c vs _ w h hU1
    rwa [show n + 2 - 1 = n + 1 from rfl, hU3, ← hu, show ((n + 2 : Nat) : Int) = (n : Int) + 2 by omega] at this)
  have HF := Lib.hid (show ∀ w, Calls Tryz.prog 82 #[.string (bs (tx u))] w fun e w' => e = .returned (.tuple #[.string (bs (P n j)), .bool true]) ∧ ∃ q, w' = w.drewN q from fun w => by
    have := specPathOfBinary_yes u w (by rw [hu]; omega)
    rwa [show wd u = P n j by rw [hu]; exact hU4] at this)
  obtain ⟨L, hL⟩ : ∃ L, L = P n i := ⟨_, rfl⟩
  obtain ⟨R, hR⟩ : ∃ R, R = P n j := ⟨_, rfl⟩
  obtain ⟨X, hX⟩ : ∃ X, X = tx t := ⟨_, rfl⟩
  obtain ⟨Y, hY⟩ : ∃ Y, Y = tx u := ⟨_, rfl⟩
  rw [← hL] at HB HC HD hpl ⊢
  rw [← hR] at HD HE HF ⊢
  rw [← hX] at HB HC
  rw [← hY] at HE HF
  obtain ⟨d1, d2⟩ := u8_len hpl
  obtain ⟨f, hf⟩ : ∃ f, f = nmT := ⟨_, rfl⟩
  have e1 : (f == [109, 97, 116, 99, 104, 105, 110, 103, 115]) = false := by rw [hf]; rfl
  have e2 : (f == [112, 97, 114, 116, 105, 116, 105, 111, 110, 115]) = false := by rw [hf]; rfl
  rw [← hf]
  have m1 : Int.tmod (k : Int) ((n : Int) + 2) = (k : Int) := by rw [Int.tmod_eq_emod_of_nonneg (by omega)]; exact Int.emod_eq_of_lt (by omega) (by omega)
  have m2 : (k : Int) % ((n : Int) + 2) = (k : Int) := Int.emod_eq_of_lt (by omega) (by omega)
  have z1 : (((n : Int) + 2) == 0) = false := by rw [beq_eq_false_iff_ne]; omega
  have z2 : ¬ ((n : Int) + 2) = 0 := by omega
  have hl9 : L.length ≤ 10 := by omega
  clear hL hR hX hY hjj hf hT1 hT4 hT5 hT6 hU1 hU3 hU4 hU5 ht hu hpl hj
  go_enter Tryz.func42, Tryz.ntmps42
  go_wp2_with fail
  refine (HB.out _).mono ?_
  rintro e w1 ⟨rfl, qa, hw1⟩
  have hb1 : Below w.heap.size w w1 := by rw [hw1]; exact below_drewN' (Below.refl _ _) qa
  have hs1 := hb1.size
  clear hw1
  go_wp2_with fail
  refine (HC.out _).mono ?_
  rintro e w2 ⟨g2, n2, c2, vs2, -, -, -, rfl, hr2, hb2⟩
  have HR2 := Lib.hid hr2
  have hb2' := hb1.trans (hb2.mono hs1)
  have hs2 := hb2'.size
  clear hr2 hb2 hb1
  go_wp2_with fail
  refine (HD.out _ n2 c2 vs2 _ HR2.out).mono ?_
  rintro e w3 ⟨g3, n3, c3, vs3, -, -, -, rfl, hr3, hb3⟩
  have HR3 := Lib.hid hr3
  have hb3' := hb2'.trans (hb3.mono hs2)
  clear hr3 hb3
  go_wp2_with fail
  refine (HE.out _ n3 c3 vs3 _ HR3.out).mono ?_
  rintro e w4 ⟨rfl, qb, hw4⟩
  have hb4 : Below w.heap.size w w4 := by rw [hw4]; exact below_drewN' hb3' qb
  clear hw4
  go_wp2_with fail
  refine (HF.out _).mono ?_
  rintro e w5 ⟨rfl, qc, hw5⟩
  have hb5 : Below w.heap.size w w5 := by rw [hw5]; exact below_drewN' hb4 qc
  clear hw5
  go_wp2_with fail
  go_ret
  exact ⟨rfl, hb5⟩

end Go.Proofs.YtghfhkbncjgaeaaGreat
