/- Merged: FixI. -/
import Derived.Test.YtghfhkbncjgaeaaGreatMg18
import Derived.Test.YtghfhkbncjgaeaaGreatMg40
import Derived.Test.YtghfhkbncjgaeaaGreatMg32

namespace Go.Proofs.YtghfhkbncjgaeaaGreat
set_option linter.unusedVariables false
open Go.RowKit

theorem objects_any {f : List UInt8} (hf : famB f) {n : Nat} (hn1 : 1 ≤ n) (hn : n ≤ 5) (w : World) : Calls Tryz.prog 39 #[.string (bs f), .int .i64 n] w (RetI w (plL (nxT f n) (paths n).length)) := by
  rcases hf with rfl | rfl | rfl
  · rw [nxT_M]; exact objects_M n hn1 hn w
  · rw [nxT_P]; exact objects_P n hn1 hn w
  · rw [nxT_T]; exact objects_T n hn1 hn w
theorem l15Turn_any {f : List UInt8} (hf : famB f) {n i k : Nat} (hn1 : 1 ≤ n) (hn : n ≤ 5) (hi : i < (paths n).length) (hk : k < ordN f n ∨ k ≤ 1) (w : World) :
    Calls Tryz.prog 42 #[.string (bs f), .string (bs (P n i)), .int .i64 k] w fun e w' => e = .returned (.string (bs (P n (itN (nxT f n) i k)))) ∧ Below w.heap.size w w' := by
  rcases hf with rfl | rfl | rfl
  · rw [nxT_M]
    refine l15Turn_M hn1 hn hi ?_ w
    rcases hk with hk | hk
    · unfold ordN at hk; rwa [if_pos rfl] at hk
    · omega
  · rw [nxT_P]
    refine l15Turn_P hn1 hn hi ?_ w
    rcases hk with hk | hk
    · unfold ordN at hk; rw [if_neg (by decide), if_pos rfl] at hk; omega
    · omega
  · rw [nxT_T]
    refine l15Turn_T hn1 hn hi ?_ w
    rcases hk with hk | hk
    · unfold ordN at hk; rwa [if_neg (by decide), if_neg (by decide)] at hk
    · omega
set_option maxRecDepth 20000 in
set_option maxHeartbeats 2000000 in
theorem implFixedByTurn_any (f : List UInt8) (n k : Int) (w : World) : Calls Tryz.prog 15 #[.string (bs f), .int .i64 n, .int .i64 k] w fun e w' => e = .returned (.int .i64 (fixT f n k)) ∧ Below w.heap.size w w' := by
  rcases ordT_cases f n with h1 | ⟨N, rfl, hN1, hN5, hf, ho, ho1, ho2⟩
  · have HF := Lib.hid (fixT_no (k := k) h1)
    have HO := Lib.hid h1
    clear h1
    go_enter Tryz.func15, Tryz.ntmps15
    go_wp2_with fail
    refine (implOrderOfTurn_any _ _ _).mono ?_
    rintro e w' ⟨rfl, rfl⟩
    rw [HO.out]
    go_wp2_with fail
    go_ret
    exact ⟨ret_int (by rw [HF.out]), Below.refl _ _⟩
  obtain ⟨od, hod⟩ : ∃ od, od = ordN f N := ⟨_, rfl⟩
  rw [← hod] at ho ho1 ho2
  have HO := Lib.hid ho
  have u1 : IntKind.i64.wrap ((od : Int) - 1) = (od : Int) - 1 := IntWalk.i64_in _ (by omega)
  have n1 : ¬ (od : Int) < 0 := by omega
  rcases hb : inB k 0 ((od : Int) - 1) with _ | _
  · have HF := Lib.hid (show fixT f N k = -1 by unfold fixT; rw [ho, hb]; rfl)
    have HB := Lib.hid hb
    clear hb ho hod
    go_enter Tryz.func15, Tryz.ntmps15
    go_wp2_with fail
    refine (implOrderOfTurn_any _ _ _).mono ?_
    rintro e w' ⟨rfl, rfl⟩
    rw [HO.out]
    go_wp2_with fail
    refine (within_any _ _ _ _).mono ?_
    rintro e w' ⟨rfl, rfl⟩
    rw [HB.out]
    go_wp2_with fail
    go_ret
    exact ⟨ret_int (by rw [HF.out]), Below.refl _ _⟩
  obtain ⟨hk0, hk1⟩ := inB_iff.1 hb
  obtain ⟨K, rfl⟩ := Int.eq_ofNat_of_zero_le hk0
  have HF := Lib.hid (show fixT f N K = (fixTo (nxT f N) K (paths N).length : Int) by unfold fixT; rw [ho, hb, Int.toNat_natCast, Int.toNat_natCast]; rfl)
  have HB := Lib.hid hb
  have HOB := Lib.hid (fun w => objects_any hf hN1 hN5 w)
  have HIT := Lib.hid (fun i (hi : i < (paths N).length) z => it_lt (nxT_bd hf hN5) hi z)
  have h42 := paths_5 hN5
  have HLE := Lib.hid (fixTo_le (nxT f N) K)
  obtain ⟨nx, hnx⟩ : ∃ nx, nx = nxT f N := ⟨_, rfl⟩
  obtain ⟨LL, hLL⟩ : ∃ L, L = (paths N).length := ⟨_, rfl⟩
  rw [← hnx] at HF HOB HIT HLE
  rw [← hLL] at HF HOB HIT h42
  clear hb ho hf hnx hLL hod
  go_enter Tryz.func15, Tryz.ntmps15
  go_wp2_with fail
  refine (implOrderOfTurn_any _ _ _).mono ?_
  rintro e w' ⟨rfl, rfl⟩
  rw [HO.out]
  go_wp2_with fail
  refine (within_any _ _ _ _).mono ?_
  rintro e w' ⟨rfl, rfl⟩
  rw [HB.out]
  go_wp2_with fail
  refine (HOB.out _).mono ?_
  rintro e w1 ⟨A, m, c, hm, rfl, hown, hb1⟩
  obtain rfl : m = LL := by rw [hm, plL_len]
  have R := Lib.hid hown.rd
  clear hm hown
  go_wp2_with fail
  go_loop [9, 10, 11, 29] (fun fx _ _ iv' => ∃ i : Nat, i ≤ m ∧ iv' = .int .i64 i ∧ fx = .int .i64 (fixTo nx K i : Nat)) (fun _ _ _ iv' => m - (intOf iv').toNat)
  case atStart => exact ⟨0, Nat.zero_le _, rfl, rfl⟩
  case round =>
    obtain ⟨i, hi, rfl, rfl⟩ := hrel
    by_cases hlt : i < m
    · go_wp2_with fail
      go_loop [11, 34] (fun av jv => ∃ j : Nat, j ≤ K ∧ jv = .int .i64 j ∧ av = .int .i64 (itN nx i j : Nat)) (fun _ jv => K - (intOf jv).toNat)
      case atStart => exact ⟨0, Nat.zero_le _, rfl, rfl⟩
      case round =>
        obtain ⟨j, hj, rfl, rfl⟩ := hrel
        by_cases hlj : j < K
        · obtain ⟨b, off, x, rfl, hx, hc⟩ := R.out.ati (HIT.out i hlt j)
          have hxv := plL_at nx hx
          have HS := Lib.hid (show itN nx i (j + 1) = nx.getD (itN nx i j) 0 from rfl)
          have hIl := HIT.out i hlt j
          obtain ⟨I, hI⟩ : ∃ I, I = itN nx i j := ⟨_, rfl⟩
          rw [← hI] at hc hxv hIl HS ⊢
          subst hxv
          clear hx hI
          go_wp2_with fail
          go_round
          case rel => exact ⟨j + 1, by omega, by go_num, by rw [HS.out]; rfl⟩
          case measure => simp [intOf]; omega
        · obtain rfl : j = K := by omega
          have HFS := Lib.hid (show fixTo nx j (i + 1) = fixTo nx j i + if itN nx i j = i then 1 else 0 from rfl)
          have hle := HLE.out i
          obtain ⟨I, hI⟩ : ∃ I, I = itN nx i j := ⟨_, rfl⟩
          rw [← hI] at HFS ⊢
          obtain ⟨F, hF⟩ : ∃ F, F = fixTo nx j i := ⟨_, rfl⟩
          rw [← hF] at HFS hle ⊢
          clear hI hF
          by_cases hIi : I = i
          · have e1 : ((I : Int) == (i : Int)) = true := by rw [beq_iff_eq]; omega
            have HN := Lib.hid (show fixTo nx j (i + 1) = F + 1 by rw [HFS.out, if_pos hIi])
            clear hIi
            go_wp2_with fail
            go_round
            case rel => exact ⟨i + 1, by omega, by go_num, by rw [HN.out]; go_num⟩
            case measure => simp [intOf]; omega
          · have e1 : ((I : Int) == (i : Int)) = false := by rw [beq_eq_false_iff_ne]; omega
            have HN := Lib.hid (show fixTo nx j (i + 1) = F by rw [HFS.out, if_neg hIi]; rfl)
            clear hIi
            go_wp2_with fail
            go_round
            case rel => exact ⟨i + 1, by omega, by go_num, by rw [HN.out]⟩
            case measure => simp [intOf]; omega
    · obtain rfl : i = m := by omega
      go_wp2_with fail
      go_ret
      exact ⟨ret_int (by rw [HF.out]), hb1⟩
set_option maxRecDepth 20000 in
set_option maxHeartbeats 2000000 in
theorem specFixedByTurn_any (f : List UInt8) (n k : Int) (w : World) : Calls Tryz.prog 25 #[.string (bs f), .int .i64 n, .int .i64 k] w fun e w' => e = .returned (.int .i64 (fixT f n k)) ∧ Below w.heap.size w w' := by
  rcases ordT_cases f n with h1 | ⟨N, rfl, hN1, hN5, hf, ho, ho1, ho2⟩
  · have HF := Lib.hid (fixT_no (k := k) h1)
    have HO := Lib.hid h1
    clear h1
    go_enter Tryz.func25, Tryz.ntmps25
    go_wp2_with fail
    refine (specOrderOfTurn_any _ _ _).mono ?_
    rintro e w' ⟨rfl, rfl⟩
    rw [HO.out]
    go_wp2_with fail
    go_ret
    exact ⟨ret_int (by rw [HF.out]), Below.refl _ _⟩
  have HOD := Lib.hid (show ∀ j, j < ordN f N → j < ordN f N ∨ j ≤ 1 from fun j h => Or.inl h)
  have HL0 := Lib.hid (fun (i j : Nat) (hi : i < (paths N).length) (hj : j < ordN f N) w => l15Turn_any hf hN1 hN5 hi (Or.inl hj) w)
  obtain ⟨od, hod⟩ : ∃ od, od = ordN f N := ⟨_, rfl⟩
  rw [← hod] at ho ho1 ho2 HL0
  have HO := Lib.hid ho
  have u1 : IntKind.i64.wrap ((od : Int) - 1) = (od : Int) - 1 := IntWalk.i64_in _ (by omega)
  have n1 : ¬ (od : Int) < 0 := by omega
  rcases hb : inB k 0 ((od : Int) - 1) with _ | _
  · have HF := Lib.hid (show fixT f N k = -1 by unfold fixT; rw [ho, hb]; rfl)
    have HB := Lib.hid hb
    clear hb ho hod
    go_enter Tryz.func25, Tryz.ntmps25
    go_wp2_with fail
    refine (specOrderOfTurn_any _ _ _).mono ?_
    rintro e w' ⟨rfl, rfl⟩
    rw [HO.out]
    go_wp2_with fail
    refine (l1In_any _ _ _ _).mono ?_
    rintro e w' ⟨rfl, rfl⟩
    rw [HB.out]
    go_wp2_with fail
    go_ret
    exact ⟨ret_int (by rw [HF.out]), Below.refl _ _⟩
  obtain ⟨hk0, hk1⟩ := inB_iff.1 hb
  obtain ⟨K, rfl⟩ := Int.eq_ofNat_of_zero_le hk0
  have HF := Lib.hid (show fixT f N K = (fixTo (nxT f N) K (paths N).length : Int) by unfold fixT; rw [ho, hb, Int.toNat_natCast, Int.toNat_natCast]; rfl)
  have HB := Lib.hid hb
  have HIT := Lib.hid (fun i (hi : i < (paths N).length) => it_lt (nxT_bd hf hN5) hi K)
  have HIN := Lib.hid (P_ok2 hN5)
  have HPL := Lib.hid (fun i (hi : i < (paths N).length) => P_len hN5 hi)
  have HPA := Lib.hid (fun w => specPathsOf_any N w (by omega))
  have HAT := Lib.hid (fun i (hi : i < (paths N).length) => P_at hi)
  have h42 := paths_5 hN5
  have HLE := Lib.hid (fixTo_le (nxT f N) K)
  obtain ⟨nx, hnx⟩ : ∃ nx, nx = nxT f N := ⟨_, rfl⟩
  obtain ⟨LL, hLL⟩ : ∃ L, L = (paths N).length := ⟨_, rfl⟩
  rw [← hnx] at HF HIT HLE HL0
  rw [← hLL] at HF HIT h42 HIN HPL HAT HL0
  have HLL := Lib.hid hLL
  clear hb ho hf hnx hLL hod
  go_enter Tryz.func25, Tryz.ntmps25
  go_wp2_with fail
  refine (specOrderOfTurn_any _ _ _).mono ?_
  rintro e w' ⟨rfl, rfl⟩
  rw [HO.out]
  go_wp2_with fail
  refine (l1In_any _ _ _ _).mono ?_
  rintro e w' ⟨rfl, rfl⟩
  rw [HB.out]
  go_wp2_with fail
  refine (HPA.out _).mono ?_
  rintro e w1 ⟨A, m, c, hm, rfl, hop, hb1⟩
  obtain rfl : m = LL := by rw [hm, HLL.out]
  have R := Lib.hid hop.rd
  have hs1 := hb1.size
  clear hm hop
  go_wp2_with fail
  go_loopw [9, 10] (fun fx iv' wr => ∃ i : Nat, i ≤ m ∧ iv' = .int .i64 i ∧ fx = .int .i64 (fixTo nx K i : Nat) ∧ Below w1.heap.size w1 wr) (fun _ iv' _ => m - (intOf iv').toNat)
  case atStart => exact ⟨0, Nat.zero_le _, rfl, rfl, Below.refl _ _⟩
  case round =>
    obtain ⟨i, hi, rfl, rfl, hbz⟩ := hrel
    have hsz := hbz.size
    by_cases hlt : i < m
    · obtain ⟨b, off, x, hA, hx, hc⟩ := (R.out.below hbz).ats hlt
      subst hA
      have hxP : x = P N i := by have h := HAT.out i hlt; rw [hx] at h; injection h
      subst hxP
      have hKo : K < od := by omega
      have HC := Lib.hid (fun w => HL0.out i K hlt hKo w)
      have hIl := HIT.out i hlt
      have HFS := Lib.hid (show fixTo nx K (i + 1) = fixTo nx K i + if itN nx i K = i then 1 else 0 from rfl)
      have hle := HLE.out i
      have l1 := HPL.out i hlt
      have l2 := HPL.out _ hIl
      have HEQ := Lib.hid (fun (h : P N (itN nx i K) = P N i) => HIN.out.inj hIl hlt h)
      have hblk : b < wr.heap.size := World.block_lt_of_cell? _ _ hc
      obtain ⟨I, hI⟩ : ∃ I, I = itN nx i K := ⟨_, rfl⟩
      rw [← hI] at HFS HC hIl l2 HEQ
      obtain ⟨F, hF⟩ : ∃ F, F = fixTo nx K i := ⟨_, rfl⟩
      rw [← hF] at HFS hle ⊢
      obtain ⟨X, hX⟩ : ∃ X, X = P N i := ⟨_, rfl⟩
      obtain ⟨Y, hY⟩ : ∃ Y, Y = P N I := ⟨_, rfl⟩
      rw [← hX] at hc HC l1 HEQ
      rw [← hY] at HC l2 HEQ
      have HY := Lib.hid hY
      have HX := Lib.hid hX
      have l3 : X.length ≤ 10 := by omega
      have l4 : Y.length ≤ 10 := by omega
      have i0 : (0 : Int) ≤ (i : Int) := by omega
      have i1 : (i : Int) < (m : Int) := by omega
      clear hx hI hF hX hY l1 l2
      by_cases hIi : I = i
      case' pos =>
        have e1 : (Y == X) = true := by rw [beq_iff_eq, HY.out, HX.out, hIi]
        have HN := Lib.hid (show fixTo nx K (i + 1) = F + 1 by rw [HFS.out, if_pos hIi])
      case' neg =>
        have e1 : (Y == X) = false := by rw [beq_eq_false_iff_ne]; exact fun h => hIi (HEQ.out h)
        have HN := Lib.hid (show fixTo nx K (i + 1) = F by rw [HFS.out, if_neg hIi]; rfl)
      all_goals
        clear hIi
        go_wp2_with fail
        go_region_held3 (fun w' => w'.cell? ⟨b, off + i, none⟩ = some (.string (bs X))) (first | go_keep | assumption)
          (first | (go_at_call 42; refine (HC.out _).mono ?_; rintro e w2 ⟨rfl, hb2⟩; have k1 := (hb2.cell (p := ⟨b, off + i, none⟩) hblk).trans hc))
        have hb3 : Below w1.heap.size w1 w2 := hbz.trans ((show Below wr.heap.size wr w2 from ⟨hb2.os, hb2.tape, hb2.output, hb2.size, hb2.block⟩).mono hsz)
        clear hb2 k1
        go_wp2_with fail
        go_roundw
        case rel => exact ⟨i + 1, by omega, by go_num, by first | (rw [HN.out]; done) | (rw [HN.out]; go_num), hb3⟩
        case measure => simp [intOf]; omega
    · obtain rfl : i = m := by omega
      go_wp2_with fail
      go_ret
      exact ⟨ret_int (by rw [HF.out]), hb1.trans (hbz.mono hs1)⟩

end Go.Proofs.YtghfhkbncjgaeaaGreat
