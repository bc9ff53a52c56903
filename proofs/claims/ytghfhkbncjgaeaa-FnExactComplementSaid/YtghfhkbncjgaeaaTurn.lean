/- TurnMatching of both sides. -/
import Derived.Test.YtghfhkbncjgaeaaMat
namespace Go.Proofs.Ytghfhkbncjgaeaa
set_option linter.unusedVariables false
open Go.RowKit

set_option maxRecDepth 20000 in
set_option maxHeartbeats 4000000 in
theorem specTurnMatching_any (A : Option Addr) (n c : Nat) (m : List Int) (k : Int) (w : World) (h : Rd w A n (iv m)) (hn : n ≤ 1000000000) :
    Calls Try.prog 20 #[.slice A n c, .int .i64 k] w (RetIB w (turnM m k).1 (turnM m k).2) := by
  unfold RetIB
  have HR := Lib.hid h
  have hl := (show m.length = n by have := h.len; rw [iv_len] at this; exact this)
  have HL := Lib.hid hl
  clear h
  rcases hM : isMat m with _ | _
  · have HF := Lib.hid (show turnM m k = ([], false) by unfold turnM; rw [hM]; rfl)
    have HM := Lib.hid hM
    clear hM hl
    go_enter Try.func20, Try.ntmps20
    go_wp2_with fail
    refine (specIsMatching_any _ _ _ _ _ HR.out hn).mono ?_
    rintro e w' ⟨rfl, rfl⟩
    rw [HM.out]
    go_wp2_with fail
    go_ret2
    rw [HF.out]
    exact ⟨_, 0, 0, rfl, rfl, own_empty w, (Below.refl _ _).alloc (Nat.le_refl _) _⟩
  have h16 : n ≤ 16 := by have := isMat_len hM; omega
  obtain ⟨M, hMM⟩ : ∃ M : Int, M = max 0 ((n : Int) - 1) := ⟨_, rfl⟩
  have hwn : IntKind.i64.wrap ((n : Int) - 1) = (n : Int) - 1 := IntWalk.i64_in _ (by omega)
  rcases hK : inB k 0 M with _ | _
  · have HF := Lib.hid (show turnM m k = ([], false) by unfold turnM; rw [hM, hl, ← hMM, hK]; rfl)
    have HM := Lib.hid hM
    have HK := Lib.hid hK
    by_cases h0 : (0 : Int) < (n : Int) - 1
    case' pos => have HKX := Lib.hid (show inB k 0 ((n : Int) - 1) = false by rw [← hK]; congr 1; omega)
    case' neg => have HKX := Lib.hid (show inB k 0 0 = false by rw [← hK]; congr 1; omega)
    all_goals
      clear hM hl hK hMM
      go_enter Try.func20, Try.ntmps20
      go_wp2_with fail
      refine (specIsMatching_any _ _ _ _ _ HR.out hn).mono ?_
      rintro e w' ⟨rfl, rfl⟩
      rw [HM.out]
      go_wp2_with fail
      refine (l1In_any _ _ _ _).mono ?_
      rintro e w' ⟨rfl, rfl⟩
      rw [HKX.out]
      go_wp2_with fail
      go_ret2
      rw [HF.out]
      exact ⟨_, 0, 0, rfl, rfl, own_empty w, (Below.refl _ _).alloc (Nat.le_refl _) _⟩
  have hkb := inB_iff.1 hK
  obtain ⟨K, rfl⟩ := Int.eq_ofNat_of_zero_le hkb.1
  have HF := Lib.hid (show turnM m K = (tuS m K n, true) by unfold turnM; rw [hM, hl, ← hMM, hK]; rfl)
  have HAT := Lib.hid (fun i (hi : i < n) => isMat_at hM (show i < m.length by omega))
  have HTL := Lib.hid (fun i => tuS_len m K i)
  have HM := Lib.hid hM
  have HK := Lib.hid hK
  have hKn : (K : Int) ≤ (n : Int) - 1 ∨ n = 0 := by omega
  have hK16 : K ≤ 16 := by omega
  have hmk := mkI n (by omega) w
  have HO0 := Lib.hid (show Own (w.alloc (.cells (madeCells #[.int .i64 0] n) 3)) 3 w.heap.size (some ⟨w.heap.size, 0, none⟩) n n (iv (tuS m K 0)) by
    have := Own.made w 3 (.int .i64 0) n (by unfold maxLen; omega)
    rw [iv_rep] at this
    rw [tuS, hl]; exact this)
  have hb0 := (Below.refl w.heap.size w).alloc (Nat.le_refl _) (.cells (madeCells #[.int .i64 0] n) 3)
  by_cases h0 : (0 : Int) < (n : Int) - 1
  case' pos => have HKX := Lib.hid (show inB (K : Int) 0 ((n : Int) - 1) = true by rw [← hK]; congr 1; omega)
  case' neg => have HKX := Lib.hid (show inB (K : Int) 0 0 = true by rw [← hK]; congr 1; omega)
  all_goals
    clear hM hl hK hMM hkb
    go_enter Try.func20, Try.ntmps20
    go_wp2_with fail
    refine (specIsMatching_any _ _ _ _ _ HR.out hn).mono ?_
    rintro e w' ⟨rfl, rfl⟩
    rw [HM.out]
    go_wp2_with fail
    refine (l1In_any _ _ _ _).mono ?_
    rintro e w' ⟨rfl, rfl⟩
    rw [HKX.out]
    go_wp2_with fail
    clear hmk
    go_loopw [8] (fun ix wr => ∃ i : Nat, i ≤ n ∧ ix = .int .i64 i ∧ Own wr 3 w.heap.size (some ⟨w.heap.size, 0, none⟩) n n (iv (tuS m K i)) ∧ Below w.heap.size w wr) (fun ix _ => n - (intOf ix).toNat)
    case atStart => exact ⟨0, Nat.zero_le _, rfl, HO0.out, hb0⟩
    case round =>
      obtain ⟨i, hi, rfl, ho, hb⟩ := hrel
      have O := Lib.hid ho
      have hsz := hb.size
      clear ho
      by_cases hlt : i < n
      · obtain ⟨b, off, x, rfl, hx, hc⟩ := (HR.out.below hb).ati hlt
        have hxb := HAT.out i hlt
        have hxd : m.getD i 0 = x := by rw [List.getD_eq_getElem?_getD, hx]; rfl
        rw [hxd, HL.out] at hxb
        obtain ⟨P, hP⟩ : ∃ P : Nat, (P : Int) = ((i : Int) - K + n) % n := ⟨(((i : Int) - K + n) % n).toNat, Int.toNat_of_nonneg (Int.emod_nonneg _ (by omega))⟩
        obtain ⟨V, hV⟩ : ∃ V : Int, V = (x - K + n) % n := ⟨_, rfl⟩
        have hPn : P < n := by have := Int.emod_lt_of_pos ((i : Int) - K + n) (show (0 : Int) < n by omega); omega
        have hVn : 0 ≤ V ∧ V < n := by rw [hV]; exact ⟨Int.emod_nonneg _ (by omega), Int.emod_lt_of_pos _ (by omega)⟩
        have HN := Lib.hid (show (tuS m K i).set P V = tuS m K (i + 1) by rw [tuS, HL.out, hxd, ← hP, ← hV]; rfl)
        obtain ⟨g, y, hg, -, -, hy, hcy, hfy⟩ := O.out.ati hPn
        cases hg
        have u1 : IntKind.i64.wrap ((i : Int) - (K : Int)) = (i : Int) - (K : Int) := IntWalk.i64_in _ (by omega)
        have u2 : IntKind.i64.wrap ((i : Int) - (K : Int) + (n : Int)) = (i : Int) - (K : Int) + (n : Int) := IntWalk.i64_in _ (by omega)
        have u3 : IntKind.i64.wrap (x - (K : Int)) = x - (K : Int) := IntWalk.i64_in _ (by omega)
        have u4 : IntKind.i64.wrap (x - (K : Int) + (n : Int)) = x - (K : Int) + (n : Int) := IntWalk.i64_in _ (by omega)
        have u5 : IntKind.i64.wrap (P : Int) = (P : Int) := IntWalk.i64_in _ (by omega)
        have u6 : IntKind.i64.wrap V = V := IntWalk.i64_in _ (by omega)
        have m1 : Int.tmod ((i : Int) - (K : Int) + (n : Int)) (n : Int) = (P : Int) := by rw [hP, Int.tmod_eq_emod_of_nonneg (by omega)]
        have m2 : Int.tmod (x - (K : Int) + (n : Int)) (n : Int) = V := by rw [hV, Int.tmod_eq_emod_of_nonneg (by omega)]
        have m3 : ((i : Int) - (K : Int) + (n : Int)) % (n : Int) = (P : Int) := hP.symm
        have m4 : (x - (K : Int) + (n : Int)) % (n : Int) = V := hV.symm
        have n0 : ((n : Int) == 0) = false := by rw [beq_eq_false_iff_ne]; omega
        have n0' : ¬ (n : Int) = 0 := by omega
        have n0'' : ¬ n = 0 := by omega
        have i1 : (0 : Int) ≤ (i : Int) := by omega
        have i2 : (i : Int) < (n : Int) := by omega
        have j1 : (0 : Int) ≤ (P : Int) := by omega
        have j2 : (P : Int) < (n : Int) := by omega
        have je : ((P : Int)).toNat = P := by omega
        clear hx hxd hP hV hy
        go_wp2_with fail
        go_still_tail 19, (by kernel_rfl)
        change wpList _ _ _ _ _ wr.drew
        go_wp2_with fail
        go_roundw
        case rel => exact ⟨i + 1, by omega, by go_num, by rw [← HN.out]; exact (O.out.puti P V).drew, (hb.setCell (p := ⟨w.heap.size, P, none⟩) (Nat.le_refl _) _).drew⟩
        case measure => simp [intOf]; omega
      · have HI := Lib.hid (show tuS m K n = tuS m K i by rw [show n = i by omega])
        have HNL := Lib.hid (show n = (tuS m K n).length by rw [HTL.out, HL.out])
        go_wp2_with fail
        go_ret2
        rw [HF.out]
        exact ⟨_, n, n, HNL.out, rfl, by rw [HI.out]; exact O.out, hb⟩

set_option maxRecDepth 20000 in
set_option maxHeartbeats 4000000 in
theorem implTurnMatching_any (A : Option Addr) (n c : Nat) (m : List Int) (k : Int) (w : World) (h : Rd w A n (iv m)) (hn : n ≤ 1000000000) :
    Calls Try.prog 23 #[.slice A n c, .int .i64 k] w (RetIB w (turnM m k).1 (turnM m k).2) := by
  unfold RetIB
  have HR := Lib.hid h
  have hl := (show m.length = n by have := h.len; rw [iv_len] at this; exact this)
  have HL := Lib.hid hl
  clear h
  rcases hM : isMat m with _ | _
  · have HF := Lib.hid (show turnM m k = ([], false) by unfold turnM; rw [hM]; rfl)
    have HM := Lib.hid hM
    clear hM hl
    go_enter Try.func23, Try.ntmps23
    go_wp2_with fail
    refine (implIsMatching_any _ _ _ _ _ HR.out hn).mono ?_
    rintro e w' ⟨rfl, rfl⟩
    rw [HM.out]
    go_wp2_with fail
    go_ret2
    rw [HF.out]
    exact ⟨_, 0, 0, rfl, rfl, own_empty w, (Below.refl _ _).alloc (Nat.le_refl _) _⟩
  have h16 : n ≤ 16 := by have := isMat_len hM; omega
  obtain ⟨M, hMM⟩ : ∃ M : Int, M = max 0 ((n : Int) - 1) := ⟨_, rfl⟩
  have hwn : IntKind.i64.wrap ((n : Int) - 1) = (n : Int) - 1 := IntWalk.i64_in _ (by omega)
  rcases hK : inB k 0 M with _ | _
  · have HF := Lib.hid (show turnM m k = ([], false) by unfold turnM; rw [hM, hl, ← hMM, hK]; rfl)
    have HM := Lib.hid hM
    have HK := Lib.hid hK
    by_cases h0 : (0 : Int) < (n : Int) - 1
    case' pos => have HKX := Lib.hid (show inB k 0 ((n : Int) - 1) = false by rw [← hK]; congr 1; omega)
    case' neg => have HKX := Lib.hid (show inB k 0 0 = false by rw [← hK]; congr 1; omega)
    all_goals
      clear hM hl hK hMM
      go_enter Try.func23, Try.ntmps23
      go_wp2_with fail
      refine (implIsMatching_any _ _ _ _ _ HR.out hn).mono ?_
      rintro e w' ⟨rfl, rfl⟩
      rw [HM.out]
      go_wp2_with fail
      refine (within_any _ _ _ _).mono ?_
      rintro e w' ⟨rfl, rfl⟩
      rw [HKX.out]
      go_wp2_with fail
      go_ret2
      rw [HF.out]
      exact ⟨_, 0, 0, rfl, rfl, own_empty w, (Below.refl _ _).alloc (Nat.le_refl _) _⟩
  have hkb := inB_iff.1 hK
  obtain ⟨K, rfl⟩ := Int.eq_ofNat_of_zero_le hkb.1
  have HF := Lib.hid (show turnM m K = (tuS m K n, true) by unfold turnM; rw [hM, hl, ← hMM, hK]; rfl)
  have HAT := Lib.hid (fun i (hi : i < n) => isMat_at hM (show i < m.length by omega))
  have HTL := Lib.hid (fun i => tuS_len m K i)
  have HM := Lib.hid hM
  have HK := Lib.hid hK
  have hKn : (K : Int) ≤ (n : Int) - 1 ∨ n = 0 := by omega
  have hK16 : K ≤ 16 := by omega
  have hmk := mkI n (by omega) w
  have HO0 := Lib.hid (show Own (w.alloc (.cells (madeCells #[.int .i64 0] n) 3)) 3 w.heap.size (some ⟨w.heap.size, 0, none⟩) n n (iv (tuS m K 0)) by
    have := Own.made w 3 (.int .i64 0) n (by unfold maxLen; omega)
    rw [iv_rep] at this
    rw [tuS, hl]; exact this)
  have hb0 := (Below.refl w.heap.size w).alloc (Nat.le_refl _) (.cells (madeCells #[.int .i64 0] n) 3)
  by_cases h0 : (0 : Int) < (n : Int) - 1
  case' pos => have HKX := Lib.hid (show inB (K : Int) 0 ((n : Int) - 1) = true by rw [← hK]; congr 1; omega)
  case' neg => have HKX := Lib.hid (show inB (K : Int) 0 0 = true by rw [← hK]; congr 1; omega)
  all_goals
    clear hM hl hK hMM hkb
    go_enter Try.func23, Try.ntmps23
    go_wp2_with fail
    refine (implIsMatching_any _ _ _ _ _ HR.out hn).mono ?_
    rintro e w' ⟨rfl, rfl⟩
    rw [HM.out]
    go_wp2_with fail
    refine (within_any _ _ _ _).mono ?_
    rintro e w' ⟨rfl, rfl⟩
    rw [HKX.out]
    go_wp2_with fail
    clear hmk
    go_loopw [8, 9, 29] (fun _ _ ix wr => ∃ i : Nat, i ≤ n ∧ ix = .int .i64 i ∧ Own wr 3 w.heap.size (some ⟨w.heap.size, 0, none⟩) n n (iv (tuS m K i)) ∧ Below w.heap.size w wr) (fun _ _ ix _ => n - (intOf ix).toNat)
    case atStart => exact ⟨0, Nat.zero_le _, rfl, HO0.out, hb0⟩
    case round =>
      obtain ⟨i, hi, rfl, ho, hb⟩ := hrel
      have O := Lib.hid ho
      have hsz := hb.size
      clear ho
      by_cases hlt : i < n
      · obtain ⟨b, off, x, rfl, hx, hc⟩ := (HR.out.below hb).ati hlt
        have hxb := HAT.out i hlt
        have hxd : m.getD i 0 = x := by rw [List.getD_eq_getElem?_getD, hx]; rfl
        rw [hxd, HL.out] at hxb
        obtain ⟨P, hP⟩ : ∃ P : Nat, (P : Int) = ((i : Int) - K + n) % n := ⟨(((i : Int) - K + n) % n).toNat, Int.toNat_of_nonneg (Int.emod_nonneg _ (by omega))⟩
        obtain ⟨V, hV⟩ : ∃ V : Int, V = (x - K + n) % n := ⟨_, rfl⟩
        have hPn : P < n := by have := Int.emod_lt_of_pos ((i : Int) - K + n) (show (0 : Int) < n by omega); omega
        have hVn : 0 ≤ V ∧ V < n := by rw [hV]; exact ⟨Int.emod_nonneg _ (by omega), Int.emod_lt_of_pos _ (by omega)⟩
        have HN := Lib.hid (show (tuS m K i).set P V = tuS m K (i + 1) by rw [tuS, HL.out, hxd, ← hP, ← hV]; rfl)
        obtain ⟨g, y, hg, -, -, hy, hcy, hfy⟩ := O.out.ati hPn
        cases hg
        have u1 : IntKind.i64.wrap ((i : Int) - (K : Int)) = (i : Int) - (K : Int) := IntWalk.i64_in _ (by omega)
        have u2 : IntKind.i64.wrap ((i : Int) - (K : Int) + (n : Int)) = (i : Int) - (K : Int) + (n : Int) := IntWalk.i64_in _ (by omega)
        have u3 : IntKind.i64.wrap (x - (K : Int)) = x - (K : Int) := IntWalk.i64_in _ (by omega)
        have u4 : IntKind.i64.wrap (x - (K : Int) + (n : Int)) = x - (K : Int) + (n : Int) := IntWalk.i64_in _ (by omega)
        have u5 : IntKind.i64.wrap (P : Int) = (P : Int) := IntWalk.i64_in _ (by omega)
        have u6 : IntKind.i64.wrap V = V := IntWalk.i64_in _ (by omega)
        have m1 : Int.tmod ((i : Int) - (K : Int) + (n : Int)) (n : Int) = (P : Int) := by rw [hP, Int.tmod_eq_emod_of_nonneg (by omega)]
        have m2 : Int.tmod (x - (K : Int) + (n : Int)) (n : Int) = V := by rw [hV, Int.tmod_eq_emod_of_nonneg (by omega)]
        have m3 : ((i : Int) - (K : Int) + (n : Int)) % (n : Int) = (P : Int) := hP.symm
        have m4 : (x - (K : Int) + (n : Int)) % (n : Int) = V := hV.symm
        have n0 : ((n : Int) == 0) = false := by rw [beq_eq_false_iff_ne]; omega
        have n0' : ¬ (n : Int) = 0 := by omega
        have n0'' : ¬ n = 0 := by omega
        have i1 : (0 : Int) ≤ (i : Int) := by omega
        have i2 : (i : Int) < (n : Int) := by omega
        have j1 : (0 : Int) ≤ (P : Int) := by omega
        have j2 : (P : Int) < (n : Int) := by omega
        have je : ((P : Int)).toNat = P := by omega
        clear hx hxd hP hV hy
        go_wp2_with fail
        go_still_tail 16, (by kernel_rfl)
        change wpList _ _ _ _ _ wr.drew
        go_wp2_with fail
        go_roundw
        case rel => exact ⟨i + 1, by omega, by go_num, by rw [← HN.out]; exact (O.out.puti P V).drew, (hb.setCell (p := ⟨w.heap.size, P, none⟩) (Nat.le_refl _) _).drew⟩
        case measure => simp [intOf]; omega
      · have HI := Lib.hid (show tuS m K n = tuS m K i by rw [show n = i by omega])
        have HNL := Lib.hid (show n = (tuS m K n).length by rw [HTL.out, HL.out])
        go_wp2_with fail
        go_ret2
        rw [HF.out]
        exact ⟨_, n, n, HNL.out, rfl, by rw [HI.out]; exact O.out, hb⟩

end Go.Proofs.Ytghfhkbncjgaeaa
