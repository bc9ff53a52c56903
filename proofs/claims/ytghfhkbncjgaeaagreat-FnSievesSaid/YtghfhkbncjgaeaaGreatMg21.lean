/- Merged: Turn CrM. -/
import Derived.Test.YtghfhkbncjgaeaaGreatMg20
import Derived.Test.YtghfhkbncjgaeaaGreatMg18

namespace Go.Proofs.YtghfhkbncjgaeaaGreat
set_option linter.unusedVariables false
open Go.RowKit

set_option maxRecDepth 20000 in
set_option maxHeartbeats 4000000 in
theorem specTurnMatching_any (A : Option Addr) (n c : Nat) (m : List Int) (k : Int) (w : World) (h : Rd w A n (iv m)) (hn : n ≤ 1000000000) :
    Calls Tryz.prog 73 #[.slice A n c, .int .i64 k] w (RetIB w (turnM m k).1 (turnM m k).2) := by
  unfold RetIB
  have HR := Lib.hid h
  have hl := (show m.length = n by have := h.len; rw [iv_len] at this; exact this)
  have HL := Lib.hid hl
  clear h
  rcases hM : isMat m with _ | _
  · have HF := Lib.hid (show turnM m k = ([], false) by unfold turnM; rw [hM]; rfl)
    have HM := Lib.hid hM
    clear hM hl
    go_enter Tryz.func73, Tryz.ntmps73
    go_wp2_with fail
    refine (specIsMatching_any _ _ _ _ _ HR.out hn).mono ?_
    rintro e w' ⟨rfl, rfl⟩
    rw [HM.out]
    go_wp2_with fail
    go_ret2
    rw [HF.out]
    exact ⟨_, 0, 0, rfl, rfl, own_empty w, (Below.refl _ _).alloc (Nat.le_refl _) _⟩
  have h16 : n ≤ 16 := by have := isMat_len hM; omega
  obtain ⟨M, hMM⟩ : ∃ M : Int, M = max 0 ((n : Int) - 1) := ⟨_, rfl⟩
  have hwn : IntKind.i64.wrap ((n : Int) - 1) = (n : Int) - 1 := IntWalk.i64_in _ (by omega)
  rcases hK : inB k 0 M with _ | _
  · have HF := Lib.hid (show turnM m k = ([], false) by unfold turnM; rw [hM, hl, ← hMM, hK]; rfl)
    have HM := Lib.hid hM
    have HK := Lib.hid hK
    by_cases h0 : (0 : Int) < (n : Int) - 1
    case' pos => have HKX := Lib.hid (show inB k 0 ((n : Int) - 1) = false by rw [← hK]; congr 1; omega)
    case' neg => have HKX := Lib.hid (show inB k 0 0 = false by rw [← hK]; congr 1; omega)
    all_goals
      clear hM hl hK hMM
      go_enter Tryz.func73, Tryz.ntmps73
      go_wp2_with fail
      refine (specIsMatching_any _ _ _ _ _ HR.out hn).mono ?_
      rintro e w' ⟨rfl, rfl⟩
      rw [HM.out]
      go_wp2_with fail
      refine (l1In_any _ _ _ _).mono ?_
      rintro e w' ⟨rfl, rfl⟩
      rw [HKX.out]
      go_wp2_with fail
      go_ret2
      rw [HF.out]
      exact ⟨_, 0, 0, rfl, rfl, own_empty w, (Below.refl _ _).alloc (Nat.le_refl _) _⟩
  have hkb := inB_iff.1 hK
  obtain ⟨K, rfl⟩ := Int.eq_ofNat_of_zero_le hkb.1
  have HF := Lib.hid (show turnM m K = (tuS m K n, true) by unfold turnM; rw [hM, hl, ← hMM, hK]; rfl)
  have HAT := Lib.hid (fun i (hi : i < n) => isMat_at hM (show i < m.length by omega))
  have HTL := Lib.hid (fun i => tuS_len m K i)
  have HM := Lib.hid hM
  have HK := Lib.hid hK
  have hKn : (K : Int) ≤ (n : Int) - 1 ∨ n = 0 := by omega
  have hK16 : K ≤ 16 := by omega
  have hmk := mkI n (by omega) w
  have HO0 := Lib.hid (show Own (w.alloc (.cells (madeCells #[.int .i64 0] n) 3)) 3 w.heap.size (some ⟨w.heap.size, 0, none⟩) n n (iv (tuS m K 0)) by
    have := Own.made w 3 (.int .i64 0) n (by unfold maxLen; omega)
    rw [iv_rep] at this
    rw [tuS, hl]; exact this)
  have hb0 := (Below.refl w.heap.size w).alloc (Nat.le_refl _) (.cells (madeCells #[.int .i64 0] n) 3)
  by_cases h0 : (0 : Int) < (n : Int) - 1
  case' pos => have HKX := Lib.hid (show inB (K : Int) 0 ((n : Int) - 1) = true by rw [← hK]; congr 1; omega)
  case' neg => have HKX := Lib.hid (show inB (K : Int) 0 0 = true by rw [← hK]; congr 1; omega)
  all_goals
    clear hM hl hK hMM hkb
    go_enter Tryz.func73, Tryz.ntmps73
    go_wp2_with fail
    refine (specIsMatching_any _ _ _ _ _ HR.out hn).mono ?_
    rintro e w' ⟨rfl, rfl⟩
    rw [HM.out]
    go_wp2_with fail
    refine (l1In_any _ _ _ _).mono ?_
    rintro e w' ⟨rfl, rfl⟩
    rw [HKX.out]
    go_wp2_with fail
    clear hmk
    go_loopw [8] (fun ix wr => ∃ i : Nat, i ≤ n ∧ ix = .int .i64 i ∧ Own wr 3 w.heap.size (some ⟨w.heap.size, 0, none⟩) n n (iv (tuS m K i)) ∧ Below w.heap.size w wr) (fun ix _ => n - (intOf ix).toNat)
    case atStart => exact ⟨0, Nat.zero_le _, rfl, HO0.out, hb0⟩
    case round =>
      obtain ⟨i, hi, rfl, ho, hb⟩ := hrel
      have O := Lib.hid ho
      have hsz := hb.size
      clear ho
      by_cases hlt : i < n
      · obtain ⟨b, off, x, rfl, hx, hc⟩ := (HR.out.below hb).ati hlt
        have hxb := HAT.out i hlt
        have hxd : m.getD i 0 = x := by rw [List.getD_eq_getElem?_getD, hx]; rfl
        rw [hxd, HL.out] at hxb
        obtain ⟨P, hP⟩ : ∃ P : Nat, (P : Int) = ((i : Int) - K + n) % n := ⟨(((i : Int) - K + n) % n).toNat, Int.toNat_of_nonneg (Int.emod_nonneg _ (by omega))⟩
        obtain ⟨V, hV⟩ : ∃ V : Int, V = (x - K + n) % n := ⟨_, rfl⟩
        have hPn : P < n := by have := Int.emod_lt_of_pos ((i : Int) - K + n) (show (0 : Int) < n by omega); omega
        have hVn : 0 ≤ V ∧ V < n := by rw [hV]; exact ⟨Int.emod_nonneg _ (by omega), Int.emod_lt_of_pos _ (by omega)⟩
        have HN := Lib.hid (show (tuS m K i).set P V = tuS m K (i + 1) by rw [tuS, HL.out, hxd, ← hP, ← hV]; rfl)
        obtain ⟨g, y, hg, -, -, hy, hcy, hfy⟩ := O.out.ati hPn
        cases hg
        have u1 : IntKind.i64.wrap ((i : Int) - (K : Int)) = (i : Int) - (K : Int) := IntWalk.i64_in _ (by omega)
        have u2 : IntKind.i64.wrap ((i : Int) - (K : Int) + (n : Int)) = (i : Int) - (K : Int) + (n : Int) := IntWalk.i64_in _ (by omega)
        have u3 : IntKind.i64.wrap (x - (K : Int)) = x - (K : Int) := IntWalk.i64_in _ (by omega)
        have u4 : IntKind.i64.wrap (x - (K : Int) + (n : Int)) = x - (K : Int) + (n : Int) := IntWalk.i64_in _ (by omega)
        have u5 : IntKind.i64.wrap (P : Int) = (P : Int) := IntWalk.i64_in _ (by omega)
        have u6 : IntKind.i64.wrap V = V := IntWalk.i64_in _ (by omega)
        have m1 : Int.tmod ((i : Int) - (K : Int) + (n : Int)) (n : Int) = (P : Int) := by rw [hP, Int.tmod_eq_emod_of_nonneg (by omega)]
        have m2 : Int.tmod (x - (K : Int) + (n : Int)) (n : Int) = V := by rw [hV, Int.tmod_eq_emod_of_nonneg (by omega)]
        have m3 : ((i : Int) - (K : Int) + (n : Int)) % (n : Int) = (P : Int) := hP.symm
        have m4 : (x - (K : Int) + (n : Int)) % (n : Int) = V := hV.symm
        have n0 : ((n : Int) == 0) = false := by rw [beq_eq_false_iff_ne]; omega
        have n0' : ¬ (n : Int) = 0 := by omega
        have n0'' : ¬ n = 0 := by omega
        have i1 : (0 : Int) ≤ (i : Int) := by omega
        have i2 : (i : Int) < (n : Int) := by omega
        have j1 : (0 : Int) ≤ (P : Int) := by omega
        have j2 : (P : Int) < (n : Int) := by omega
        have je : ((P : Int)).toNat = P := by omega
        clear hx hxd hP hV hy
        go_wp2_with fail
        go_still_tail 19, (by kernel_rfl)
        change wpList _ _ _ _ _ wr.drew
        go_wp2_with fail
        go_roundw
        case rel => exact ⟨i + 1, by omega, by go_num, by rw [← HN.out]; exact (O.out.puti P V).drew, (hb.setCell (p := ⟨w.heap.size, P, none⟩) (Nat.le_refl _) _).drew⟩
        case measure => simp [intOf]; omega
      · have HI := Lib.hid (show tuS m K n = tuS m K i by rw [show n = i by omega])
        have HNL := Lib.hid (show n = (tuS m K n).length by rw [HTL.out, HL.out])
        go_wp2_with fail
        go_ret2
        rw [HF.out]
        exact ⟨_, n, n, HNL.out, rfl, by rw [HI.out]; exact O.out, hb⟩

set_option maxRecDepth 20000 in
set_option maxHeartbeats 4000000 in
theorem implTurnMatching_any (A : Option Addr) (n c : Nat) (m : List Int) (k : Int) (w : World) (h : Rd w A n (iv m)) (hn : n ≤ 1000000000) :
    Calls Tryz.prog 62 #[.slice A n c, .int .i64 k] w (RetIB w (turnM m k).1 (turnM m k).2) := by
  unfold RetIB
  have HR := Lib.hid h
  have hl := (show m.length = n by have := h.len; rw [iv_len] at this; exact this)
  have HL := Lib.hid hl
  clear h
  rcases hM : isMat m with _ | _
  · have HF := Lib.hid (show turnM m k = ([], false) by unfold turnM; rw [hM]; rfl)
    have HM := Lib.hid hM
    clear hM hl
    go_enter Tryz.func62, Tryz.ntmps62
    go_wp2_with fail
    refine (implIsMatching_any _ _ _ _ _ HR.out hn).mono ?_
    rintro e w' ⟨rfl, rfl⟩
    rw [HM.out]
    go_wp2_with fail
    go_ret2
    rw [HF.out]
    exact ⟨_, 0, 0, rfl, rfl, own_empty w, (Below.refl _ _).alloc (Nat.le_refl _) _⟩
  have h16 : n ≤ 16 := by have := isMat_len hM; omega
  obtain ⟨M, hMM⟩ : ∃ M : Int, M = max 0 ((n : Int) - 1) := ⟨_, rfl⟩
  have hwn : IntKind.i64.wrap ((n : Int) - 1) = (n : Int) - 1 := IntWalk.i64_in _ (by omega)
  rcases hK : inB k 0 M with _ | _
  · have HF := Lib.hid (show turnM m k = ([], false) by unfold turnM; rw [hM, hl, ← hMM, hK]; rfl)
    have HM := Lib.hid hM
    have HK := Lib.hid hK
    by_cases h0 : (0 : Int) < (n : Int) - 1
    case' pos => have HKX := Lib.hid (show inB k 0 ((n : Int) - 1) = false by rw [← hK]; congr 1; omega)
    case' neg => have HKX := Lib.hid (show inB k 0 0 = false by rw [← hK]; congr 1; omega)
    all_goals
      clear hM hl hK hMM
      go_enter Tryz.func62, Tryz.ntmps62
      go_wp2_with fail
      refine (implIsMatching_any _ _ _ _ _ HR.out hn).mono ?_
      rintro e w' ⟨rfl, rfl⟩
      rw [HM.out]
      go_wp2_with fail
      refine (within_any _ _ _ _).mono ?_
      rintro e w' ⟨rfl, rfl⟩
      rw [HKX.out]
      go_wp2_with fail
      go_ret2
      rw [HF.out]
      exact ⟨_, 0, 0, rfl, rfl, own_empty w, (Below.refl _ _).alloc (Nat.le_refl _) _⟩
  have hkb := inB_iff.1 hK
  obtain ⟨K, rfl⟩ := Int.eq_ofNat_of_zero_le hkb.1
  have HF := Lib.hid (show turnM m K = (tuS m K n, true) by unfold turnM; rw [hM, hl, ← hMM, hK]; rfl)
  have HAT := Lib.hid (fun i (hi : i < n) => isMat_at hM (show i < m.length by omega))
  have HTL := Lib.hid (fun i => tuS_len m K i)
  have HM := Lib.hid hM
  have HK := Lib.hid hK
  have hKn : (K : Int) ≤ (n : Int) - 1 ∨ n = 0 := by omega
  have hK16 : K ≤ 16 := by omega
  have hmk := mkI n (by omega) w
  have HO0 := Lib.hid (show Own (w.alloc (.cells (madeCells #[.int .i64 0] n) 3)) 3 w.heap.size (some ⟨w.heap.size, 0, none⟩) n n (iv (tuS m K 0)) by
    have := Own.made w 3 (.int .i64 0) n (by unfold maxLen; omega)
    rw [iv_rep] at this
    rw [tuS, hl]; exact this)
  have hb0 := (Below.refl w.heap.size w).alloc (Nat.le_refl _) (.cells (madeCells #[.int .i64 0] n) 3)
  by_cases h0 : (0 : Int) < (n : Int) - 1
  case' pos => have HKX := Lib.hid (show inB (K : Int) 0 ((n : Int) - 1) = true by rw [← hK]; congr 1; omega)
  case' neg => have HKX := Lib.hid (show inB (K : Int) 0 0 = true by rw [← hK]; congr 1; omega)
  all_goals
    clear hM hl hK hMM hkb
    go_enter Tryz.func62, Tryz.ntmps62
    go_wp2_with fail
    refine (implIsMatching_any _ _ _ _ _ HR.out hn).mono ?_
    rintro e w' ⟨rfl, rfl⟩
    rw [HM.out]
    go_wp2_with fail
    refine (within_any _ _ _ _).mono ?_
    rintro e w' ⟨rfl, rfl⟩
    rw [HKX.out]
    go_wp2_with fail
    clear hmk
    go_loopw [8, 9, 29] (fun _ _ ix wr => ∃ i : Nat, i ≤ n ∧ ix = .int .i64 i ∧ Own wr 3 w.heap.size (some ⟨w.heap.size, 0, none⟩) n n (iv (tuS m K i)) ∧ Below w.heap.size w wr) (fun _ _ ix _ => n - (intOf ix).toNat)
    case atStart => exact ⟨0, Nat.zero_le _, rfl, HO0.out, hb0⟩
    case round =>
      obtain ⟨i, hi, rfl, ho, hb⟩ := hrel
      have O := Lib.hid ho
      have hsz := hb.size
      clear ho
      by_cases hlt : i < n
      · obtain ⟨b, off, x, rfl, hx, hc⟩ := (HR.out.below hb).ati hlt
        have hxb := HAT.out i hlt
        have hxd : m.getD i 0 = x := by rw [List.getD_eq_getElem?_getD, hx]; rfl
        rw [hxd, HL.out] at hxb
        obtain ⟨P, hP⟩ : ∃ P : Nat, (P : Int) = ((i : Int) - K + n) % n := ⟨(((i : Int) - K + n) % n).toNat, Int.toNat_of_nonneg (Int.emod_nonneg _ (by omega))⟩
        obtain ⟨V, hV⟩ : ∃ V : Int, V = (x - K + n) % n := ⟨_, rfl⟩
        have hPn : P < n := by have := Int.emod_lt_of_pos ((i : Int) - K + n) (show (0 : Int) < n by omega); omega
        have hVn : 0 ≤ V ∧ V < n := by rw [hV]; exact ⟨Int.emod_nonneg _ (by omega), Int.emod_lt_of_pos _ (by omega)⟩
        have HN := Lib.hid (show (tuS m K i).set P V = tuS m K (i + 1) by rw [tuS, HL.out, hxd, ← hP, ← hV]; rfl)
        obtain ⟨g, y, hg, -, -, hy, hcy, hfy⟩ := O.out.ati hPn
        cases hg
        have u1 : IntKind.i64.wrap ((i : Int) - (K : Int)) = (i : Int) - (K : Int) := IntWalk.i64_in _ (by omega)
        have u2 : IntKind.i64.wrap ((i : Int) - (K : Int) + (n : Int)) = (i : Int) - (K : Int) + (n : Int) := IntWalk.i64_in _ (by omega)
        have u3 : IntKind.i64.wrap (x - (K : Int)) = x - (K : Int) := IntWalk.i64_in _ (by omega)
        have u4 : IntKind.i64.wrap (x - (K : Int) + (n : Int)) = x - (K : Int) + (n : Int) := IntWalk.i64_in _ (by omega)
        have u5 : IntKind.i64.wrap (P : Int) = (P : Int) := IntWalk.i64_in _ (by omega)
        have u6 : IntKind.i64.wrap V = V := IntWalk.i64_in _ (by omega)
        have m1 : Int.tmod ((i : Int) - (K : Int) + (n : Int)) (n : Int) = (P : Int) := by rw [hP, Int.tmod_eq_emod_of_nonneg (by omega)]
        have m2 : Int.tmod (x - (K : Int) + (n : Int)) (n : Int) = V := by rw [hV, Int.tmod_eq_emod_of_nonneg (by omega)]
        have m3 : ((i : Int) - (K : Int) + (n : Int)) % (n : Int) = (P : Int) := hP.symm
        have m4 : (x - (K : Int) + (n : Int)) % (n : Int) = V := hV.symm
        have n0 : ((n : Int) == 0) = false := by rw [beq_eq_false_iff_ne]; omega
        have n0' : ¬ (n : Int) = 0 := by omega
        have n0'' : ¬ n = 0 := by omega
        have i1 : (0 : Int) ≤ (i : Int) := by omega
        have i2 : (i : Int) < (n : Int) := by omega
        have j1 : (0 : Int) ≤ (P : Int) := by omega
        have j2 : (P : Int) < (n : Int) := by omega
        have je : ((P : Int)).toNat = P := by omega
        clear hx hxd hP hV hy
        go_wp2_with fail
        go_still_tail 16, (by kernel_rfl)
        change wpList _ _ _ _ _ wr.drew
        go_wp2_with fail
        go_roundw
        case rel => exact ⟨i + 1, by omega, by go_num, by rw [← HN.out]; exact (O.out.puti P V).drew, (hb.setCell (p := ⟨w.heap.size, P, none⟩) (Nat.le_refl _) _).drew⟩
        case measure => simp [intOf]; omega
      · have HI := Lib.hid (show tuS m K n = tuS m K i by rw [show n = i by omega])
        have HNL := Lib.hid (show n = (tuS m K n).length by rw [HTL.out, HL.out])
        go_wp2_with fail
        go_ret2
        rw [HF.out]
        exact ⟨_, n, n, HNL.out, rfl, by rw [HI.out]; exact O.out, hb⟩

end Go.Proofs.YtghfhkbncjgaeaaGreat

namespace Go.Proofs.YtghfhkbncjgaeaaGreat
set_option linter.unusedVariables false
open Go.RowKit

theorem ncM_mat {m : List Int} (h : ncM m = true) : isMat m = true := by
  unfold ncM at h; rw [Bool.and_eq_true] at h; exact h.1
theorem ncM_at {m : List Int} (h : ncM m = true) {a b : Nat} (ha : a < m.length) (hb : b < m.length) : crM m a b = false := by
  unfold ncM at h
  rw [Bool.and_eq_true, List.all_eq_true] at h
  have h1 := h.2 a (List.mem_range.2 ha)
  rw [List.all_eq_true] at h1
  have h2 := h1 b (List.mem_range.2 hb)
  simpa using h2
theorem pthM_len (m : List Int) : ∀ k, (pthM m k).length = k
  | 0 => rfl
  | k + 1 => by rw [pthM, List.length_append, pthM_len m k]; rfl

set_option maxRecDepth 20000 in
set_option maxHeartbeats 1000000 in
theorem specCrossingsOf_no (A : Option Addr) (n c : Nat) (m : List Int) (w : World) (h : Rd w A n (iv m)) (hm : ncM m = true) :
    Calls Tryz.prog 133 #[.slice A n c] w fun e w' => e = .returned (.int .i64 0) ∧ ∃ q, w' = w.drewN q := by
  have HR := Lib.hid h
  have hl := (show m.length = n by have := h.len; rw [iv_len] at this; exact this)
  have hM := ncM_mat hm
  have h16 : n ≤ 16 := by have := isMat_len hM; omega
  have HN := Lib.hid (fun (a b : Nat) (ha : a < n) (hb : b < n) => ncM_at hm (show a < m.length by omega) (show b < m.length by omega))
  have HM := Lib.hid hM
  clear h hl hM hm
  go_enter Tryz.func133, Tryz.ntmps133
  go_wp2_with fail
  refine (specIsMatching_any _ _ _ _ _ HR.out (by omega)).mono ?_
  rintro e w' ⟨rfl, rfl⟩
  rw [HM.out]
  go_wp2_with fail
  go_loopw [3, 4, 5] (fun nv av _ wr => ∃ a q : Nat, a ≤ n ∧ av = .int .i64 a ∧ nv = .int .i64 0 ∧ wr = w.drewN q) (fun _ a _ _ => n - (intOf a).toNat)
  case atStart => exact ⟨0, 0, Nat.zero_le _, rfl, rfl, rfl⟩
  case round =>
    obtain ⟨a, qa, ha, rfl, rfl, rfl⟩ := hrel
    by_cases hlta : a < n
    · have i0 : (0 : Int) ≤ (a : Int) := by omega
      have i1 : (a : Int) < (n : Int) := by omega
      go_wp2_with fail
      go_loopw [3, 5] (fun nv bv wr => ∃ b q : Nat, b ≤ n - (a + 1) ∧ bv = .int .i64 ((a : Int) + 1 + b) ∧ nv = .int .i64 0 ∧ wr = w.drewN q) (fun _ b _ => n - (intOf b).toNat)
      case atStart => exact ⟨0, _, Nat.zero_le _, by go_num, rfl, rfl⟩
      case round =>
        obtain ⟨b, qb, hb, rfl, rfl, rfl⟩ := hrel
        by_cases hltb : a + 1 + b < n
        · obtain ⟨bq, oq, xa, hA1, hxa, hca⟩ := HR.out.ati hlta
          obtain ⟨_, _, xb, hA2, hxb, hcb⟩ := HR.out.ati hltb
          subst hA1
          cases hA2
          have hcr := HN.out a (a + 1 + b) hlta hltb
          unfold crM at hcr
          rw [getD_of hxa, getD_of hxb, decide_eq_true (show a < a + 1 + b by omega), Bool.true_and, show ((a + 1 + b : Nat) : Int) = (a : Int) + 1 + b by omega] at hcr
          have i2 : (0 : Int) ≤ (a : Int) + 1 + b := by omega
          have i3 : (a : Int) + 1 + b < (n : Int) := by omega
          have t2 : ((a : Int) + 1 + b).toNat = a + 1 + b := by omega
          clear hxa hxb
          by_cases c1 : (a : Int) + 1 + b < xa
          · have q1 : decide ((a : Int) + 1 + b < xa) = true := by simp [c1]
            have q2 : decide (xa < xb) = false := by rw [q1, Bool.true_and] at hcr; exact hcr
            have c2 : ¬ xa < xb := by simpa using q2
            clear hcr
            go_wp2_with fail
            go_quiet (fail)
            go_wp2_with fail
            go_roundw
            case rel => exact ⟨b + 1, _, by omega, by go_num, rfl, rfl⟩
            case measure => simp [intOf]; omega
          · have q1 : decide ((a : Int) + 1 + b < xa) = false := by simp; omega
            clear hcr
            go_wp2_with fail
            go_quiet (fail)
            go_wp2_with fail
            go_roundw
            case rel => exact ⟨b + 1, _, by omega, by go_num, rfl, rfl⟩
            case measure => simp [intOf]; omega
        · go_wp2_with fail
          go_roundw
          case rel => exact ⟨a + 1, _, by omega, by go_num, rfl, rfl⟩
          case measure => simp [intOf]; omega
    · go_wp2_with fail
      go_ret
      exact ⟨rfl, _, rfl⟩
theorem specIsNoncrossingMatching_yes (A : Option Addr) (n c : Nat) (m : List Int) (w : World) (h : Rd w A n (iv m)) (hm : ncM m = true) :
    Calls Tryz.prog 112 #[.slice A n c] w fun e w' => e = .returned (.bool true) ∧ ∃ q, w' = w.drewN q := by
  have HR := Lib.hid h
  have HM := Lib.hid hm
  clear h hm
  go_enter Tryz.func112, Tryz.ntmps112
  go_wp2_with fail
  refine (specCrossingsOf_no _ _ _ _ _ HR.out HM.out).mono ?_
  rintro e w' ⟨rfl, q, rfl⟩
  go_wp2_with fail
  go_ret
  exact ⟨rfl, q, rfl⟩
set_option maxRecDepth 20000 in
set_option maxHeartbeats 1000000 in
theorem specPathOfMatching_yes (A : Option Addr) (n c : Nat) (m : List Int) (w : World) (h : Rd w A n (iv m)) (hm : ncM m = true) :
    Calls Tryz.prog 74 #[.slice A n c] w fun e w' => e = .returned (.tuple #[.string (bs (pthM m n)), .bool true]) ∧ ∃ q, w' = w.drewN q := by
  have HR := Lib.hid h
  have HM := Lib.hid hm
  have hl := (show m.length = n by have := h.len; rw [iv_len] at this; exact this)
  have h16 : n ≤ 16 := by have := isMat_len (ncM_mat hm); omega
  clear h hm hl
  go_enter Tryz.func74, Tryz.ntmps74
  go_wp2_with fail
  go_loopw [4, 5] (fun s i wr => ∃ k q : Nat, k ≤ n ∧ i = .int .i64 k ∧ s = .string (bs (pthM m k)) ∧ wr = w.drewN q) (fun _ i _ => n - (intOf i).toNat)
  case atStart => exact ⟨0, 0, Nat.zero_le _, rfl, rfl, rfl⟩
  case round =>
    obtain ⟨k, q, hk, rfl, rfl, rfl⟩ := hrel
    have z1 : (bs (pthM m k)).size ≤ 16 := by rw [size_bs, pthM_len]; omega
    have z2 : (pthM m k).length ≤ 16 := by rw [pthM_len]; omega
    by_cases hlt : k < n
    · obtain ⟨bq, oq, x, hA, hx, hc⟩ := HR.out.ati hlt
      subst hA
      have hxd := getD_of hx
      have i0 : (0 : Int) ≤ (k : Int) := by omega
      have i1 : (k : Int) < (n : Int) := by omega
      clear hx
      by_cases hkx : (k : Int) < x
      · have HS := Lib.hid (show pthM m (k + 1) = pthM m k ++ [117] by rw [pthM, hxd, if_pos hkx])
        clear hxd
        go_wp2_with fail
        refine (specIsNoncrossingMatching_yes _ _ _ _ _ (HR.out.drewN _) HM.out).mono ?_
        rintro e w' ⟨rfl, q', rfl⟩
        go_wp2_with fail
        go_roundw
        case rel => exact ⟨k + 1, _, by omega, by go_num, by rw [HS.out, bs_lit, bs_append], rfl⟩
        case measure => simp [intOf]; omega
      · have HS := Lib.hid (show pthM m (k + 1) = pthM m k ++ [100] by rw [pthM, hxd, if_neg hkx])
        clear hxd
        go_wp2_with fail
        refine (specIsNoncrossingMatching_yes _ _ _ _ _ (HR.out.drewN _) HM.out).mono ?_
        rintro e w' ⟨rfl, q', rfl⟩
        go_wp2_with fail
        go_roundw
        case rel => exact ⟨k + 1, _, by omega, by go_num, by rw [HS.out, bs_lit, bs_append], rfl⟩
        case measure => simp [intOf]; omega
    · have HK := Lib.hid (show pthM m n = pthM m k by rw [show n = k by omega])
      go_wp2_with fail
      refine (specIsNoncrossingMatching_yes _ _ _ _ _ (HR.out.drewN _) HM.out).mono ?_
      rintro e w' ⟨rfl, q', rfl⟩
      go_wp2_with fail
      go_ret2
      rw [HK.out]
      exact ⟨rfl, _, rfl⟩

end Go.Proofs.YtghfhkbncjgaeaaGreat
