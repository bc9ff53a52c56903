/- BallotNumber and CatalanNumber of the program. -/
import Derived.Test.YteiffomekjadgaaNum
import Derived.Test.YteiffomekjadgaaPut
import Derived.StillTailTactics
namespace Go.Proofs.Yteiffomekjadgaa
set_option linter.unusedVariables false
open Go.RowKit

/-- The next row, j places filled from u on. -/
def stB (row : List Int) (u : Nat) : Nat → List Int
  | 0 => List.replicate row.length 0
  | j + 1 => (stB row u j).set (u + j) (row.getD (u + j) 0 + if 0 < j then (stB row u j).getD (u + j - 1) 0 else 0)
def rwB (D : Nat) : Nat → List Int
  | 0 => List.replicate (D + 1) 1
  | u + 1 => stB (rwB D u) (u + 1) (D - u)
def balV (U D : Nat) : Int := (rwB D U).getD D 0
def catN (n : Int) : Int := if inB n 0 15 then balV n.toNat n.toNat else -1
theorem stB_len (row : List Int) (u : Nat) : ∀ j, (stB row u j).length = row.length
  | 0 => by simp [stB]
  | j + 1 => by rw [stB, List.length_set, stB_len row u j]
theorem rwB_len (D : Nat) : ∀ u, (rwB D u).length = D + 1
  | 0 => by simp [rwB]
  | u + 1 => by rw [rwB, stB_len, rwB_len D u]
theorem getD_set_bd {l : List Int} {k : Nat} {x b : Int} (h : ∀ i, 0 ≤ l.getD i 0 ∧ l.getD i 0 ≤ b) (hx : 0 ≤ x ∧ x ≤ b) (i : Nat) : 0 ≤ (l.set k x).getD i 0 ∧ (l.set k x).getD i 0 ≤ b := by
  rw [List.getD_eq_getElem?_getD, List.getElem?_set]
  split
  · split
    · exact hx
    · have := h i; simp; omega
  · rw [← List.getD_eq_getElem?_getD]; exact h i
theorem stB_bd {row : List Int} {b : Int} (hb : 0 ≤ b) (h : ∀ i, 0 ≤ row.getD i 0 ∧ row.getD i 0 ≤ b) (u : Nat) : ∀ (j : Nat) i, 0 ≤ (stB row u j).getD i 0 ∧ (stB row u j).getD i 0 ≤ (j : Int) * b
  | 0, i => by
    rw [stB, List.getD_eq_getElem?_getD, List.getElem?_replicate]
    split <;> simp
  | j + 1, i => by
    have ih := stB_bd hb h u j
    have e : ((j + 1 : Nat) : Int) * b = j * b + b := by push_cast; rw [Int.add_mul]; simp
    have hjb : 0 ≤ (j : Int) * b := Int.mul_nonneg (by omega) hb
    rw [stB, e]
    refine getD_set_bd (fun i => by have := ih i; omega) ?_ i
    have h1 := h (u + j)
    have h2 := ih (u + j - 1)
    split <;> omega
theorem rwB_bd {D : Nat} (hD : D ≤ 15) : ∀ (u : Nat) i, 0 ≤ (rwB D u).getD i 0 ∧ (rwB D u).getD i 0 ≤ 16 ^ u
  | 0, i => by
    rw [rwB, List.getD_eq_getElem?_getD, List.getElem?_replicate]
    split <;> simp
  | u + 1, i => by
    have ih := rwB_bd hD u
    have h0 : (0 : Int) ≤ 16 ^ u := Int.le_trans (ih 0).1 (ih 0).2
    have h1 := stB_bd h0 ih (u + 1) (D - u) i
    have h2 : ((D - u : Nat) : Int) * 16 ^ u ≤ 16 * 16 ^ u := Int.mul_le_mul_of_nonneg_right (by omega) h0
    rw [rwB, Int.pow_succ, Int.mul_comm (16 ^ u) 16]
    omega
theorem pow16C {u : Nat} (h : u ≤ 14) : (16 : Int) ^ u ≤ 72057594037927936 := by
  have : (16 : Int) ^ u ≤ 16 ^ 14 := by
    induction u with
    | zero => decide
    | succ u ih =>
      have h1 : u = 0 ∨ u = 1 ∨ u = 2 ∨ u = 3 ∨ u = 4 ∨ u = 5 ∨ u = 6 ∨ u = 7 ∨ u = 8 ∨ u = 9 ∨ u = 10 ∨ u = 11 ∨ u = 12 ∨ u = 13 := by omega
      rcases h1 with rfl | rfl | rfl | rfl | rfl | rfl | rfl | rfl | rfl | rfl | rfl | rfl | rfl | rfl <;> decide
  exact Int.le_trans this (by decide)
def onB (N i : Nat) : List Int := List.replicate i 1 ++ List.replicate (N - i) 0
theorem onB_set {N i : Nat} (h : i < N) : (onB N i).set i 1 = onB N (i + 1) := by
  unfold onB
  rw [List.set_append_right _ _ (by simp), List.replicate_succ', List.append_assoc]
  congr 1
  rw [show N - i = (N - (i + 1)) + 1 by omega, List.replicate_succ]
  simp

set_option maxRecDepth 20000 in
set_option maxHeartbeats 4000000 in
theorem implBallotNumber_any (U D : Nat) (hU : U ≤ D) (hD : D ≤ 15) (w : World) : Calls Try.prog 78 #[.int .i64 U, .int .i64 D] w fun e w' => e = .returned (.int .i64 (balV U D)) ∧ Below w.heap.size w w' := by
  have HB1 := Lib.hid (inB_true (x := U) (lo := 0) (hi := 15) (by omega) (by omega))
  have HB2 := Lib.hid (inB_true (x := D) (lo := U) (hi := 15) (by omega) (by omega))
  have u0 : IntKind.i64.wrap ((D : Int) + 1) = (D : Int) + 1 := IntWalk.i64_in _ (by omega)
  have hmk := mkI (D + 1) (by omega) w
  rw [show ((D + 1 : Nat) : Int) = (D : Int) + 1 by omega] at hmk
  have HT1 := Lib.hid (show Own (w.alloc (.cells (madeCells #[.int .i64 0] (D + 1)) 3)) 3 w.heap.size (some ⟨w.heap.size, 0, none⟩) (D + 1) (D + 1) (iv (onB (D + 1) 0)) by
    have := Own.made w 3 (.int .i64 0) (D + 1) (by unfold maxLen; omega)
    rw [iv_rep] at this
    unfold onB
    simpa using this)
  have hba := (Below.refl w.heap.size w).alloc (Nat.le_refl _) (.cells (madeCells #[.int .i64 0] (D + 1)) 3)
  go_enter Try.func78, Try.ntmps78
  go_wp2_with fail
  refine (within_any _ _ _ _).mono ?_
  rintro e w' ⟨rfl, rfl⟩
  rw [HB1.out]
  go_wp2_with fail
  refine (within_any _ _ _ _).mono ?_
  rintro e w' ⟨rfl, rfl⟩
  rw [HB2.out]
  go_wp2_with fail
  clear hmk
  go_loopw [6, 24] (fun _ i wr => ∃ j : Nat, j ≤ D + 1 ∧ i = .int .i64 j ∧ Own wr 3 w.heap.size (some ⟨w.heap.size, 0, none⟩) (D + 1) (D + 1) (iv (onB (D + 1) j)) ∧ Below w.heap.size w wr) (fun _ i _ => D + 1 - (intOf i).toNat)
  case atStart => exact ⟨0, Nat.zero_le _, rfl, HT1.out, hba⟩
  case round =>
    obtain ⟨j, hj, rfl, ho, hb⟩ := hrel
    have O := Lib.hid ho
    by_cases hlt : j < D + 1
    · obtain ⟨g, y, hA, hgB, hgs, hy, hcy, hfy⟩ := ho.ati hlt
      cases hA
      have HS := Lib.hid (onB_set hlt)
      clear ho hy
      go_wp2_with fail
      go_roundw
      case rel => exact ⟨j + 1, by omega, by go_num, by rw [← HS.out]; exact O.out.puti j 1, hb.setCell (p := ⟨w.heap.size, j, none⟩) (Nat.le_refl _) _⟩
      case measure => simp [intOf]; omega
    · have HW := Lib.hid (show onB (D + 1) j = rwB D 0 by unfold onB rwB; rw [show j = D + 1 by omega, Nat.sub_self, List.replicate_zero, List.append_nil])
      rw [HW.out] at O
      obtain ⟨w2, rfl⟩ : ∃ W, W = wr := ⟨wr, rfl⟩
      clear ho HW
      go_wp2_with fail
      go_loopw [5, 7, 8, 9] (fun rv ux _ _ wr => ∃ (t : Nat) (A1 : Option Addr) (c1 : Nat), t ≤ U ∧ ux = .int .i64 ((t : Int) + 1) ∧ rv = .slice A1 (D + 1) c1 ∧ Own wr 3 w.heap.size A1 (D + 1) c1 (iv (rwB D t)) ∧ Below w.heap.size w wr) (fun _ ux _ _ _ => U + 1 - (intOf ux).toNat)
      case atStart => exact ⟨0, _, _, Nat.zero_le _, rfl, rfl, O.out, hb⟩
      case round =>
        obtain ⟨t, A1, c1, ht, rfl, rfl, hown, hb⟩ := hrel
        have MW := Lib.hid hown
        obtain ⟨w3, rfl⟩ : ∃ W, W = wr := ⟨wr, rfl⟩
        have hs3 := hb.size
        clear hown
        by_cases hlt9 : t < U
        · have hk1 : (t : Int) + 1 ≤ (U : Int) := by omega
          have hmk := mkI (D + 1) (by omega) w3
          rw [show ((D + 1 : Nat) : Int) = (D : Int) + 1 by omega] at hmk
          have HT3 := Lib.hid (show Own (w3.alloc (.cells (madeCells #[.int .i64 0] (D + 1)) 3)) 3 w3.heap.size (some ⟨w3.heap.size, 0, none⟩) (D + 1) (D + 1) (iv (stB (rwB D t) (t + 1) 0)) by
            have := Own.made w3 3 (.int .i64 0) (D + 1) (by unfold maxLen; omega)
            rw [iv_rep] at this
            rw [stB, rwB_len]; exact this)
          have hb3 := (Below.refl w3.heap.size w3).alloc (Nat.le_refl _) (.cells (madeCells #[.int .i64 0] (D + 1)) 3)
          have HBD := Lib.hid (rwB_bd hD t)
          have HPW := Lib.hid (pow16C (u := t) (by omega))
          have HNX := Lib.hid (show rwB D (t + 1) = stB (rwB D t) (t + 1) (D - t) from rfl)
          have HRL := Lib.hid (rwB_len D t)
          obtain ⟨R, hR⟩ : ∃ R, R = rwB D t := ⟨_, rfl⟩
          rw [← hR] at HT3 HBD HNX HRL MW
          clear hR
          go_wp2_with fail
          clear hmk
          go_loopw [9] (fun dx wr => ∃ j : Nat, j ≤ D - t ∧ dx = .int .i64 ((t : Int) + 1 + j) ∧ Own wr 3 w3.heap.size (some ⟨w3.heap.size, 0, none⟩) (D + 1) (D + 1) (iv (stB R (t + 1) j)) ∧ Below w3.heap.size w3 wr) (fun dx _ => D + 1 - (intOf dx).toNat)
          case atStart => exact ⟨0, Nat.zero_le _, by go_num, HT3.out, hb3⟩
          case round =>
            obtain ⟨j, hj, rfl, ho, hbi⟩ := hrel
            obtain ⟨w4, rfl⟩ : ∃ W, W = wr := ⟨wr, rfl⟩
            have O4 := Lib.hid ho
            clear ho
            by_cases hlt : j < D - t
            · obtain ⟨d, hd⟩ : ∃ d : Nat, d = t + 1 + j := ⟨_, rfl⟩
              have hdD : d < D + 1 := by omega
              have e0 : (t : Int) + 1 + (j : Int) = (d : Int) := by omega
              obtain ⟨g1, x, hA1, -, -, hx, hcx, -⟩ := (MW.out.below hbi).ati hdD
              subst hA1
              obtain ⟨g2, y, hA2, -, -, hy, hcy, hfy⟩ := O4.out.ati hdD
              cases hA2
              have hxb := HBD.out d
              have hxd : R.getD d 0 = x := by rw [List.getD_eq_getElem?_getD, hx]; rfl
              rw [hxd] at hxb
              have hst := stB_bd (row := R) (b := 16 ^ t) (by have := HBD.out 0; omega) HBD.out (t + 1) j (d - 1)
              have i1 : (0 : Int) ≤ (d : Int) := by omega
              have i2 : (d : Int) < (D : Int) + 1 := by omega
              have i3 : (d : Int) ≤ (D : Int) := by omega
              by_cases hj0 : 0 < j
              · obtain ⟨g3, z, hA3, -, -, hz, hcz, hfz⟩ := O4.out.ati (show d - 1 < D + 1 by omega)
                cases hA3
                have hzd : (stB R (t + 1) j).getD (d - 1) 0 = z := by rw [List.getD_eq_getElem?_getD, hz]; rfl
                rw [hzd] at hst
                have hjb : (j : Int) * 16 ^ t ≤ 15 * 16 ^ t := Int.mul_le_mul_of_nonneg_right (by omega) (by omega)
                have hp := HPW.out
                have HN := Lib.hid (show ((stB R (t + 1) j).set d x).set d (x + z) = stB R (t + 1) (j + 1) by rw [List.set_set, stB, ← hd, hxd, hzd, if_pos hj0])
                have j1 : (t : Int) + 1 < (d : Int) := by omega
                have u1 : IntKind.i64.wrap (x + z) = x + z := IntWalk.i64_in _ (by omega)
                have u2 : IntKind.i64.wrap ((d : Int) - 1) = (d : Int) - 1 := IntWalk.i64_in _ (by omega)
                have i4 : (0 : Int) ≤ (d : Int) - 1 := by omega
                have i5 : (d : Int) - 1 < (D : Int) + 1 := by omega
                have i6 : ((d : Int) - 1).toNat = d - 1 := by omega
                have i7 : 1 ≤ d := by omega
                have i8 : (1 : Int) ≤ (d : Int) := by omega
                have i9 : (d : Int) < (D : Int) + 1 + 1 := by omega
                have k1 : d < D + 1 := by omega
                have k2 : d - 1 < D + 1 := by omega
                have k3 : d < D + 1 + 1 := by omega
                have c1' : (w4.setCell ⟨w3.heap.size, d, none⟩ (.int .i64 x)).cell? ⟨w3.heap.size, d, none⟩ = some (.int .i64 x) := World.cell?_setCell_same' _ _ _ (by rw [hcy]; rfl)
                have c2' : (w4.setCell ⟨w3.heap.size, d, none⟩ (.int .i64 x)).cell? ⟨w3.heap.size, d - 1, none⟩ = some (.int .i64 z) := by rw [World.cell?_setCell_other _ _ _ _ (by intro h; injection h with _ h2 _; omega)]; exact hcz
                have c3' : (w4.setCell ⟨w3.heap.size, d, none⟩ (.int .i64 x)).frozen? ⟨w3.heap.size, d, none⟩ = false := by rw [World.frozen?_setCell]; exact hfy
                have O5 := Lib.hid (O4.out.puti d x)
                have hb5 := hbi.setCell (p := ⟨w3.heap.size, d, none⟩) (Nat.le_refl _) (.int .i64 x)
                have HD := Lib.hid hd
                clear hx hy hz hxd hzd hst hjb hp hd hxb
                rw [e0]
                clear e0
                go_wp2_with fail
                obtain ⟨w5, hw5⟩ : ∃ W, W = w4.setCell ⟨w3.heap.size, d, none⟩ (.int .i64 x) := ⟨_, rfl⟩
                rw [← hw5] at c1' c2' c3' O5 hb5 ⊢
                clear hw5 hcy hfy hcz hfz hcx
                go_still_tail 13, (by kernel_rfl)
                change wpList _ _ _ _ _ w5.drew
                go_wp2_with fail
                go_roundw
                case rel => exact ⟨j + 1, by omega, by have := HD.out; go_num, by rw [← HN.out]; exact (O5.out.puti d (x + z)).drew, (hb5.setCell (p := ⟨w3.heap.size, d, none⟩) (Nat.le_refl _) _).drew⟩
                case measure => simp [intOf]; omega
              · have HN := Lib.hid (show (stB R (t + 1) j).set d x = stB R (t + 1) (j + 1) by rw [stB, ← hd, hxd, if_neg hj0, Int.add_zero])
                have j1 : ¬ (t : Int) + 1 < (d : Int) := by omega
                have HD := Lib.hid hd
                clear hx hy hxd hst hd hxb
                rw [e0]
                clear e0
                go_wp2_with fail
                go_roundw
                case rel => exact ⟨j + 1, by omega, by have := HD.out; go_num, by rw [← HN.out]; exact O4.out.puti d x, hbi.setCell (p := ⟨w3.heap.size, d, none⟩) (Nat.le_refl _) _⟩
                case measure => simp [intOf]; omega
            · have HE := Lib.hid (show rwB D (t + 1) = stB R (t + 1) j by rw [HNX.out, show j = D - t by omega])
              have hbf := hb.trans (hbi.mono hs3)
              have j9 : ¬ (t : Int) + 1 + (j : Int) ≤ (D : Int) := by omega
              go_wp2_with fail
              go_roundw
              case rel => exact ⟨t + 1, _, D + 1, by omega, by go_num, rfl, by rw [HE.out]; exact O4.out.mono hs3, hbf⟩
              case measure => simp [intOf]; omega
        · have HX := Lib.hid (show rwB D U = rwB D t by rw [show U = t by omega])
          have hk1 : ¬ (t : Int) + 1 ≤ (U : Int) := by omega
          obtain ⟨g1, x, hA1, -, -, hx, hcx, -⟩ := MW.out.ati (show D < D + 1 by omega)
          subst hA1
          have HV := Lib.hid (show balV U D = x by rw [balV, HX.out, List.getD_eq_getElem?_getD, hx]; rfl)
          clear hx
          go_wp2_with fail
          go_ret
          exact ⟨ret_int (by rw [HV.out]), hb⟩

theorem implCatalanNumber_any (n : Int) (w : World) : Calls Try.prog 14 #[.int .i64 n] w fun e w' => e = .returned (.int .i64 (catN n)) ∧ Below w.heap.size w w' := by
  rcases h : inB n 0 15 with _ | _
  · have HF := Lib.hid (show catN n = -1 by unfold catN; rw [h]; rfl)
    have HB := Lib.hid h
    clear h
    go_enter Try.func14, Try.ntmps14
    go_wp2_with fail
    refine (within_any _ _ _ _).mono ?_
    rintro e w' ⟨rfl, rfl⟩
    rw [HB.out]
    go_wp2_with fail
    go_ret
    exact ⟨ret_int (by rw [HF.out]), Below.refl _ _⟩
  · have hb := inB_iff.1 h
    obtain ⟨N, rfl⟩ := Int.eq_ofNat_of_zero_le hb.1
    have hN : N ≤ 15 := by omega
    have HF := Lib.hid (show catN (N : Int) = balV N N by unfold catN; rw [h]; rfl)
    have HB := Lib.hid h
    clear h hb
    go_enter Try.func14, Try.ntmps14
    go_wp2_with fail
    refine (within_any _ _ _ _).mono ?_
    rintro e w' ⟨rfl, rfl⟩
    rw [HB.out]
    go_wp2_with fail
    refine (implBallotNumber_any N N (Nat.le_refl _) hN _).mono ?_
    rintro e w1 ⟨rfl, hb1⟩
    go_wp2_with fail
    go_ret
    exact ⟨ret_int (by rw [HF.out]), hb1⟩

end Go.Proofs.Yteiffomekjadgaa
