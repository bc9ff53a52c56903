/- equalInts and l13Same: whether two slices of ints hold the same. -/
import Derived.Test.YteiffomekjadgaaInts
namespace Go.Proofs.Yteiffomekjadgaa
open Go.RowKit

theorem getDx {xs : List Int} {k : Nat} {x : Int} (h : xs[k]? = some x) : xs.getD k 0 = x := by rw [List.getD_eq_getElem?_getD, h]; rfl
theorem same_no {xs ys : List Int} {k : Nat} {x y : Int} (hx : xs[k]? = some x) (hy : ys[k]? = some y) (h : x ≠ y) : decide (xs = ys) = false := by
  rw [decide_eq_false_iff_not]
  rintro rfl
  rw [hx] at hy
  exact h (by injection hy)
theorem same_yes {xs ys : List Int} {n : Nat} (h1 : xs.length = n) (h2 : ys.length = n) (h : xs.take n = ys.take n) : decide (xs = ys) = true := by
  rw [decide_eq_true_iff]
  rw [List.take_of_length_le (by omega), List.take_of_length_le (by omega)] at h
  exact h
theorem same_step {xs ys : List Int} {k : Nat} {x : Int} (hx : xs[k]? = some x) (hy : ys[k]? = some x) (h : xs.take k = ys.take k) : xs.take (k + 1) = ys.take (k + 1) := by
  obtain ⟨l1, e1⟩ := List.getElem?_eq_some_iff.1 hx
  obtain ⟨l2, e2⟩ := List.getElem?_eq_some_iff.1 hy
  rw [List.take_succ_eq_append_getElem l1, List.take_succ_eq_append_getElem l2, h, e1, e2]

set_option maxHeartbeats 400000 in
theorem l13Same_any (A B : Option Addr) (n m c d : Nat) (xs ys : List Int) (w : World) (h : Rd w A n (iv xs)) (h' : Rd w B m (iv ys)) (hn : n ≤ 1000000000) (hm : m ≤ 1000000000) :
    Calls Try.prog 81 #[.slice A n c, .slice B m d] w fun e w' => e = .returned (.bool (decide (xs = ys))) ∧ ∃ k, w' = w.drewN k := by
  have hl1 : xs.length = n := by have := h.len; rw [iv_len] at this; exact this
  have hl2 : ys.length = m := by have := h'.len; rw [iv_len] at this; exact this
  by_cases hnm : n = m
  · subst hnm
    have HR := Lib.hid h
    have HR' := Lib.hid h'
    have HL1 := Lib.hid hl1
    have HL2 := Lib.hid hl2
    clear h h' hl1 hl2
    go_enter Try.func81, Try.ntmps81
    go_wp2_with fail
    go_loopw [5] (fun i wr => ∃ k m : Nat, k ≤ n ∧ i = .int .i64 k ∧ wr = w.drewN m ∧ Hid (xs.take k = ys.take k)) (fun i _ => n - (intOf i).toNat)
    case atStart => exact ⟨0, 0, Nat.zero_le _, rfl, rfl, Lib.hid rfl⟩
    case round =>
      obtain ⟨k, m, hk, rfl, rfl, HT⟩ := hrel
      by_cases hlt : k < n
      · obtain ⟨b, off, x, hA, hx, hc⟩ := HR.out.ati hlt
        obtain ⟨b', off', y, hB, hy, hc'⟩ := HR'.out.ati hlt
        cases hA
        cases hB
        have HX := Lib.hid hx
        have HY := Lib.hid hy
        have hk0 : (0 : Int) ≤ (k : Int) := by omega
        have hk1 : (k : Int) < (n : Int) := by omega
        clear hx hy
        by_cases hxy : x = y
        · subst hxy
          go_wp2_with fail
          go_quiet (fail)
          go_wp2_with fail
          go_roundw
          case rel => exact ⟨k + 1, _, by omega, by go_num, rfl, Lib.hid (same_step HX.out HY.out HT.out)⟩
          case measure => simp [intOf]; omega
        · have HF := Lib.hid (same_no HX.out HY.out hxy)
          have e1 : (x == y) = false := by rw [beq_eq_false_iff_ne]; exact hxy
          have e2 : (x != y) = true := by rw [bne, e1]; rfl
          clear hxy
          go_wp2_with fail
          go_quiet (fail)
          go_wp2_with fail
          go_ret
          exact ⟨ret_bool (by rw [HF.out]), m + nq, by rw [World.drewN_drewN]⟩
      · have hkn : k = n := by omega
        have HF := Lib.hid (same_yes HL1.out HL2.out (by have := HT.out; rw [hkn] at this; exact this))
        clear hkn
        go_wp2_with fail
        go_ret
        exact ⟨ret_bool (by rw [HF.out]), _, rfl⟩
  · have HF := Lib.hid (show decide (xs = ys) = false by rw [decide_eq_false_iff_not]; rintro rfl; exact hnm (hl1.symm.trans hl2))
    have e1 : ((n : Int) == (m : Int)) = false := by rw [beq_eq_false_iff_ne]; omega
    have e2 : ((n : Int) != (m : Int)) = true := by rw [bne, e1]; rfl
    clear h h' hl1 hl2 hnm
    go_enter Try.func81, Try.ntmps81
    go_wp2_with fail
    go_ret
    exact ⟨ret_bool (by rw [HF.out]), 0, rfl⟩

set_option maxHeartbeats 400000 in
theorem equalInts_any (A B : Option Addr) (n m c d : Nat) (xs ys : List Int) (w : World) (h : Rd w A n (iv xs)) (h' : Rd w B m (iv ys)) (hn : n ≤ 1000000000) (hm : m ≤ 1000000000) :
    Calls Try.prog 79 #[.slice A n c, .slice B m d] w fun e w' => e = .returned (.bool (decide (xs = ys))) ∧ ∃ k, w' = w.drewN k := by
  have hl1 : xs.length = n := by have := h.len; rw [iv_len] at this; exact this
  have hl2 : ys.length = m := by have := h'.len; rw [iv_len] at this; exact this
  by_cases hnm : n = m
  · subst hnm
    have HR := Lib.hid h
    have HR' := Lib.hid h'
    have HL1 := Lib.hid hl1
    have HL2 := Lib.hid hl2
    clear h h' hl1 hl2
    go_enter Try.func79, Try.ntmps79
    go_wp2_with fail
    go_loopw [5, 13] (fun _ i wr => ∃ k m : Nat, k ≤ n ∧ i = .int .i64 k ∧ wr = w.drewN m ∧ Hid (xs.take k = ys.take k)) (fun _ i _ => n - (intOf i).toNat)
    case atStart => exact ⟨0, 0, Nat.zero_le _, rfl, rfl, Lib.hid rfl⟩
    case round =>
      obtain ⟨k, m, hk, rfl, rfl, HT⟩ := hrel
      by_cases hlt : k < n
      · obtain ⟨b, off, x, hA, hx, hc⟩ := HR.out.ati hlt
        obtain ⟨b', off', y, hB, hy, hc'⟩ := HR'.out.ati hlt
        cases hA
        cases hB
        have HX := Lib.hid hx
        have HY := Lib.hid hy
        have hk0 : (0 : Int) ≤ (k : Int) := by omega
        have hk1 : (k : Int) < (n : Int) := by omega
        clear hx hy
        by_cases hxy : x = y
        · subst hxy
          go_wp2_with fail
          go_quiet (fail)
          go_wp2_with fail
          go_roundw
          case rel => exact ⟨k + 1, _, by omega, by go_num, rfl, Lib.hid (same_step HX.out HY.out HT.out)⟩
          case measure => simp [intOf]; omega
        · have HF := Lib.hid (same_no HX.out HY.out hxy)
          have e1 : (x == y) = false := by rw [beq_eq_false_iff_ne]; exact hxy
          have e2 : (x != y) = true := by rw [bne, e1]; rfl
          clear hxy
          go_wp2_with fail
          go_quiet (fail)
          go_wp2_with fail
          go_ret
          exact ⟨ret_bool (by rw [HF.out]), m + nq, by rw [World.drewN_drewN]⟩
      · have hkn : k = n := by omega
        have HF := Lib.hid (same_yes HL1.out HL2.out (by have := HT.out; rw [hkn] at this; exact this))
        clear hkn
        go_wp2_with fail
        go_ret
        exact ⟨ret_bool (by rw [HF.out]), _, rfl⟩
  · have HF := Lib.hid (show decide (xs = ys) = false by rw [decide_eq_false_iff_not]; rintro rfl; exact hnm (hl1.symm.trans hl2))
    have e1 : ((n : Int) == (m : Int)) = false := by rw [beq_eq_false_iff_ne]; omega
    have e2 : ((n : Int) != (m : Int)) = true := by rw [bne, e1]; rfl
    clear h h' hl1 hl2 hnm
    go_enter Try.func79, Try.ntmps79
    go_wp2_with fail
    go_ret
    exact ⟨ret_bool (by rw [HF.out]), 0, rfl⟩

end Go.Proofs.Yteiffomekjadgaa
