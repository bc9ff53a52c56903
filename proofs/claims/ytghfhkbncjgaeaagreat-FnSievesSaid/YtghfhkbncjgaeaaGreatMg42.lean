/- Merged: Trim IsPoly Upd. -/
import Derived.Test.YtghfhkbncjgaeaaGreatMg3

namespace Go.Proofs.YtghfhkbncjgaeaaGreat
open Go.RowKit

/-- How many of the first n remain. -/
def tz (xs : List Int) : Nat → Nat
  | 0 => 0
  | n + 1 => if xs.getD n 0 = 0 then tz xs n else n + 1
def trimL (xs : List Int) : List Int := xs.take (tz xs xs.length)
theorem tz_le (xs : List Int) : ∀ n, tz xs n ≤ n
  | 0 => Nat.le_refl _
  | n + 1 => by
    unfold tz
    split
    · exact Nat.le_trans (tz_le xs n) (Nat.le_succ n)
    · exact Nat.le_refl _
theorem trimL_len (xs : List Int) : (trimL xs).length = tz xs xs.length := by
  have := tz_le xs xs.length
  simp [trimL]; omega

set_option maxHeartbeats 400000 in
theorem trimmed_any (A : Option Addr) (n c : Nat) (xs : List Int) (w : World) (h : Rd w A n (iv xs)) (hn : n ≤ 1000000000) (hc : n ≤ c) (hc2 : c ≤ maxLen) (hnil : A = none → c = 0) :
    Calls Tryz.prog 87 #[.slice A n c] w fun e w' => e = .returned (.slice A (tz xs n) c) ∧ w = w' := by
  have HR := Lib.hid h
  clear h
  unfold maxLen at hc2
  go_enter Tryz.func87, Tryz.ntmps87
  go_wp2_with fail
  go_loop [3] (fun i => ∃ k : Nat, k ≤ n ∧ i = .int .i64 k ∧ Hid (tz xs k = tz xs n)) (fun i => (intOf i).toNat)
  case atStart => exact ⟨n, Nat.le_refl _, rfl, rfl⟩
  case round =>
    obtain ⟨k, hk, rfl, HT⟩ := hrel
    rcases k with _ | k
    · have HT' := Lib.hid (show 0 = tz xs n from HT.out)
      clear HT
      have n0 : (0 : Int) ≤ (n : Int) := by omega
      go_wp2_with fail
      go_ret
      exact ⟨by rw [← HT'.out]; rfl, rfl⟩
    · obtain ⟨b, off, x, rfl, hx, hcell⟩ := HR.out.ati (show k < n by omega)
      have e1 : ((k : Int) + 1 - 1) = (k : Int) := by omega
      have hg : xs.getD k 0 = x := by rw [List.getD_eq_getElem?_getD, hx]; rfl
      by_cases hx0 : x = 0
      · have HT' := Lib.hid (show tz xs k = tz xs n by rw [← HT.out, tz, if_pos (by rw [hg]; exact hx0)])
        subst hx0
        clear hx HT hg
        go_wp2_with fail
        go_round
        case rel => exact ⟨k, by omega, by go_num, HT'.out⟩
        case measure => simp [intOf]
      · have HT' := Lib.hid (show k + 1 = tz xs n by rw [← HT.out, tz, if_neg (by rw [hg]; exact hx0)])
        have hxb : (x == 0) = false := by simp; exact hx0
        clear hx HT hg hx0
        go_wp2_with fail
        go_ret
        exact ⟨by rw [← HT'.out]; rfl, rfl⟩
set_option maxHeartbeats 400000 in
theorem l14Trim_any (A : Option Addr) (n c : Nat) (xs : List Int) (w : World) (h : Rd w A n (iv xs)) (hn : n ≤ 1000000000) (hc : n ≤ c) (hc2 : c ≤ maxLen) (hnil : A = none → c = 0) :
    Calls Tryz.prog 89 #[.slice A n c] w (RetI w (trimL xs)) := by
  have HR := Lib.hid h
  have HL := Lib.hid (show xs.length = n by have := h.len; rw [iv_len] at this; exact this)
  clear h
  unfold maxLen at hc2
  go_enter Tryz.func89, Tryz.ntmps89
  go_wp2_with fail
  go_loop [3] (fun i => ∃ k : Nat, k ≤ n ∧ i = .int .i64 k ∧ Hid (tz xs k = tz xs n)) (fun i => (intOf i).toNat)
  case atStart => exact ⟨n, Nat.le_refl _, rfl, rfl⟩
  case round =>
    obtain ⟨k, hk, rfl, HT⟩ := hrel
    rcases k with _ | k
    · have HT' := Lib.hid (show 0 = tz xs n from HT.out)
      clear HT
      have n0 : (0 : Int) ≤ (n : Int) := by omega
      go_wp2_with (at_builtin; refine appAll _ rfl _ _ rfl w.heap.size (some ⟨w.heap.size, 0, none⟩) 0 0 (iv []) rfl (own_empty w) A 0 c [] rfl hnil ⟨rfl, by omega⟩ (by omega) (by simp) ?_; intro A' c' w' hown' hg' hb')
      have HO := Lib.hid hown'
      clear hown' hg'
      go_wp2_with fail
      go_ret
      exact ⟨A', 0, c', by rw [trimL_len, HL.out, ← HT'.out], rfl, by rw [show trimL xs = [] by simp [trimL, HL.out, ← HT'.out]]; exact HO.out, ((Below.refl _ _).alloc (Nat.le_refl _) _).trans hb'⟩
    · obtain ⟨b, off, x, rfl, hx, hcell⟩ := HR.out.ati (show k < n by omega)
      have e1 : ((k : Int) + 1 - 1) = (k : Int) := by omega
      have hg : xs.getD k 0 = x := by rw [List.getD_eq_getElem?_getD, hx]; rfl
      by_cases hx0 : x = 0
      · have HT' := Lib.hid (show tz xs k = tz xs n by rw [← HT.out, tz, if_pos (by rw [hg]; exact hx0)])
        subst hx0
        clear hx HT hg
        go_wp2_with fail
        go_round
        case rel => exact ⟨k, by omega, by go_num, HT'.out⟩
        case measure => simp [intOf]
      · have HT' := Lib.hid (show k + 1 = tz xs n by rw [← HT.out, tz, if_neg (by rw [hg]; exact hx0)])
        have hxb : (x == 0) = false := by simp; exact hx0
        clear hx HT hg hx0
        have hr : Rd w (some ⟨b, off, none⟩) (k + 1) (iv (xs.take (k + 1))) := by
          have h0 := HR.out
          refine ⟨by have := HL.out; rw [iv_len]; simp; omega, fun _ => ?_⟩
          obtain ⟨b1, off1, he, hc1⟩ := h0.2 (by omega)
          cases he
          refine ⟨b, off, rfl, fun j u hu => hc1 j u ?_⟩
          rw [← iv_take] at hu
          rw [List.getElem?_take] at hu
          split at hu
          · exact hu
          · cases hu
        have HR1 := Lib.hid hr
        clear hr
        go_wp2_with (at_builtin; refine appAll _ rfl _ _ rfl w.heap.size (some ⟨w.heap.size, 0, none⟩) 0 0 (iv []) rfl (own_empty w) (some ⟨b, off, none⟩) (k + 1) c (xs.take (k + 1)) rfl (by simp) (HR1.out.alloc _) (by omega) (by simp) ?_; intro A' c' w' hown' hg' hb')
        have HO := Lib.hid hown'
        clear hown' hg'
        go_wp2_with fail
        go_ret
        exact ⟨A', _, c', by rw [trimL_len, HL.out, ← HT'.out], rfl, by rw [show trimL xs = xs.take (k + 1) by simp [trimL, HL.out, ← HT'.out]]; simpa [iv] using HO.out, ((Below.refl _ _).alloc (Nat.le_refl _) _).trans hb'⟩

end Go.Proofs.YtghfhkbncjgaeaaGreat

namespace Go.Proofs.YtghfhkbncjgaeaaGreat
open Go.RowKit

def inM (x : Int) : Bool := inB x (-1000000000) 1000000000
def isPol (xs : List Int) : Bool := xs.all inM && (decide (xs.length ≤ 61) && (xs.getLastD 1 != 0))
theorem take_all {P : Int → Bool} {xs : List Int} {k : Nat} {x : Int} (h : (xs.take k).all P = true) (hx : xs[k]? = some x) (hP : P x = true) : (xs.take (k + 1)).all P = true := by
  obtain ⟨hl, hxx⟩ := List.getElem?_eq_some_iff.1 hx
  rw [List.take_succ_eq_append_getElem hl, List.all_append, h, hxx]; simp [hP]
theorem not_all {P : Int → Bool} {xs : List Int} {k : Nat} {x : Int} (hx : xs[k]? = some x) (hP : P x = false) : xs.all P = false := by
  rw [List.all_eq_false]
  exact ⟨x, List.mem_of_getElem? hx, by simp [hP]⟩
theorem all_of_take {P : Int → Bool} {xs : List Int} {n : Nat} (h : (xs.take n).all P = true) (hn : xs.length ≤ n) : xs.all P = true := by
  rwa [List.take_of_length_le hn] at h
theorem last_of {xs : List Int} {n : Nat} {x : Int} (hx : xs[n]? = some x) (hl : xs.length = n + 1) : xs.getLastD 1 = x := by
  rw [List.getLastD_eq_getLast?, List.getLast?_eq_getElem?, hl]; simp [hx]

theorem specIsPolynomial_any (A : Option Addr) (n c : Nat) (xs : List Int) (w : World) (h : Rd w A n (iv xs)) (hn : n ≤ 1000000000) :
    Calls Tryz.prog 90 #[.slice A n c] w fun e w' => e = .returned (.bool (isPol xs)) ∧ w = w' := by
  have HR := Lib.hid h
  have HL := Lib.hid (show xs.length = n by have := h.len; rw [iv_len] at this; exact this)
  clear h
  go_enter Tryz.func90, Tryz.ntmps90
  go_wp2_with fail
  go_loop [3] (fun i => ∃ k : Nat, k ≤ n ∧ i = .int .i64 k ∧ Hid ((xs.take k).all inM = true)) (fun i => n - (intOf i).toNat)
  case atStart => exact ⟨0, Nat.zero_le _, rfl, Lib.hid rfl⟩
  case round =>
    obtain ⟨k, hk, rfl, HA⟩ := hrel
    by_cases hlt : k < n
    · obtain ⟨b, off, x, rfl, hx, hc⟩ := HR.out.ati hlt
      have HX := Lib.hid hx
      clear hx
      rcases hP : inM x with _ | _
      · have HP := Lib.hid hP
        have HF := Lib.hid (show isPol xs = false by unfold isPol; rw [not_all HX.out hP]; rfl)
        clear hP
        go_wp2_with fail
        refine (l1In_any _ _ _ _).mono ?_
        rintro e w' ⟨rfl, rfl⟩
        rw [show inB x (-1000000000) 1000000000 = false from HP.out]
        go_wp2_with fail
        go_ret
        exact ⟨by rw [HF.out]; rfl, rfl⟩
      · have HP := Lib.hid hP
        clear hP
        go_wp2_with fail
        refine (l1In_any _ _ _ _).mono ?_
        rintro e w' ⟨rfl, rfl⟩
        rw [show inB x (-1000000000) 1000000000 = true from HP.out]
        go_wp2_with fail
        go_round
        case rel => exact ⟨k + 1, by omega, by go_num, Lib.hid (take_all HA.out HX.out HP.out)⟩
        case measure => simp [intOf]; omega
    · have hkn : k = n := by omega
      subst hkn
      have HF := Lib.hid (show isPol xs = (decide (k ≤ 61) && (xs.getLastD 1 != 0)) by unfold isPol; rw [all_of_take HA.out (by rw [HL.out]; omega), HL.out]; rfl)
      by_cases h61 : k ≤ 61
      · by_cases h0 : k = 0
        · subst h0
          go_wp2_with fail
          go_ret
          exact ⟨ret_bool (by rw [HF.out, List.eq_nil_of_length_eq_zero HL.out]; rfl), rfl⟩
        · obtain ⟨b, off, x, rfl, hx, hc⟩ := HR.out.ati (show k - 1 < k by omega)
          have HX := Lib.hid (last_of hx (by rw [HL.out]; omega))
          have hk0 : 0 < k := by omega
          clear hx h0
          go_wp2_with fail
          go_ret
          exact ⟨ret_bool (by rw [HF.out, HX.out]; simp [h61]; omega), rfl⟩
      · go_wp2_with fail
        go_ret
        exact ⟨ret_bool (by rw [HF.out]; simp [h61]), rfl⟩

theorem implIsPolynomial_any (A : Option Addr) (n c : Nat) (xs : List Int) (w : World) (h : Rd w A n (iv xs)) (hn : n ≤ 1000000000) :
    Calls Tryz.prog 85 #[.slice A n c] w fun e w' => e = .returned (.bool (isPol xs)) ∧ w = w' := by
  have HR := Lib.hid h
  have HL := Lib.hid (show xs.length = n by have := h.len; rw [iv_len] at this; exact this)
  clear h
  by_cases h61 : n ≤ 61
  · by_cases h0 : n = 0
    · subst h0
      have HX := Lib.hid (List.eq_nil_of_length_eq_zero HL.out)
      go_enter Tryz.func85, Tryz.ntmps85
      go_wp2_with fail
      refine wp_loop_rounds 1 ?_
      rw [rounds_succ]
      go_wp2_with fail
      go_ret
      exact ⟨ret_bool (by rw [HX.out]; rfl), rfl⟩
    · obtain ⟨b, off, x, rfl, hx, hc⟩ := HR.out.ati (show n - 1 < n by omega)
      have HX := Lib.hid (last_of hx (by rw [HL.out]; omega))
      have hk0 : 0 < n := by omega
      clear hx h0
      by_cases hx0 : x = 0
      · subst hx0
        go_enter Tryz.func85, Tryz.ntmps85
        go_wp2_with fail
        go_ret
        exact ⟨ret_bool (by unfold isPol; rw [HX.out]; simp), rfl⟩
      · have hxb : (x == 0) = false := by simpa using hx0
        have hx2 : (x != 0) = true := by simpa using hx0
        have HX2 := Lib.hid hx2
        clear hx0 hx2
        go_enter Tryz.func85, Tryz.ntmps85
        go_wp2_with fail
        go_loop [4, 24] (fun _ i => ∃ k : Nat, k ≤ n ∧ i = .int .i64 k ∧ Hid ((xs.take k).all inM = true)) (fun _ i => n - (intOf i).toNat)
        case atStart => exact ⟨0, Nat.zero_le _, rfl, Lib.hid rfl⟩
        case round =>
          obtain ⟨k, hk, rfl, HA⟩ := hrel
          by_cases hlt : k < n
          · obtain ⟨b', off', y, hA, hy, hc'⟩ := HR.out.ati hlt
            cases hA
            have HY := Lib.hid hy
            clear hy
            rcases hP : inM y with _ | _
            · have HP := Lib.hid hP
              have HF := Lib.hid (show isPol xs = false by unfold isPol; rw [not_all HY.out hP]; rfl)
              clear hP
              go_wp2_with fail
              refine (within_any _ _ _ _).mono ?_
              rintro e w' ⟨rfl, rfl⟩
              rw [show inB y (-1000000000) 1000000000 = false from HP.out]
              go_wp2_with fail
              go_ret
              exact ⟨ret_bool (by rw [HF.out]), rfl⟩
            · have HP := Lib.hid hP
              clear hP
              go_wp2_with fail
              refine (within_any _ _ _ _).mono ?_
              rintro e w' ⟨rfl, rfl⟩
              rw [show inB y (-1000000000) 1000000000 = true from HP.out]
              go_wp2_with fail
              go_round
              case rel => exact ⟨k + 1, by omega, by go_num, Lib.hid (take_all HA.out HY.out HP.out)⟩
              case measure => simp [intOf]; omega
          · have hkn : k = n := by omega
            subst hkn
            have HF := Lib.hid (show isPol xs = true by unfold isPol; rw [all_of_take HA.out (by rw [HL.out]; omega), HX.out, HX2.out, HL.out]; simp [h61])
            go_wp2_with fail
            go_ret
            exact ⟨ret_bool (by rw [HF.out]), rfl⟩
  · have HF := Lib.hid (show isPol xs = false by unfold isPol; rw [HL.out]; simp [h61])
    go_enter Tryz.func85, Tryz.ntmps85
    go_wp2_with fail
    go_ret
    exact ⟨ret_bool (by rw [HF.out]), rfl⟩

end Go.Proofs.YtghfhkbncjgaeaaGreat

namespace Go.Proofs.YtghfhkbncjgaeaaGreat
open Go.RowKit

/-- To the places from off on, the values f 0, f 1, .. are added, k of them. -/
def upd (xs : List Int) (f : Nat → Int) (off : Nat) : Nat → List Int
  | 0 => xs
  | k + 1 => (upd xs f off k).set (off + k) ((upd xs f off k).getD (off + k) 0 + f k)
theorem upd_len (xs : List Int) (f : Nat → Int) (off : Nat) : ∀ k : Nat, (upd xs f off k).length = xs.length
  | 0 => rfl
  | k + 1 => by rw [upd, List.length_set, upd_len xs f off k]
theorem getD_set (ys : List Int) (i j : Nat) (x : Int) (hi : i < ys.length) : (ys.set i x).getD j 0 = if i = j then x else ys.getD j 0 := by
  rw [List.getD_eq_getElem?_getD, List.getElem?_set]
  split
  · next h => subst h; rfl
  · rw [List.getD_eq_getElem?_getD]
theorem upd_get (xs : List Int) (f : Nat → Int) (off : Nat) : ∀ (k j : Nat), off + k ≤ xs.length → (upd xs f off k).getD j 0 = xs.getD j 0 + if off ≤ j ∧ j < off + k then f (j - off) else 0
  | 0, j, _ => by rw [if_neg (by omega)]; simp [upd]
  | k + 1, j, h => by
    rw [upd, getD_set _ _ _ _ (by rw [upd_len]; omega), upd_get xs f off k _ (by omega), upd_get xs f off k _ (by omega)]
    by_cases hj : off + k = j
    · subst hj
      rw [if_pos rfl, if_neg (by omega), if_pos (by omega)]
      simp
    · rw [if_neg hj]
      by_cases h1 : off ≤ j ∧ j < off + k
      · rw [if_pos h1, if_pos (by omega)]
      · rw [if_neg h1, if_neg (by omega)]
theorem isPol_iff {xs : List Int} (h : isPol xs = true) : xs.length ≤ 61 ∧ ∀ x ∈ xs, -1000000000 ≤ x ∧ x ≤ 1000000000 := by
  unfold isPol at h
  simp only [Bool.and_eq_true, decide_eq_true_eq, List.all_eq_true] at h
  exact ⟨h.2.1, fun x hx => inB_iff.1 (h.1 x hx)⟩
theorem isPol_getD {xs : List Int} (h : isPol xs = true) (k : Nat) : -1000000000 ≤ xs.getD k 0 ∧ xs.getD k 0 ≤ 1000000000 := by
  rw [List.getD_eq_getElem?_getD]
  rcases hg : xs[k]? with _ | x
  · simp
  · exact (isPol_iff h).2 x (List.mem_of_getElem? hg)
theorem getD_ofQ {xs : List Int} {k : Nat} {x : Int} (h : xs[k]? = some x) : xs.getD k 0 = x := by rw [List.getD_eq_getElem?_getD, h]; rfl
theorem getD_rep (m j : Nat) : (List.replicate m (0 : Int)).getD j 0 = 0 := by
  rw [List.getD_eq_getElem?_getD, List.getElem?_replicate]
  split <;> rfl
theorem set_same_len {ys : List Int} {k n : Nat} (h : ys.length = n) (hk : k < n) : ∃ y, ys[k]? = some y := ⟨_, List.getElem?_eq_getElem (by omega)⟩

/-- The sum of two polynomials, not yet trimmed. -/
def sumL (xs ys : List Int) : List Int := upd (upd (List.replicate (max xs.length ys.length) 0) (fun k => xs.getD k 0) 0 xs.length) (fun k => ys.getD k 0) 0 ys.length
def addP (xs ys : List Int) : List Int × Bool := if isPol xs && isPol ys && isPol (trimL (sumL xs ys)) then (trimL (sumL xs ys), true) else ([], false)
theorem sumL_len (xs ys : List Int) : (sumL xs ys).length = max xs.length ys.length := by simp [sumL, upd_len]

theorem addP_len (xs ys : List Int) : (addP xs ys).1.length ≤ 1048576 := by
  unfold addP
  split
  · next h =>
    simp only [Bool.and_eq_true] at h
    have := (isPol_iff h.2).1
    show (trimL (sumL xs ys)).length ≤ 1048576
    omega
  · simp
/-- make([]int, max(n1, n2)), the greater one known. -/
theorem mkMax (n1 n2 : Nat) (h1 : n1 ≤ 1000000) (h2 : n2 ≤ 1000000) (w : World) : ∃ m : Nat, n1 ≤ m ∧ n2 ≤ m ∧ max n1 n2 = m ∧
    (((n1 : Int) < (n2 : Int) ∧ (Instr.makeSlice 28 (.int .i64 (n2 : Int)) (.int .i64 (n2 : Int))).run Tryz.prog w = .ok (.slice (some ⟨w.heap.size, 0, none⟩) m m) (w.alloc (.cells (madeCells #[.int .i64 0] m) 3))) ∨
     (¬ (n1 : Int) < (n2 : Int) ∧ (Instr.makeSlice 28 (.int .i64 (n1 : Int)) (.int .i64 (n1 : Int))).run Tryz.prog w = .ok (.slice (some ⟨w.heap.size, 0, none⟩) m m) (w.alloc (.cells (madeCells #[.int .i64 0] m) 3)))) := by
  rcases Nat.lt_or_ge n1 n2 with h | h
  · exact ⟨n2, by omega, by omega, by omega, Or.inl ⟨by omega, mkI n2 (by omega) w⟩⟩
  · exact ⟨n1, by omega, by omega, by omega, Or.inr ⟨by omega, mkI n1 (by omega) w⟩⟩

end Go.Proofs.YtghfhkbncjgaeaaGreat
