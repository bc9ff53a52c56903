/- FormatInt of both sides: a number in decimal. -/
import Derived.Test.YtlpabdpaolmpfaaInts
import Derived.Test.YtlpabdpaolmpfaaNum
namespace Go.Proofs.Ytlpabdpaolmpfaa
open Go.RowKit

/-- The digits, the last one first; f is fuel. -/
def lsd : Nat → Nat → List UInt8
  | 0, _ => []
  | f + 1, m => if m = 0 then [] else b1 (48 + ((m % 10 : Nat) : Int)) ++ lsd f (m / 10)
def fmtI (x : Int) : List UInt8 := if x = 0 then [48] else if x < 0 then 45 :: (lsd x.natAbs x.natAbs).reverse else (lsd x.natAbs x.natAbs).reverse
theorem lsd_0 (f : Nat) : lsd f 0 = [] := by cases f <;> simp [lsd]
theorem lsd_len : ∀ (f m k : Nat), m < 10 ^ k → (lsd f m).length ≤ k
  | 0, _, _, _ => Nat.zero_le _
  | f + 1, m, 0, h => by obtain rfl : m = 0 := by omega
                         simp [lsd]
  | f + 1, m, k + 1, h => by
    unfold lsd
    split
    · simp
    · have := lsd_len f (m / 10) k (by rw [Nat.pow_succ] at h; omega)
      rw [List.length_append]
      have e : (b1 (48 + ((m % 10 : Nat) : Int))).length = 1 := rfl
      omega
theorem fmtI_len {x : Int} (h : -1000000000 ≤ x ∧ x ≤ 1000000000) : (fmtI x).length ≤ 12 := by
  have := lsd_len x.natAbs x.natAbs 10 (by omega)
  unfold fmtI
  split
  · simp
  · split
    · simp; omega
    · simp; omega
theorem fmtI_ne (x : Int) : fmtI x ≠ [] := by
  unfold fmtI
  split
  · simp
  · split
    · simp
    · next h1 h2 =>
      obtain ⟨f, hf⟩ : ∃ f, x.natAbs = f + 1 := ⟨x.natAbs - 1, by omega⟩
      rw [hf, lsd, if_neg (by omega)]
      simp [b1]
theorem fmtI_pos {m : Nat} (h : 0 < m) : fmtI (m : Int) = (lsd m m).reverse := by
  unfold fmtI
  rw [if_neg (by omega), if_neg (by omega), show ((m : Int)).natAbs = m by omega]
theorem fmtI_neg {m : Nat} (h : 0 < m) : fmtI (-(m : Int)) = 45 :: (lsd m m).reverse := by
  unfold fmtI
  rw [if_neg (by omega), if_pos (by omega), show (-(m : Int)).natAbs = m by omega]

set_option maxHeartbeats 1000000 in
theorem specFormatInt_any (x : Int) (hx : -1000000000 ≤ x ∧ x ≤ 1000000000) (w : World) :
    Calls Try.prog 47 #[.int .i64 x] w fun e w' => e = .returned (.string (bs (fmtI x))) ∧ Below w.heap.size w w' := by
  by_cases h0 : x = 0
  · subst h0
    go_enter Try.func47, Try.ntmps47
    go_wp2_with fail
    go_ret
    exact ⟨rfl, Below.refl _ _⟩
  by_cases hneg : x < 0
  · obtain ⟨m, rfl, hm⟩ : ∃ m : Nat, x = -(m : Int) ∧ 0 < m := ⟨x.natAbs, by omega, by omega⟩
    have HL := Lib.hid (lsd_len m m 10 (by omega))
    have HF := Lib.hid (fmtI_neg hm)
    clear h0
    go_enter Try.func47, Try.ntmps47
    go_wp2_with fail
    go_loopw [0, 3, 5] (fun i t _ wr => ∃ (f k : Nat) (out : List UInt8), k ≤ f ∧ k ≤ m ∧ i = .int .i64 (-(k : Int)) ∧ t = .string (bs out) ∧ Hid ((lsd f k).reverse ++ out = (lsd m m).reverse) ∧ Below w.heap.size w wr) (fun i _ _ _ => (intOf i).natAbs)
    case atStart => exact ⟨m, m, [], Nat.le_refl _, Nat.le_refl _, rfl, rfl, Lib.hid (List.append_nil _), Below.refl _ _⟩
    case round =>
      obtain ⟨f, k, out, hkf, hkm, rfl, rfl, HD, hb⟩ := hrel
      have hol : out.length ≤ 10 := by
        have h1 := congrArg List.length HD.out
        have h2 := HL.out
        rw [List.length_append, List.length_reverse, List.length_reverse] at h1
        omega
      have hsz : (bs out).size ≤ 10 := by rw [size_bs]; exact hol
      by_cases hk : k = 0
      · subst hk
        have HE := Lib.hid (show out = (lsd m m).reverse by have := HD.out; rw [lsd_0] at this; simpa using this)
        have hmz : ¬ (-(m : Int) = 0) := by omega
        have hmn : -(m : Int) < 0 := by omega
        clear hkf hkm
        go_wp2_with fail
        go_ret
        exact ⟨by rw [HF.out, HE.out, bs_lit, bs_append]; rfl, hb⟩
      · have hk' : 0 < k := by omega
        obtain ⟨f, rfl⟩ : ∃ f', f = f' + 1 := ⟨f - 1, by omega⟩
        by_cases hz : k % 10 = 0
        · have hz1 : (k : Int) % 10 = 0 := by omega
          have hcv := run_cv1 (P := Try.prog) wr 51 5 9 Try.underlying51 Try.underlying5 Try.underlying9 (48) (by omega) (by omega)
          have hs1 : (bs (b1 (48))).size ≤ 1 := Nat.le_refl _
          have HN := Lib.hid (show (lsd f (k / 10)).reverse ++ (b1 (48) ++ out) = (lsd m m).reverse by
            rw [← HD.out, lsd, if_neg hk, List.reverse_append, List.append_assoc]
            rw [show (48 : Int) + ((k % 10 : Nat) : Int) = 48 by omega]; rfl)
          clear hz
          go_wp2_with fail
          go_roundw
          case rel => exact ⟨f, k / 10, _, by omega, by omega, by go_num, rfl, HN, hb.alloc hb.size _⟩
          case measure => simp [intOf]; omega
        · have hz1 : 0 < (k : Int) % 10 := by omega
          have hz2 : (k : Int) % 10 ≤ 9 := by omega
          have hcv := run_cv1 (P := Try.prog) wr 51 5 9 Try.underlying51 Try.underlying5 Try.underlying9 (48 + (k : Int) % 10) (by omega) (by omega)
          have hs1 : (bs (b1 (48 + (k : Int) % 10))).size ≤ 1 := Nat.le_refl _
          have HN := Lib.hid (show (lsd f (k / 10)).reverse ++ (b1 (48 + (k : Int) % 10) ++ out) = (lsd m m).reverse by
            rw [← HD.out, lsd, if_neg hk, List.reverse_append, List.append_assoc]
            rw [show (48 : Int) + ((k % 10 : Nat) : Int) = 48 + (k : Int) % 10 by omega]; rfl)
          clear hz
          go_wp2_with fail
          go_roundw
          case rel => exact ⟨f, k / 10, _, by omega, by omega, by go_num, rfl, HN, hb.alloc hb.size _⟩
          case measure => simp [intOf]; omega
  · obtain ⟨m, rfl, hm⟩ : ∃ m : Nat, x = (m : Int) ∧ 0 < m := ⟨x.natAbs, by omega, by omega⟩
    have HL := Lib.hid (lsd_len m m 10 (by omega))
    have HF := Lib.hid (fmtI_pos hm)
    clear h0
    go_enter Try.func47, Try.ntmps47
    go_wp2_with fail
    go_loopw [0, 3, 5] (fun i t _ wr => ∃ (f k : Nat) (out : List UInt8), k ≤ f ∧ k ≤ m ∧ i = .int .i64 (k : Int) ∧ t = .string (bs out) ∧ Hid ((lsd f k).reverse ++ out = (lsd m m).reverse) ∧ Below w.heap.size w wr) (fun i _ _ _ => (intOf i).natAbs)
    case atStart => exact ⟨m, m, [], Nat.le_refl _, Nat.le_refl _, rfl, rfl, Lib.hid (List.append_nil _), Below.refl _ _⟩
    case round =>
      obtain ⟨f, k, out, hkf, hkm, rfl, rfl, HD, hb⟩ := hrel
      have hol : out.length ≤ 10 := by
        have h1 := congrArg List.length HD.out
        have h2 := HL.out
        rw [List.length_append, List.length_reverse, List.length_reverse] at h1
        omega
      have hsz : (bs out).size ≤ 10 := by rw [size_bs]; exact hol
      by_cases hk : k = 0
      · subst hk
        have HE := Lib.hid (show out = (lsd m m).reverse by have := HD.out; rw [lsd_0] at this; simpa using this)
        have hmz : ¬ ((m : Int) = 0) := by omega
        have hmn : ¬ (m : Int) < 0 := by omega
        clear hkf hkm
        go_wp2_with fail
        go_ret
        exact ⟨by rw [HF.out, HE.out]; rfl, hb⟩
      · have hk' : 0 < k := by omega
        obtain ⟨f, rfl⟩ : ∃ f', f = f' + 1 := ⟨f - 1, by omega⟩
        by_cases hz : k % 10 = 0
        · have hz1 : (k : Int) % 10 = 0 := by omega
          have hcv := run_cv1 (P := Try.prog) wr 51 5 9 Try.underlying51 Try.underlying5 Try.underlying9 (48) (by omega) (by omega)
          have hs1 : (bs (b1 (48))).size ≤ 1 := Nat.le_refl _
          have HN := Lib.hid (show (lsd f (k / 10)).reverse ++ (b1 (48) ++ out) = (lsd m m).reverse by
            rw [← HD.out, lsd, if_neg hk, List.reverse_append, List.append_assoc]
            rw [show (48 : Int) + ((k % 10 : Nat) : Int) = 48 by omega]; rfl)
          clear hz
          go_wp2_with fail
          go_roundw
          case rel => exact ⟨f, k / 10, _, by omega, by omega, by go_num, rfl, HN, hb.alloc hb.size _⟩
          case measure => simp [intOf]; omega
        · have hz1 : 0 < (k : Int) % 10 := by omega
          have hz2 : (k : Int) % 10 ≤ 9 := by omega
          have hcv := run_cv1 (P := Try.prog) wr 51 5 9 Try.underlying51 Try.underlying5 Try.underlying9 (48 + (k : Int) % 10) (by omega) (by omega)
          have hs1 : (bs (b1 (48 + (k : Int) % 10))).size ≤ 1 := Nat.le_refl _
          have HN := Lib.hid (show (lsd f (k / 10)).reverse ++ (b1 (48 + (k : Int) % 10) ++ out) = (lsd m m).reverse by
            rw [← HD.out, lsd, if_neg hk, List.reverse_append, List.append_assoc]
            rw [show (48 : Int) + ((k % 10 : Nat) : Int) = 48 + (k : Int) % 10 by omega]; rfl)
          clear hz
          go_wp2_with fail
          go_roundw
          case rel => exact ⟨f, k / 10, _, by omega, by omega, by go_num, rfl, HN, hb.alloc hb.size _⟩
          case measure => simp [intOf]; omega

end Go.Proofs.Ytlpabdpaolmpfaa
