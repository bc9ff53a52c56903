/- Merged: Nonc. -/
import Derived.Test.YtghfhkbncjgaeaaGreatMg11
import Derived.Test.YtghfhkbncjgaeaaGreatMg10
import Derived.Test.YtghfhkbncjgaeaaGreatMg3

namespace Go.Proofs.YtghfhkbncjgaeaaGreat
open Go.RowKit

def Q1 (l : List Int) (n a : Nat) : Prop := ∀ a' b c d, a' < a → a' < b → b < c → c < d → d < n → crs l a' b c d = false
def Q2 (l : List Int) (n a b : Nat) : Prop := ∀ b' c d, b' < b → a < b' → b' < c → c < d → d < n → crs l a b' c d = false
def Q3 (l : List Int) (n a b c : Nat) : Prop := ∀ c' d, c' < c → b < c' → c' < d → d < n → crs l a b c' d = false
def Q4 (l : List Int) (a b c d : Nat) : Prop := ∀ d', d' < d → c < d' → crs l a b c d' = false
theorem q4_step {l : List Int} {a b c d : Nat} (h : Q4 l a b c d) (hs : crs l a b c d = false) : Q4 l a b c (d + 1) := fun d' h1 h2 => by
  rcases Nat.lt_or_ge d' d with h3 | h3
  · exact h d' h3 h2
  · obtain rfl : d' = d := by omega
    exact hs
theorem q3_step {l : List Int} {n a b c : Nat} (h : Q3 l n a b c) (hs : ∀ d, c < d → d < n → crs l a b c d = false) : Q3 l n a b (c + 1) := fun c' d h1 h2 h3 h4 => by
  rcases Nat.lt_or_ge c' c with h5 | h5
  · exact h c' d h5 h2 h3 h4
  · obtain rfl : c' = c := by omega
    exact hs d h3 h4
theorem q2_step {l : List Int} {n a b : Nat} (h : Q2 l n a b) (hs : ∀ c d, b < c → c < d → d < n → crs l a b c d = false) : Q2 l n a (b + 1) := fun b' c d h1 h2 h3 h4 h5 => by
  rcases Nat.lt_or_ge b' b with h6 | h6
  · exact h b' c d h6 h2 h3 h4 h5
  · obtain rfl : b' = b := by omega
    exact hs c d h3 h4 h5
theorem q1_step {l : List Int} {n a : Nat} (h : Q1 l n a) (hs : ∀ b c d, a < b → b < c → c < d → d < n → crs l a b c d = false) : Q1 l n (a + 1) := fun a' b c d h1 h2 h3 h4 h5 => by
  rcases Nat.lt_or_ge a' a with h6 | h6
  · exact h a' b c d h6 h2 h3 h4 h5
  · obtain rfl : a' = a := by omega
    exact hs b c d h2 h3 h4 h5
/-- A partition without crossings. -/
def quad (l : List Int) : Bool := (List.range l.length).all fun a => (List.range l.length).all fun b => (List.range l.length).all fun c => (List.range l.length).all fun d => !(decide (a < b) && decide (b < c) && decide (c < d) && crs l a b c d)
theorem quad_iff {l : List Int} : quad l = true ↔ ∀ a b c d, a < b → b < c → c < d → d < l.length → crs l a b c d = false := by
  unfold quad
  simp only [List.all_eq_true, List.mem_range, Bool.not_eq_true', Bool.and_eq_false_iff, decide_eq_false_iff_not]
  constructor
  · intro h a b c d h1 h2 h3 h4
    rcases h a (by omega) b (by omega) c (by omega) d h4 with ((h5 | h5) | h5) | h5
    · exact absurd h1 h5
    · exact absurd h2 h5
    · exact absurd h3 h5
    · exact h5
  · intro h a _ b _ c _ d h4
    by_cases h1 : a < b
    · by_cases h2 : b < c
      · by_cases h3 : c < d
        · exact Or.inr (h a b c d h1 h2 h3 h4)
        · exact Or.inl (Or.inr h3)
      · exact Or.inl (Or.inl (Or.inr h2))
    · exact Or.inl (Or.inl (Or.inl h1))
def nonc (l : List Int) : Bool := isPar l && quad l
theorem nonc_bad {l : List Int} {a b c d : Nat} (h1 : a < b) (h2 : b < c) (h3 : c < d) (h4 : d < l.length) (h : crs l a b c d = true) : nonc l = false := by
  unfold nonc
  rw [show quad l = false by
    rcases hq : quad l with _ | _
    · rfl
    · have := quad_iff.1 hq a b c d h1 h2 h3 h4; rw [h] at this; cases this]
  simp
theorem nonc_ok {l : List Int} (h : isPar l = true) (hs : ∀ a b c d, a < b → b < c → c < d → d < l.length → crs l a b c d = false) : nonc l = true := by
  unfold nonc
  rw [h, quad_iff.2 hs]
  rfl
theorem nonc_par {l : List Int} (h : nonc l = true) : isPar l = true := by
  unfold nonc at h; rw [Bool.and_eq_true] at h; exact h.1
theorem nonc_no {l : List Int} (h : isPar l = false) : nonc l = false := by unfold nonc; rw [h]; rfl

set_option maxRecDepth 20000 in
set_option maxHeartbeats 1000000 in
theorem specIsNoncrossing_any (A : Option Addr) (n c0 : Nat) (l : List Int) (w : World) (h : Rd w A n (iv l)) (hn : n ≤ 1000000000) :
    Calls Tryz.prog 115 #[.slice A n c0] w fun e w' => e = .returned (.bool (nonc l)) ∧ ∃ m, w' = w.drewN m := by
  have HR := Lib.hid h
  have HL := Lib.hid (show l.length = n by have := h.len; rw [iv_len] at this; exact this)
  clear h
  rcases hp : isPar l with _ | _
  · have HP := Lib.hid hp
    have HF := Lib.hid (nonc_no hp)
    clear hp
    go_enter Tryz.func115, Tryz.ntmps115
    go_wp2_with fail
    go_loop [3] (fun i => i = .int .i64 0) (fun _ => 0)
    case atStart => rfl
    case round =>
      obtain rfl := hrel
      by_cases h0 : 0 < n
      · have h1 : (0 : Int) < (n : Int) := by omega
        go_wp2_with fail
        refine (specIsPartition_any _ _ _ _ _ HR.out hn).mono ?_
        rintro e w' ⟨rfl, rfl⟩
        rw [HP.out]
        go_wp2_with fail
        refine (specIsPartition_any _ _ _ _ _ HR.out hn).mono ?_
        rintro e w' ⟨rfl, rfl⟩
        rw [HP.out]
        go_wp2_with fail
        go_ret
        exact ⟨ret_bool (by rw [HF.out]), 0, rfl⟩
      · have h1 : ¬ (0 : Int) < (n : Int) := by omega
        go_wp2_with fail
        refine (specIsPartition_any _ _ _ _ _ HR.out hn).mono ?_
        rintro e w' ⟨rfl, rfl⟩
        rw [HP.out]
        go_wp2_with fail
        go_ret
        exact ⟨ret_bool (by rw [HF.out]), 0, rfl⟩
  have h8 : n ≤ 8 := by have := (isPar_iff hp).1; rw [HL.out] at this; exact this
  have HP := Lib.hid hp
  clear hp
  go_enter Tryz.func115, Tryz.ntmps115
  go_wp2_with fail
  go_loopw [3, 4, 5, 6] (fun i _ _ _ wr => ∃ ka m : Nat, ka ≤ n ∧ i = .int .i64 ka ∧ wr = w.drewN m ∧ Hid (Q1 l n ka)) (fun i _ _ _ _ => n - (intOf i).toNat)
  case atStart => exact ⟨0, 0, Nat.zero_le _, rfl, rfl, fun a b c d h => by omega⟩
  case round =>
    obtain ⟨ka, ma, hka, rfl, rfl, HA⟩ := hrel
    by_cases hlta : ka < n
    · have i0 : (0 : Int) ≤ (ka : Int) := by omega
      have i1 : (ka : Int) < (n : Int) := by omega
      go_wp2_with fail
      refine (specIsPartition_any _ _ _ _ _ (HR.out.drewN _) hn).mono ?_
      rintro e w' ⟨rfl, rfl⟩
      rw [HP.out]
      go_wp2_with fail
      go_loopw [4, 5, 6] (fun i _ _ wr => ∃ kb m : Nat, kb ≤ n - (ka + 1) ∧ i = .int .i64 ((ka : Int) + 1 + kb) ∧ wr = w.drewN m ∧ Hid (Q2 l n ka (ka + 1 + kb))) (fun i _ _ _ => n - (intOf i).toNat)
      case atStart => exact ⟨0, _, Nat.zero_le _, by go_num, rfl, fun b c d h => by omega⟩
      case round =>
        obtain ⟨kb, mb, hkb, rfl, rfl, HB⟩ := hrel
        by_cases hltb : ka + 1 + kb < n
        · have i2 : (0 : Int) ≤ (ka : Int) + 1 + kb := by omega
          have i3 : (ka : Int) + 1 + kb < (n : Int) := by omega
          go_wp2_with fail
          go_loopw [5, 6] (fun i _ wr => ∃ kc m : Nat, kc ≤ n - (ka + 1 + kb + 1) ∧ i = .int .i64 ((ka : Int) + 1 + kb + 1 + kc) ∧ wr = w.drewN m ∧ Hid (Q3 l n ka (ka + 1 + kb) (ka + 1 + kb + 1 + kc))) (fun i _ _ => n - (intOf i).toNat)
          case atStart => exact ⟨0, _, Nat.zero_le _, by go_num, rfl, fun c d h => by omega⟩
          case round =>
            obtain ⟨kc, mc, hkc, rfl, rfl, HC⟩ := hrel
            by_cases hltc : ka + 1 + kb + 1 + kc < n
            · have i4 : (0 : Int) ≤ (ka : Int) + 1 + kb + 1 + kc := by omega
              have i5 : (ka : Int) + 1 + kb + 1 + kc < (n : Int) := by omega
              go_wp2_with fail
              go_loopw [6] (fun i wr => ∃ kd m : Nat, kd ≤ n - (ka + 1 + kb + 1 + kc + 1) ∧ i = .int .i64 ((ka : Int) + 1 + kb + 1 + kc + 1 + kd) ∧ wr = w.drewN m ∧ Hid (Q4 l ka (ka + 1 + kb) (ka + 1 + kb + 1 + kc) (ka + 1 + kb + 1 + kc + 1 + kd))) (fun i _ => n - (intOf i).toNat)
              case atStart => exact ⟨0, _, Nat.zero_le _, by go_num, rfl, fun d h => by omega⟩
              case round =>
                obtain ⟨kd, md, hkd, rfl, rfl, HD⟩ := hrel
                by_cases hltd : ka + 1 + kb + 1 + kc + 1 + kd < n
                · obtain ⟨bq, oq, xa, hA1, hxa, hca⟩ := HR.out.ati (show ka < n by omega)
                  obtain ⟨_, _, xb, hA2, hxb, hcb⟩ := HR.out.ati (show ka + 1 + kb < n by omega)
                  obtain ⟨_, _, xc, hA3, hxc, hcc⟩ := HR.out.ati (show ka + 1 + kb + 1 + kc < n by omega)
                  obtain ⟨_, _, xd, hA4, hxd, hcd⟩ := HR.out.ati hltd
                  subst hA1
                  cases hA2
                  cases hA3
                  cases hA4
                  have EA := Lib.hid (getD_of hxa)
                  have EB := Lib.hid (getD_of hxb)
                  have EC := Lib.hid (getD_of hxc)
                  have ED := Lib.hid (getD_of hxd)
                  have i6 : (0 : Int) ≤ (ka : Int) + 1 + kb + 1 + kc + 1 + kd := by omega
                  have i7 : (ka : Int) + 1 + kb + 1 + kc + 1 + kd < (n : Int) := by omega
                  have t2 : ((ka : Int) + 1 + kb).toNat = ka + 1 + kb := by omega
                  have t4 : ((ka : Int) + 1 + kb + 1 + kc).toNat = ka + 1 + kb + 1 + kc := by omega
                  have t6 : ((ka : Int) + 1 + kb + 1 + kc + 1 + kd).toNat = ka + 1 + kb + 1 + kc + 1 + kd := by omega
                  clear hxa hxb hxc hxd
                  by_cases e1 : xa = xc
                  · by_cases e2 : xb = xd
                    · by_cases e3 : xa = xb
                      · have HS := Lib.hid (show Q4 l ka (ka + 1 + kb) (ka + 1 + kb + 1 + kc) (ka + 1 + kb + 1 + kc + 1 + kd + 1) from q4_step HD.out (by unfold crs; rw [EA.out, EB.out, EC.out, ED.out]; simp [e3]))
                        have q1 : (xa == xc) = true := by simp [e1]
                        have q2 : (xb == xd) = true := by simp [e2]
                        have q3 : (xa != xb) = false := by simp [e3]
                        clear e1 e2 e3
                        go_wp2_with fail
                        go_quiet (fail)
                        go_wp2_with fail
                        go_roundw
                        case rel => exact ⟨kd + 1, _, by omega, by go_num, rfl, HS⟩
                        case measure => simp [intOf]; omega
                      · have HF := Lib.hid (show nonc l = false from nonc_bad (a := ka) (b := ka + 1 + kb) (c := ka + 1 + kb + 1 + kc) (d := ka + 1 + kb + 1 + kc + 1 + kd) (by omega) (by omega) (by omega) (by rw [HL.out]; omega) (by unfold crs; rw [EA.out, EB.out, EC.out, ED.out]; simp [e1, e2]; rw [← e1, ← e2]; exact e3))
                        have q1 : (xa == xc) = true := by simp [e1]
                        have q2 : (xb == xd) = true := by simp [e2]
                        have q3 : (xa != xb) = true := by simp [e3]
                        clear e1 e2 e3
                        go_wp2_with fail
                        go_quiet (fail)
                        go_wp2_with fail
                        go_ret
                        exact ⟨ret_bool (by rw [HF.out]), _, by first | rfl | (rw [World.drewN_drewN])⟩
                    · have HS := Lib.hid (show Q4 l ka (ka + 1 + kb) (ka + 1 + kb + 1 + kc) (ka + 1 + kb + 1 + kc + 1 + kd + 1) from q4_step HD.out (by unfold crs; rw [EA.out, EB.out, EC.out, ED.out]; simp [e2]))
                      have q1 : (xa == xc) = true := by simp [e1]
                      have q2 : (xb == xd) = false := by simp [e2]
                      clear e1 e2
                      go_wp2_with fail
                      go_quiet (fail)
                      go_wp2_with fail
                      go_roundw
                      case rel => exact ⟨kd + 1, _, by omega, by go_num, rfl, HS⟩
                      case measure => simp [intOf]; omega
                  · have HS := Lib.hid (show Q4 l ka (ka + 1 + kb) (ka + 1 + kb + 1 + kc) (ka + 1 + kb + 1 + kc + 1 + kd + 1) from q4_step HD.out (by unfold crs; rw [EA.out, EB.out, EC.out, ED.out]; simp [e1]))
                    have q1 : (xa == xc) = false := by simp [e1]
                    clear e1
                    go_wp2_with fail
                    go_quiet (fail)
                    go_wp2_with fail
                    go_roundw
                    case rel => exact ⟨kd + 1, _, by omega, by go_num, rfl, HS⟩
                    case measure => simp [intOf]; omega
                · have HN := Lib.hid (show Q3 l n ka (ka + 1 + kb) (ka + 1 + kb + 1 + kc + 1) from q3_step HC.out (fun d h1 h2 => HD.out d (by omega) h1))
                  go_wp2_with fail
                  go_roundw
                  case rel => exact ⟨kc + 1, _, by omega, by go_num, rfl, HN⟩
                  case measure => simp [intOf]; omega
            · have HN := Lib.hid (show Q2 l n ka (ka + 1 + kb + 1) from q2_step HB.out (fun c d h1 h2 h3 => HC.out c d (by omega) h1 h2 h3))
              go_wp2_with fail
              go_roundw
              case rel => exact ⟨kb + 1, _, by omega, by go_num, rfl, HN⟩
              case measure => simp [intOf]; omega
        · have HN := Lib.hid (show Q1 l n (ka + 1) from q1_step HA.out (fun b c d h1 h2 h3 h4 => HB.out b c d (by omega) h1 h2 h3 h4))
          go_wp2_with fail
          go_roundw
          case rel => exact ⟨ka + 1, _, by omega, by go_num, rfl, HN⟩
          case measure => simp [intOf]; omega
    · have HF := Lib.hid (show nonc l = true from nonc_ok HP.out (fun a b c d h1 h2 h3 h4 => HA.out a b c d (by rw [HL.out] at h4; omega) h1 h2 h3 (by rw [HL.out] at h4; omega)))
      go_wp2_with fail
      refine (specIsPartition_any _ _ _ _ _ (HR.out.drewN _) hn).mono ?_
      rintro e w' ⟨rfl, rfl⟩
      rw [HP.out]
      go_wp2_with fail
      go_ret
      exact ⟨ret_bool (by rw [HF.out]), _, rfl⟩


end Go.Proofs.YtghfhkbncjgaeaaGreat
