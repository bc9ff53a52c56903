/- laws.total: the sum of a slice. -/
import Derived.Test.YteiffomekjadgaaInts
import Derived.Test.YteiffomekjadgaaNum
import Derived.StillTailTactics
namespace Go.Proofs.Yteiffomekjadgaa
set_option linter.unusedVariables false
open Go.RowKit

/-- The sum of the first i. -/
def smI (l : List Int) : Nat → Int
  | 0 => 0
  | i + 1 => smI l i + l.getD i 0
set_option maxHeartbeats 1000000 in
theorem total_any (A : Option Addr) (n c : Nat) (xs : List Int) (w : World) (h : Rd w A n (iv xs)) (hn : n ≤ 1000000000) (hb : ∀ i, -1000000000000 ≤ smI xs i ∧ smI xs i ≤ 1000000000000) :
    Calls Try.prog 13 #[.slice A n c] w fun e w' => e = .returned (.int .i64 (smI xs n)) ∧ w = w' := by
  have HR := Lib.hid h
  have HBD := Lib.hid hb
  clear h hb
  go_enter Try.func13, Try.ntmps13
  go_wp2_with fail
  go_loop [3, 4] (fun s ix => ∃ i : Nat, i ≤ n ∧ ix = .int .i64 i ∧ s = .int .i64 (smI xs i)) (fun _ ix => n - (intOf ix).toNat)
  case atStart => exact ⟨0, Nat.zero_le _, rfl, rfl⟩
  case round =>
    obtain ⟨i, hi, rfl, rfl⟩ := hrel
    obtain ⟨S, hS⟩ : ∃ S, S = smI xs i := ⟨_, rfl⟩
    rw [← hS]
    have HS := Lib.hid hS
    clear hS
    by_cases hlt : i < n
    · obtain ⟨bl, off, y, hA, hy, hcy⟩ := HR.out.ati hlt
      subst hA
      have hd := HBD.out (i + 1)
      rw [smI, ← HS.out, List.getD_eq_getElem?_getD, hy] at hd
      have hd' : -1000000000000 ≤ S + y ∧ S + y ≤ 1000000000000 := hd
      have HN := Lib.hid (show smI xs (i + 1) = S + y by rw [smI, ← HS.out, List.getD_eq_getElem?_getD, hy]; rfl)
      have i1 : (0 : Int) ≤ (i : Int) := by omega
      have i2 : (i : Int) < (n : Int) := by omega
      clear hy hd
      go_wp2_with fail
      go_round
      case rel => exact ⟨i + 1, by omega, by go_num, by rw [HN.out]⟩
      case measure => simp [intOf]; omega
    · obtain rfl : i = n := by omega
      go_wp2_with fail
      go_ret
      exact ⟨ret_int (by rw [HS.out]), rfl⟩

end Go.Proofs.Yteiffomekjadgaa
