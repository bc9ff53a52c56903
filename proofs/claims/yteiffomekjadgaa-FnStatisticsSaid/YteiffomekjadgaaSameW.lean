/- laws.big, laws.sameWords, laws.sameInts; a slice of bytes that came in. -/
import Derived.Test.YteiffomekjadgaaDraw
import Derived.Test.YteiffomekjadgaaStrs
namespace Go.Proofs.Yteiffomekjadgaa
set_option linter.unusedVariables false
open Go.RowKit

theorem IsRow.len_leu {w : World} {a : Option Addr} {len cap : Nat} {zs : List Int} (h : IsRow .u8 w a len cap zs) : len ≤ maxLen := by
  rcases h with ⟨_, rfl, _, _⟩ | ⟨x, rfl, hl, hm, hz, hc, _⟩
  · exact Nat.zero_le _
  · omega
theorem IsRow.rdu {w : World} {a : Option Addr} {len cap : Nat} {zs : List Int} (h : IsRow .u8 w a len cap zs) : Rd w a len (uv (zs.take len)) ∧ ∀ z ∈ zs.take len, 0 ≤ z ∧ z ≤ 255 := by
  rcases h with ⟨rfl, rfl, rfl, rfl⟩ | ⟨x, rfl, hl, hm, hz, hc, hwf⟩
  · exact ⟨Rd.none_, fun z hz => by simp at hz⟩
  · refine ⟨⟨by simp [uv]; omega, fun hn => ?_⟩, fun z hz => ?_⟩
    · obtain ⟨b, off, spot⟩ := x
      have h0 := hc 0 (by omega)
      have hspot : spot = none := by simpa [Addr.add] using World.cell?_spot h0
      subst hspot
      refine ⟨b, off, rfl, fun j u hu => ?_⟩
      unfold uv at hu
      rw [List.getElem?_map, Option.map_eq_some_iff] at hu
      obtain ⟨z, hz', rfl⟩ := hu
      have hj := (List.getElem?_eq_some_iff.1 hz').1
      rw [List.length_take] at hj
      rw [List.getElem?_take_of_lt (by omega)] at hz'
      have := hc j (by omega)
      rw [show (⟨b, off, none⟩ : Addr).add j = ⟨b, off + j, none⟩ from by unfold Addr.add; split <;> simp_all] at this
      rw [this, List.getD_eq_getElem?_getD, hz']; rfl
    · have h1 := hwf z (List.mem_of_mem_take hz)
      have h2 : (decide ((0 : Int) ≤ z) && decide (z ≤ 255)) = true := h1
      simpa using h2

theorem big_yes (A : Option Addr) (n c : Nat) (w : World) (h : 1048576 < n) : Calls Try.prog 5 #[.slice A n c] w fun e w' => e = .returned (.bool true) ∧ w = w' := by
  have q1 : (1048576 : Int) < (n : Int) := by omega
  go_enter Try.func5, Try.ntmps5
  go_wp2_with fail
  go_ret
  exact ⟨ret_bool (by simp), rfl⟩
theorem big_no (A : Option Addr) (n c : Nat) (w : World) (h : n ≤ 1048576) : Calls Try.prog 5 #[.slice A n c] w fun e w' => e = .returned (.bool false) ∧ w = w' := by
  have q1 : ¬ (1048576 : Int) < (n : Int) := by omega
  go_enter Try.func5, Try.ntmps5
  go_wp2_with fail
  go_ret
  exact ⟨ret_bool (by simp), rfl⟩

set_option maxHeartbeats 1000000 in
theorem sameWords_eq (A B : Option Addr) (n c d : Nat) (xs : List (List UInt8)) (w : World) (h : Rd w A n (sv xs)) (h' : Rd w B n (sv xs)) (hn : n ≤ 1000000000) :
    Calls Try.prog 26 #[.slice A n c, .slice B n d] w fun e w' => e = .returned (.bool true) ∧ Below w.heap.size w w' := by
  have HA := Lib.hid h
  have HB := Lib.hid h'
  clear h h'
  have e0 : ((n : Int) != (n : Int)) = false := by simp
  go_enter Try.func26, Try.ntmps26
  go_wp2_with fail
  go_loopw [5] (fun ix wr => ∃ i d : Nat, i ≤ n ∧ ix = .int .i64 i ∧ wr = w.drewN d) (fun ix _ => n - (intOf ix).toNat)
  case atStart => exact ⟨0, 0, Nat.zero_le _, rfl, rfl⟩
  case round =>
    obtain ⟨i, d, hi, rfl, rfl⟩ := hrel
    by_cases hlt : i < n
    · obtain ⟨b1, o1, x, rfl, hx, hcx⟩ := HA.out.ats hlt
      obtain ⟨b2, o2, y, rfl, hy, hcy⟩ := HB.out.ats hlt
      rw [hx] at hy
      injection hy with hy
      subst hy
      have i1 : (0 : Int) ≤ (i : Int) := by omega
      have i2 : (i : Int) < (n : Int) := by omega
      clear hx
      go_wp2_with fail
      go_quiet (fail)
      go_wp2_with fail
      go_roundw
      case rel => exact ⟨i + 1, _, by omega, by go_num, rfl⟩
      case measure => simp [intOf]; omega
    · go_wp2_with fail
      go_ret
      exact ⟨rfl, below_of_drewN ⟨d, rfl⟩⟩

end Go.Proofs.Yteiffomekjadgaa
