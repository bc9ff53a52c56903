/- laws.sameLists over two tables of the same rows. -/
import Derived.Test.YteiffomekjadgaaNum
import Derived.Test.YteiffomekjadgaaSlice
import Derived.Test.YteiffomekjadgaaRows2
import Derived.BigQuiet
import Derived.Deep.QuietTactic
import Derived.StillTailTactics
namespace Go.Proofs.Yteiffomekjadgaa
set_option linter.unusedVariables false
open Go.RowKit

theorem quietW {P : Program} {f : FuncId} {args : Array Value} {w : World} {j k : Nat} {v : Value} (c : ∀ W : World, W = w.drewN (j + k) → Calls P f args W fun e w' => e = .returned v ∧ ∃ q, w' = W.drewN q) :
    Calls P f args (w.drewN (j + k)) fun e w'' => e = .returned v ∧ ∃ m, w'' = w.drewN (j + m) :=
  (c _ rfl).mono fun _ _ h => ⟨h.1, by obtain ⟨q, hq⟩ := h.2; exact ⟨k + q, by rw [hq, World.drewN_drewN, Nat.add_assoc]⟩⟩
set_option maxHeartbeats 1000000 in
theorem sameInts_q (A B : Option Addr) (n c d : Nat) (xs : List Int) (w : World) (h : Rd w A n (iv xs)) (h' : Rd w B n (iv xs)) (hn : n ≤ 1000000000) :
    Calls Try.prog 12 #[.slice A n c, .slice B n d] w fun e w' => e = .returned (.bool true) ∧ ∃ k, w' = w.drewN k := by
  have HA := Lib.hid h
  have HB := Lib.hid h'
  clear h h'
  have e0 : ((n : Int) != (n : Int)) = false := by simp
  go_enter Try.func12, Try.ntmps12
  go_wp2_with fail
  go_loopw [5] (fun ix wr => ∃ i d : Nat, i ≤ n ∧ ix = .int .i64 i ∧ wr = w.drewN d) (fun ix _ => n - (intOf ix).toNat)
  case atStart => exact ⟨0, 0, Nat.zero_le _, rfl, rfl⟩
  case round =>
    obtain ⟨i, d, hi, rfl, rfl⟩ := hrel
    by_cases hlt : i < n
    · obtain ⟨b1, o1, x, rfl, hx, hcx⟩ := HA.out.ati hlt
      obtain ⟨b2, o2, y, rfl, hy, hcy⟩ := HB.out.ati hlt
      rw [hx] at hy
      injection hy with hy
      subst hy
      have i1 : (0 : Int) ≤ (i : Int) := by omega
      have i2 : (i : Int) < (n : Int) := by omega
      have e1 : (x != x) = false := by simp
      clear hx
      go_wp2_with fail
      go_quiet (fail)
      go_wp2_with fail
      go_roundw
      case rel => exact ⟨i + 1, _, by omega, by go_num, rfl⟩
      case measure => simp [intOf]; omega
    · go_wp2_with fail
      go_ret
      exact ⟨rfl, d, rfl⟩
set_option maxHeartbeats 2000000 in
theorem sameLists_eq (A B : Option Addr) (n c d lo lo' : Nat) (vs us : List Value) (R : List (List Int)) (w : World) (h : O2 w lo A n c vs R) (h' : O2 w lo' B n d us R) (hn : n ≤ 1000000000) (hr : ∀ r ∈ R, r.length ≤ 1000000000) :
    Calls Try.prog 21 #[.slice A n c, .slice B n d] w fun e w' => e = .returned (.bool true) ∧ ∃ k, w' = w.drewN k := by
  have hnR := h.n_eq
  have HA := Lib.hid h
  have HB := Lib.hid h'
  have HL := Lib.hid hr
  have HN := Lib.hid hnR
  clear h h' hr hnR
  have e0 : ((n : Int) != (n : Int)) = false := by simp
  go_enter Try.func21, Try.ntmps21
  go_wp2_with fail
  go_loopw [5] (fun ix wr => ∃ i d : Nat, i ≤ n ∧ ix = .int .i64 i ∧ wr = w.drewN d) (fun ix _ => n - (intOf ix).toNat)
  case atStart => exact ⟨0, 0, Nat.zero_le _, rfl, rfl⟩
  case round =>
    obtain ⟨i, k, hi, rfl, rfl⟩ := hrel
    by_cases hlt : i < n
    · obtain ⟨r, hri⟩ : ∃ r, R[i]? = some r := ⟨_, List.getElem?_eq_getElem (by have := HN.out; omega)⟩
      have hrl := HL.out r (List.mem_of_getElem? hri)
      obtain ⟨g0, Ai, ci, rfl, _, _, _, hci, _, hoi⟩ := HA.out.head hri
      obtain ⟨g1, Aj, cj, rfl, _, _, _, hcj, _, hoj⟩ := HB.out.head hri
      obtain ⟨m, hm⟩ : ∃ m, m = r.length := ⟨_, rfl⟩
      rw [← hm] at hrl hci hcj hoi hoj
      have HOI := Lib.hid hoi
      have HOJ := Lib.hid hoj
      have i1 : (0 : Int) ≤ (i : Int) := by omega
      have i2 : (i : Int) < (n : Int) := by omega
      clear hri hoi hoj hm
      go_wp2_with fail
      go_quiet ((go_at_call 12; exact quietW fun W hW => sameInts_q _ _ _ _ _ r W (by rw [hW]; exact HOI.out.rd.drewN _) (by rw [hW]; exact HOJ.out.rd.drewN _) hrl))
      go_wp2_with fail
      go_roundw
      case rel => exact ⟨i + 1, _, by omega, by go_num, rfl⟩
      case measure => simp [intOf]; omega
    · go_wp2_with fail
      go_ret
      exact ⟨rfl, k, rfl⟩

end Go.Proofs.Yteiffomekjadgaa
