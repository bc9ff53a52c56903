/- spec.RightComb and impl.RightComb: for 0 to 8 the right comb's text and true, else the empty text and false. -/
import Derived.Test.YtiebaoglcdbopaaTree
namespace Go.Proofs.Ytiebaoglcdbopaa
open Go.RowKit Go.Deep

/-- The text of the right comb of k nodes. -/
def rcT : Nat → List UInt8
  | 0 => [46]
  | k + 1 => [40, 46] ++ rcT k ++ [41]
theorem rcT_len (k : Nat) : (rcT k).length = 3 * k + 1 := by
  induction k with
  | zero => rfl
  | succ k ih => simp [rcT, ih]; omega

theorem specRightComb_bad (n : Int) (h : n < 0 ∨ 8 < n) (w : World) :
    Calls Try.prog 53 #[.int .i64 n] w fun e w' => e = .returned (.tuple #[.string (bs []), .bool false]) ∧ w = w' := by
  have hb := inB_false h
  have hB := Lib.hid hb
  clear hb
  rcases h with h | h
  all_goals
    go_enter Try.func53, Try.ntmps53
    go_wp2_with fail
    refine wp_loop_rounds 1 ?_
    rw [rounds_succ]
    go_wp2_with (go_at_call 64; refine (l1In_any _ _ _ _).mono ?_; rintro e w' ⟨rfl, rfl⟩; rw [hB.out])
    go_ret2
    exact ⟨rfl, rfl⟩

theorem specRightComb_good (m : Nat) (h : m ≤ 8) (w : World) :
    Calls Try.prog 53 #[.int .i64 m] w fun e w' => e = .returned (.tuple #[.string (bs (rcT m)), .bool true]) ∧ w = w' := by
  have hB := Lib.hid (inB_true (x := m) (lo := 0) (hi := 8) (by omega) (by omega))
  go_enter Try.func53, Try.ntmps53
  go_wp2_with fail
  go_loop [4, 5] (fun t i => ∃ k : Nat, k ≤ m ∧ i = .int .i64 k ∧ t = .string (bs (rcT k))) (fun _ i => m - (intOf i).toNat)
  case atStart => exact ⟨0, Nat.zero_le _, rfl, rfl⟩
  case round =>
    obtain ⟨k, hk, rfl, rfl⟩ := hrel
    have hl := rcT_len k
    have hs : (bs (rcT k)).size ≤ 25 := by rw [size_bs]; omega
    have hs2 : (rcT k).length ≤ 25 := hs
    clear hl
    by_cases hlt : k < m
    · go_wp2_with (go_at_call 64; refine (l1In_any _ _ _ _).mono ?_; rintro e w' ⟨rfl, rfl⟩; rw [hB.out])
      go_round
      case rel => exact ⟨k + 1, by omega, by go_num, by rw [bs_lit, bs_lit, bs_append, bs_append]; rfl⟩
      case measure => simp [intOf]; omega
    · have hkm : k = m := by omega
      subst hkm
      go_wp2_with (go_at_call 64; refine (l1In_any _ _ _ _).mono ?_; rintro e w' ⟨rfl, rfl⟩; rw [hB.out])
      go_ret2
      exact ⟨rfl, rfl⟩

theorem implRightComb_bad (n : Int) (h : n < 0 ∨ 8 < n) (w : World) :
    Calls Try.prog 52 #[.int .i64 n] w fun e w' => e = .returned (.tuple #[.string (bs []), .bool false]) ∧ w = w' := by
  have hB := Lib.hid (inB_false h)
  clear h
  go_enter Try.func52, Try.ntmps52
  go_wp2_with (go_at_call 72; refine (within_any _ _ _ _).mono ?_; rintro e w' ⟨rfl, rfl⟩; rw [hB.out])
  go_ret2
  exact ⟨rfl, rfl⟩

theorem implRightComb_good (m : Nat) (h : m ≤ 8) (w : World) :
    Calls Try.prog 52 #[.int .i64 m] w fun e w' => e = .returned (.tuple #[.string (bs (rcT m)), .bool true]) ∧ Below w.heap.size w w' := by
  have hB := Lib.hid (inB_true (x := m) (lo := 0) (hi := 8) (by omega) (by omega))
  go_enter Try.func52, Try.ntmps52
  go_wp2_with (go_at_call 72; refine (within_any _ _ _ _).mono ?_; rintro e w' ⟨rfl, rfl⟩; rw [hB.out])
  go_loopw [4, 9] (fun t i wr => ∃ (k : Nat) (T : Tr), k ≤ m ∧ i = .int .i64 k ∧ t = T.ptr ∧ TIn wr T ∧ nodes T = k ∧ tx T = rcT k ∧ Below w.heap.size w wr) (fun _ i _ => m - (intOf i).toNat)
  case atStart => exact ⟨0, .nil, Nat.zero_le _, rfl, rfl, trivial, rfl, rfl, Below.refl _ _⟩
  case round =>
    obtain ⟨k, T, hk, rfl, rfl, hin, hn, htx, hbl⟩ := hrel
    obtain ⟨p, hp⟩ := ptr_ptr T
    rw [hp]
    have HP := Lib.hid hp
    have HN := Lib.hid hn
    have HT := Lib.hid htx
    have HIN := Lib.hid hin
    clear hp hn htx hin
    by_cases hlt : k < m
    · go_wp2_with fail
      go_roundw
      case rel =>
        refine ⟨k + 1, .node wr.heap.size 0 () .nil T, by omega, by go_num, rfl, ?_, by simp [nodes, HN.out], by simp [tx, rcT, HT.out], hbl.alloc hbl.size _⟩
        rw [← HP.out]
        exact TIn.new (l := .nil) trivial HIN.out _
      case measure => simp [intOf]; omega
    · have hkm : k = m := by omega
      subst hkm
      go_wp2_with (go_at_call 80; rw [← HP.out]; refine (text_any _ _ HIN.out (by rw [HN.out]; omega)).mono ?_; rintro e w' ⟨rfl, n, rfl⟩)
      go_ret2
      exact ⟨by rw [HT.out]; rfl, below_drewN hbl _⟩

end Go.Proofs.Ytiebaoglcdbopaa
