/- LeftComb of both sides. -/
import Derived.Test.YtiebaoglcdbopaaMirS
import Derived.Test.YtiebaoglcdbopaaMirI
import Derived.Test.YtiebaoglcdbopaaRightComb
namespace Go.Proofs.Ytiebaoglcdbopaa
open Go.RowKit Go.Deep

def rcTr : Nat → Tr
  | 0 => .nil
  | k + 1 => .node 0 0 () .nil (rcTr k)
theorem rcTr_tx : ∀ k, rcT k = tx (rcTr k)
  | 0 => rfl
  | k + 1 => by rw [rcT, rcTr_tx k]; simp [rcTr, tx]
theorem rcTr_nodes : ∀ k, nodes (rcTr k) = k
  | 0 => rfl
  | k + 1 => by simp [rcTr, nodes, rcTr_nodes k]
def lcB (n : Int) : List UInt8 × Bool := if 0 ≤ n ∧ n ≤ 8 then (tx (mir (rcTr n.toNat)), true) else ([], false)

theorem specLeftComb_any (n : Int) (w : World) :
    Calls Try.prog 55 #[.int .i64 n] w fun e w' => e = .returned (.tuple #[.string (bs (lcB n).1), .bool (lcB n).2]) ∧ ∃ m, w' = w.drewN m := by
  by_cases h : 0 ≤ n ∧ n ≤ 8
  · obtain ⟨m, rfl⟩ := Int.eq_ofNat_of_zero_le h.1
    have hm : m ≤ 8 := by omega
    have HF := Lib.hid (show lcB (m : Int) = (tx (mir (rcTr m)), true) by rw [lcB, if_pos h, Int.toNat_natCast])
    go_enter Try.func55, Try.ntmps55
    go_wp2_with fail
    refine (specRightComb_good m hm w).mono ?_
    rintro e w' ⟨rfl, rfl⟩
    rw [rcTr_tx]
    go_wp2_with fail
    refine (l6Mirror_any (rcTr m) w (by rw [rcTr_nodes]; omega)).mono ?_
    rintro e w' ⟨rfl, k, rfl⟩
    go_wp2_with fail
    go_ret2
    exact ⟨by rw [HF.out]; rfl, k, rfl⟩
  · have HF := Lib.hid (show lcB n = ([], false) by rw [lcB, if_neg h])
    have HC := Lib.hid (specRightComb_bad n (by omega) w)
    clear h
    go_enter Try.func55, Try.ntmps55
    go_wp2_with fail
    refine HC.out.mono ?_
    rintro e w' ⟨rfl, rfl⟩
    go_wp2_with fail
    go_ret2
    exact ⟨by rw [HF.out]; rfl, 0, rfl⟩
theorem implLeftComb_any (n : Int) (w : World) :
    Calls Try.prog 54 #[.int .i64 n] w fun e w' => e = .returned (.tuple #[.string (bs (lcB n).1), .bool (lcB n).2]) ∧ Below w.heap.size w w' := by
  by_cases h : 0 ≤ n ∧ n ≤ 8
  · obtain ⟨m, rfl⟩ := Int.eq_ofNat_of_zero_le h.1
    have hm : m ≤ 8 := by omega
    have hn := rcTr_nodes m
    have hl := tx_len (rcTr m)
    have HF := Lib.hid (show lcB (m : Int) = mirB (tx (rcTr m)) by rw [mirB_tx (by omega), lcB, if_pos h, Int.toNat_natCast])
    have HM := Lib.hid (fun w => implMirrorBinary_any (tx (rcTr m)) w (by omega))
    clear hn hl h
    go_enter Try.func54, Try.ntmps54
    go_wp2_with fail
    refine (implRightComb_good m hm w).mono ?_
    rintro e w1 ⟨rfl, hb⟩
    rw [rcTr_tx]
    go_wp2_with fail
    refine (HM.out w1).mono ?_
    rintro e w2 ⟨rfl, hb2⟩
    go_wp2_with fail
    go_ret2
    exact ⟨by rw [HF.out]; rfl, hb.trans (hb2.mono hb.size)⟩
  · have HF := Lib.hid (show lcB n = ([], false) by rw [lcB, if_neg h])
    have HC := Lib.hid (implRightComb_bad n (by omega) w)
    clear h
    go_enter Try.func54, Try.ntmps54
    go_wp2_with fail
    refine HC.out.mono ?_
    rintro e w' ⟨rfl, rfl⟩
    go_wp2_with fail
    go_ret2
    exact ⟨by rw [HF.out]; rfl, Below.refl _ _⟩

end Go.Proofs.Ytiebaoglcdbopaa
