/- OrderOfTurn: how many turns lead back, by the family's name. -/
import Derived.Test.YtnfhdcakmlmnaaaProg
import Derived.Test.YtnfhdcakmlmnaaaNum
namespace Go.Proofs.Ytnfhdcakmlmnaaa
open Go.RowKit

def nmM : List UInt8 := [109, 97, 116, 99, 104, 105, 110, 103, 115]
def nmP : List UInt8 := [112, 97, 114, 116, 105, 116, 105, 111, 110, 115]
def nmT : List UInt8 := [116, 114, 105, 97, 110, 103, 117, 108, 97, 116, 105, 111, 110, 115]
def ordT (l : List UInt8) (n : Int) : Int :=
  if inB n 1 5 then (if l == nmM then 2 * n else if l == nmP then n else if l == nmT then n + 2 else -1) else -1


theorem specOrderOfTurn_any (l : List UInt8) (n : Int) (w : World) :
    Calls Try.prog 11 #[.string (bs l), .int .i64 n] w fun e w' => e = .returned (.int .i64 (ordT l n)) ∧ w = w' := by
  rcases hin : inB n 1 5 with _ | _
  · have HB := Lib.hid hin
    have hf := Lib.hid (show ordT l n = -1 by simp [ordT, hin])
    clear hin
    go_enter Try.func11, Try.ntmps11
    go_wp2_with (go_at_call 28; refine (l1In_any _ _ _ _).mono ?_; rintro e w' ⟨rfl, rfl⟩; rw [HB.out])
    go_ret
    exact ⟨by rw [hf.out]; rfl, rfl⟩
  · have HB := Lib.hid hin
    obtain ⟨h1, h2⟩ := inB_iff.1 hin
    have hf := Lib.hid (show ordT l n = (if l == nmM then 2 * n else if l == nmP then n else if l == nmT then n + 2 else -1) by simp [ordT, hin])
    clear hin
    go_enter Try.func11, Try.ntmps11
    go_wp2_with (go_at_call 28; refine (l1In_any _ _ _ _).mono ?_; rintro e w' ⟨rfl, rfl⟩; rw [HB.out])
    all_goals (go_ret; refine ⟨?_, rfl⟩; rw [hf.out]; simp [nmM, nmP, nmT, *])

theorem implOrderOfTurn_any (l : List UInt8) (n : Int) (w : World) :
    Calls Try.prog 12 #[.string (bs l), .int .i64 n] w fun e w' => e = .returned (.int .i64 (ordT l n)) ∧ w = w' := by
  rcases hin : inB n 1 5 with _ | _
  · have HB := Lib.hid hin
    have hf := Lib.hid (show ordT l n = -1 by simp [ordT, hin])
    clear hin
    go_enter Try.func12, Try.ntmps12
    go_wp2_with (go_at_call 29; refine (within_any _ _ _ _).mono ?_; rintro e w' ⟨rfl, rfl⟩; rw [HB.out])
    go_ret
    exact ⟨by rw [hf.out]; rfl, rfl⟩
  · have HB := Lib.hid hin
    obtain ⟨h1, h2⟩ := inB_iff.1 hin
    have hf := Lib.hid (show ordT l n = (if l == nmM then 2 * n else if l == nmP then n else if l == nmT then n + 2 else -1) by simp [ordT, hin])
    clear hin
    go_enter Try.func12, Try.ntmps12
    go_wp2_with (go_at_call 29; refine (within_any _ _ _ _).mono ?_; rintro e w' ⟨rfl, rfl⟩; rw [HB.out])
    all_goals (go_ret; refine ⟨?_, rfl⟩; rw [hf.out]; simp [nmM, nmP, nmT, *])

end Go.Proofs.Ytnfhdcakmlmnaaa
