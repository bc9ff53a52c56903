/- NumberPolynomial: n ones for 0 to 20, else none and false. -/
import Derived.Test.YtlpabdpaolmpfaaNum
import Derived.Test.YtlpabdpaolmpfaaInts
namespace Go.Proofs.Ytlpabdpaolmpfaa
open Go.RowKit

def numP (n : Int) : List Int × Bool := if inB n 0 20 then (List.replicate n.toNat 1, true) else ([], false)

theorem l14Number_any (m : Nat) (h : m ≤ 1000) (w : World) :
    Calls Try.prog 57 #[.int .i64 m] w fun e w' => ∃ A c, e = .returned (.slice A m c) ∧ Own w' 3 w.heap.size A m c (iv (List.replicate m 1)) ∧ Below w.heap.size w w' := by
  go_enter Try.func57, Try.ntmps57
  go_wp2_with fail
  go_loopw [3, 4] (fun t i wr => ∃ (k : Nat) (A : Option Addr) (c : Nat), k ≤ m ∧ i = .int .i64 k ∧ t = .slice A k c ∧ Own wr 3 w.heap.size A k c (iv (List.replicate k 1)) ∧ Below w.heap.size w wr) (fun _ i _ => m - (intOf i).toNat)
  case atStart => exact ⟨0, _, _, Nat.zero_le _, rfl, rfl, own_empty w, (Below.refl _ _).alloc (Nat.le_refl _) _⟩
  case round =>
    obtain ⟨k, A, c, hk, rfl, rfl, hown, hb⟩ := hrel
    have HO := Lib.hid hown
    clear hown
    by_cases hlt : k < m
    · have hbs := hb.size
      go_wp2_with (at_builtin; refine appI _ rfl _ _ rfl w.heap.size A k c _ rfl (HO.out.alloc _) wr.heap.size 1 rfl (by simp) (by omega) hbs ?_; intro A' c' w' hown' hg' hb')
      have HO' := Lib.hid hown'
      clear hown'
      go_wp2_with fail
      go_roundw
      case rel => exact ⟨k + 1, A', c', by omega, by go_num, rfl, by rw [List.replicate_succ', iv_snoc]; exact HO'.out, (hb.alloc hb.size _).trans hb'⟩
      case measure => simp [intOf]; omega
    · have hkm : k = m := by omega
      subst hkm
      go_wp2_with fail
      go_ret
      exact ⟨A, c, rfl, HO.out, hb⟩


theorem implNumberPolynomial_any (n : Int) (w : World) : Calls Try.prog 58 #[.int .i64 n] w (RetIB w (numP n).1 (numP n).2) := by
  unfold RetIB
  rcases hin : inB n 0 20 with _ | _
  · have hf : numP n = ([], false) := by simp [numP, hin]
    rw [hf]
    have HB := Lib.hid hin
    clear hin hf
    go_enter Try.func58, Try.ntmps58
    go_wp2_with (go_at_call 40; refine (within_any _ _ _ _).mono ?_; rintro e w' ⟨rfl, rfl⟩; rw [HB.out])
    go_ret2
    exact ⟨_, 0, 0, rfl, rfl, own_empty w, (Below.refl _ _).alloc (Nat.le_refl _) _⟩
  · have hf : numP n = (List.replicate n.toNat 1, true) := by simp [numP, hin]
    rw [hf]
    obtain ⟨h1, h2⟩ := inB_iff.1 hin
    obtain ⟨m, rfl⟩ := Int.eq_ofNat_of_zero_le h1
    have HB := Lib.hid hin
    clear hin hf
    go_enter Try.func58, Try.ntmps58
    go_wp2_with (go_at_call 40; refine (within_any _ _ _ _).mono ?_; rintro e w' ⟨rfl, rfl⟩; rw [HB.out])
    go_loopw [4, 11] (fun t i wr => ∃ (k : Nat) (A : Option Addr) (c : Nat), k ≤ m ∧ i = .int .i64 k ∧ t = .slice A k c ∧ Own wr 3 w.heap.size A k c (iv (List.replicate k 1)) ∧ Below w.heap.size w wr) (fun _ i _ => m - (intOf i).toNat)
    case atStart => exact ⟨0, _, _, Nat.zero_le _, rfl, rfl, own_empty w, (Below.refl _ _).alloc (Nat.le_refl _) _⟩
    case round =>
      obtain ⟨k, A, c, hk, rfl, rfl, hown, hb⟩ := hrel
      have HO := Lib.hid hown
      clear hown
      by_cases hlt : k < m
      · have hbs := hb.size
        go_wp2_with (at_builtin; refine appI _ rfl _ _ rfl w.heap.size A k c _ rfl (HO.out.alloc _) wr.heap.size 1 rfl (by simp) (by omega) hbs ?_; intro A' c' w' hown' hg' hb')
        have HO' := Lib.hid hown'
        clear hown'
        go_wp2_with fail
        go_roundw
        case rel => exact ⟨k + 1, A', c', by omega, by go_num, rfl, by rw [List.replicate_succ', iv_snoc]; exact HO'.out, (hb.alloc hb.size _).trans hb'⟩
        case measure => simp [intOf]; omega
      · have hkm : k = m := by omega
        subst hkm
        go_wp2_with fail
        go_ret2
        exact ⟨A, k, c, by simp, rfl, HO.out, hb⟩

end Go.Proofs.Ytlpabdpaolmpfaa
