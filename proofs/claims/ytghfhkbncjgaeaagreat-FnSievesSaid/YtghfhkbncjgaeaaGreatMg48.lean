/- Merged: DivSpec NumberPoly CatL. -/
import Derived.Test.YtghfhkbncjgaeaaGreatMg46
import Derived.StillTailTactics
import Derived.Test.YtghfhkbncjgaeaaGreatMg3
import Derived.Test.YtghfhkbncjgaeaaGreatMg45
import Derived.Test.YtghfhkbncjgaeaaGreatMg47

namespace Go.Proofs.YtghfhkbncjgaeaaGreat
open Go.RowKit


end Go.Proofs.YtghfhkbncjgaeaaGreat

namespace Go.Proofs.YtghfhkbncjgaeaaGreat
open Go.RowKit

def numP (n : Int) : List Int × Bool := if inB n 0 20 then (List.replicate n.toNat 1, true) else ([], false)

theorem l14Number_any (m : Nat) (h : m ≤ 1000) (w : World) :
    Calls Tryz.prog 59 #[.int .i64 m] w fun e w' => ∃ A c, e = .returned (.slice A m c) ∧ Own w' 3 w.heap.size A m c (iv (List.replicate m 1)) ∧ Below w.heap.size w w' := by
  go_enter Tryz.func59, Tryz.ntmps59
  go_wp2_with fail
  go_loopw [3, 4] (fun t i wr => ∃ (k : Nat) (A : Option Addr) (c : Nat), k ≤ m ∧ i = .int .i64 k ∧ t = .slice A k c ∧ Own wr 3 w.heap.size A k c (iv (List.replicate k 1)) ∧ Below w.heap.size w wr) (fun _ i _ => m - (intOf i).toNat)
  case atStart => exact ⟨0, _, _, Nat.zero_le _, rfl, rfl, own_empty w, (Below.refl _ _).alloc (Nat.le_refl _) _⟩
  case round =>
    obtain ⟨k, A, c, hk, rfl, rfl, hown, hb⟩ := hrel
    have HO := Lib.hid hown
    clear hown
    by_cases hlt : k < m
    · have hbs := hb.size
      go_wp2_with (at_builtin; refine appI _ rfl _ _ rfl w.heap.size A k c _ rfl (HO.out.alloc _) wr.heap.size 1 rfl (by simp) (by omega) hbs ?_; intro A' c' w' hown' hg' hb')
      have HO' := Lib.hid hown'
      clear hown'
      go_wp2_with fail
      go_roundw
      case rel => exact ⟨k + 1, A', c', by omega, by go_num, rfl, by rw [List.replicate_succ', iv_snoc]; exact HO'.out, (hb.alloc hb.size _).trans hb'⟩
      case measure => simp [intOf]; omega
    · have hkm : k = m := by omega
      subst hkm
      go_wp2_with fail
      go_ret
      exact ⟨A, c, rfl, HO.out, hb⟩


theorem implNumberPolynomial_any (n : Int) (w : World) : Calls Tryz.prog 56 #[.int .i64 n] w (RetIB w (numP n).1 (numP n).2) := by
  unfold RetIB
  rcases hin : inB n 0 20 with _ | _
  · have hf : numP n = ([], false) := by simp [numP, hin]
    rw [hf]
    have HB := Lib.hid hin
    clear hin hf
    go_enter Tryz.func56, Tryz.ntmps56
    go_wp2_with (go_at_call 33; refine (within_any _ _ _ _).mono ?_; rintro e w' ⟨rfl, rfl⟩; rw [HB.out])
    go_ret2
    exact ⟨_, 0, 0, rfl, rfl, own_empty w, (Below.refl _ _).alloc (Nat.le_refl _) _⟩
  · have hf : numP n = (List.replicate n.toNat 1, true) := by simp [numP, hin]
    rw [hf]
    obtain ⟨h1, h2⟩ := inB_iff.1 hin
    obtain ⟨m, rfl⟩ := Int.eq_ofNat_of_zero_le h1
    have HB := Lib.hid hin
    clear hin hf
    go_enter Tryz.func56, Tryz.ntmps56
    go_wp2_with (go_at_call 33; refine (within_any _ _ _ _).mono ?_; rintro e w' ⟨rfl, rfl⟩; rw [HB.out])
    go_loopw [4, 11] (fun t i wr => ∃ (k : Nat) (A : Option Addr) (c : Nat), k ≤ m ∧ i = .int .i64 k ∧ t = .slice A k c ∧ Own wr 3 w.heap.size A k c (iv (List.replicate k 1)) ∧ Below w.heap.size w wr) (fun _ i _ => m - (intOf i).toNat)
    case atStart => exact ⟨0, _, _, Nat.zero_le _, rfl, rfl, own_empty w, (Below.refl _ _).alloc (Nat.le_refl _) _⟩
    case round =>
      obtain ⟨k, A, c, hk, rfl, rfl, hown, hb⟩ := hrel
      have HO := Lib.hid hown
      clear hown
      by_cases hlt : k < m
      · have hbs := hb.size
        go_wp2_with (at_builtin; refine appI _ rfl _ _ rfl w.heap.size A k c _ rfl (HO.out.alloc _) wr.heap.size 1 rfl (by simp) (by omega) hbs ?_; intro A' c' w' hown' hg' hb')
        have HO' := Lib.hid hown'
        clear hown'
        go_wp2_with fail
        go_roundw
        case rel => exact ⟨k + 1, A', c', by omega, by go_num, rfl, by rw [List.replicate_succ', iv_snoc]; exact HO'.out, (hb.alloc hb.size _).trans hb'⟩
        case measure => simp [intOf]; omega
      · have hkm : k = m := by omega
        subst hkm
        go_wp2_with fail
        go_ret2
        exact ⟨A, k, c, by simp, rfl, HO.out, hb⟩

end Go.Proofs.YtghfhkbncjgaeaaGreat

namespace Go.Proofs.YtghfhkbncjgaeaaGreat
open Go.RowKit

def catA (N : Nat) : List Int := gau (2 * N) N
def catB (N : Nat) : List Int := List.replicate (N + 1) 1
def catOk (N : Nat) : Bool := isFac (catA N) && isDiv (catB N) && (match divQ (catA N) (catB N) with
  | some (q, r) => isPol (trimL q) && isPol (trimL r)
  | none => false)
theorem catOk_7 : ∀ N : Nat, N < 8 → catOk N = true := by decide +kernel
theorem cat_div {N : Nat} (h : N < 8) : isFac (catA N) = true ∧ isDiv (catB N) = true ∧ ∃ q r, divQ (catA N) (catB N) = some (q, r) ∧ divP (catA N) (catB N) = (trimL q, trimL r, true) := by
  have h0 := catOk_7 N h
  unfold catOk at h0
  simp only [Bool.and_eq_true] at h0
  obtain ⟨⟨h1, h2⟩, h3⟩ := h0
  refine ⟨h1, h2, ?_⟩
  rcases hd : divQ (catA N) (catB N) with _ | ⟨q, r⟩
  · rw [hd] at h3; cases h3
  · rw [hd] at h3
    refine ⟨q, r, rfl, ?_⟩
    unfold divP
    rw [h1, h2, hd]
    show (if (isPol (trimL q) && isPol (trimL r)) = true then _ else _) = _
    rw [if_pos h3]
def catP (n : Int) : List Int × Bool := if inB n 0 7 then ((divP (catA n.toNat) (catB n.toNat)).1, true) else ([], false)
theorem catP_len (n : Int) : (catP n).1.length ≤ 1048576 := by
  unfold catP
  split
  · exact (divP_len _ _).1
  · simp

end Go.Proofs.YtghfhkbncjgaeaaGreat
