/- choose and l3Binomial: binomial numbers by two rules of products and quotients. -/
import Derived.Test.YtiebaoglcdbopaaProg
import Derived.Test.YtiebaoglcdbopaaNum
namespace Go.Proofs.Ytiebaoglcdbopaa
open Go.RowKit

def chI (n k : Int) : Nat → Int
  | 0 => 1
  | i + 1 => chI n k i * (n - k + (i + 1)) / (i + 1)
def lbI (n : Int) : Nat → Int
  | 0 => 1
  | i + 1 => lbI n i * (n - i) / (i + 1)
def p30 : Nat → Int
  | 0 => 1
  | i + 1 => p30 i * 30
theorem p30_le : ∀ i, i ≤ 7 → p30 i ≤ 21870000000 ∧ 1 ≤ p30 i
  | 0, _ => by decide
  | 1, _ => by decide
  | 2, _ => by decide
  | 3, _ => by decide
  | 4, _ => by decide
  | 5, _ => by decide
  | 6, _ => by decide
  | 7, _ => by decide
  | i + 8, h => by omega
theorem step_bd {x y c p : Int} (hx : 0 ≤ x) (hp : x ≤ p) (hy : 0 ≤ y) (hy' : y ≤ 30) (hc : 1 ≤ c) : 0 ≤ x * y ∧ x * y ≤ p * 30 ∧ 0 ≤ x * y / c ∧ x * y / c ≤ p * 30 := by
  have h1 : 0 ≤ x * y := Int.mul_nonneg hx hy
  have h2 : x * y ≤ p * 30 := Int.mul_le_mul hp hy' hy (by omega)
  have h3 : 0 ≤ x * y / c := Int.ediv_nonneg h1 (by omega)
  have h4 : x * y / c ≤ x * y := Int.ediv_le_self _ h1
  omega
theorem chI_bd {n k : Int} (h1 : k ≤ n) (h2 : n ≤ 30) : ∀ i : Nat, (i : Int) ≤ k → 0 ≤ chI n k i ∧ chI n k i ≤ p30 i
  | 0, _ => by simp [chI, p30]
  | i + 1, h => by
    obtain ⟨a, b⟩ := chI_bd h1 h2 i (by omega)
    have := step_bd (c := (i : Int) + 1) a b (show 0 ≤ n - k + ((i : Int) + 1) by omega) (by omega) (by omega)
    simp only [chI, p30]
    exact ⟨this.2.2.1, this.2.2.2⟩
theorem lbI_bd {n : Int} (h2 : n ≤ 30) : ∀ i : Nat, (i : Int) ≤ n → 0 ≤ lbI n i ∧ lbI n i ≤ p30 i
  | 0, _ => by simp [lbI, p30]
  | i + 1, h => by
    obtain ⟨a, b⟩ := lbI_bd h2 i (by omega)
    have := step_bd (c := (i : Int) + 1) a b (show 0 ≤ n - (i : Int) by omega) (by omega) (by omega)
    simp only [lbI, p30]
    exact ⟨this.2.2.1, this.2.2.2⟩

theorem choose_any (n : Int) (m : Nat) (h1 : (m : Int) ≤ n) (h2 : n ≤ 30) (h3 : m ≤ 7) (w : World) :
    Calls Try.prog 75 #[.int .i64 n, .int .i64 m] w fun e w' => e = .returned (.int .i64 (chI n m m)) ∧ w = w' := by
  go_enter Try.func75, Try.ntmps75
  go_wp2_with fail
  go_loop [5, 6] (fun t i => ∃ k : Nat, k ≤ m ∧ i = .int .i64 ((k : Int) + 1) ∧ t = .int .i64 (chI n m k)) (fun _ i => m + 1 - (intOf i).toNat)
  case atStart => exact ⟨0, by omega, by simp, rfl⟩
  case round =>
    obtain ⟨k, hk, rfl, rfl⟩ := hrel
    by_cases hlt : k < m
    · obtain ⟨b1, b2⟩ := chI_bd h1 h2 k (by omega)
      obtain ⟨b3, b4⟩ := p30_le k (by omega)
      obtain ⟨x, hx⟩ : ∃ x, x = chI n m k := ⟨_, rfl⟩
      rw [← hx] at b1 b2 ⊢
      have HX := Lib.hid hx
      clear hx
      obtain ⟨q1, q2, q3, q4⟩ := step_bd (c := (k : Int) + 1) b1 b2 (show 0 ≤ n - m + ((k : Int) + 1) by omega) (by omega) (by omega)
      go_wp2_with fail
      go_round
      case rel => exact ⟨k + 1, by omega, by go_num, by simp only [chI]; rw [← HX.out]⟩
      case measure => simp [intOf]; omega
    · have hkm : k = m := by omega
      subst hkm
      go_wp2_with fail
      go_ret
      exact ⟨rfl, rfl⟩

theorem l3Binomial_any (n : Int) (m : Nat) (h1 : (m : Int) ≤ n) (h2 : n ≤ 30) (h3 : m ≤ 7) (w : World) :
    Calls Try.prog 77 #[.int .i64 n, .int .i64 m] w fun e w' => e = .returned (.int .i64 (lbI n m)) ∧ w = w' := by
  go_enter Try.func77, Try.ntmps77
  go_wp2_with fail
  go_loop [5, 6] (fun t i => ∃ k : Nat, k ≤ m ∧ i = .int .i64 k ∧ t = .int .i64 (lbI n k)) (fun _ i => m - (intOf i).toNat)
  case atStart => exact ⟨0, by omega, rfl, rfl⟩
  case round =>
    obtain ⟨k, hk, rfl, rfl⟩ := hrel
    by_cases hlt : k < m
    · obtain ⟨b1, b2⟩ := lbI_bd h2 k (by omega)
      obtain ⟨b3, b4⟩ := p30_le k (by omega)
      obtain ⟨x, hx⟩ : ∃ x, x = lbI n k := ⟨_, rfl⟩
      rw [← hx] at b1 b2 ⊢
      have HX := Lib.hid hx
      clear hx
      obtain ⟨q1, q2, q3, q4⟩ := step_bd (c := (k : Int) + 1) b1 b2 (show 0 ≤ n - (k : Int) by omega) (by omega) (by omega)
      go_wp2_with fail
      go_round
      case rel => exact ⟨k + 1, by omega, by go_num, by simp only [lbI]; rw [← HX.out]⟩
      case measure => simp [intOf]; omega
    · have hkm : k = m := by omega
      subst hkm
      go_wp2_with fail
      go_ret
      exact ⟨rfl, rfl⟩

end Go.Proofs.Ytiebaoglcdbopaa
