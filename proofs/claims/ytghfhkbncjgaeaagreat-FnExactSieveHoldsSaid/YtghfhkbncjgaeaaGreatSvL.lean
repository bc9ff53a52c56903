/- What the sieves say, from the tables. No program is named here. -/
import Derived.Test.YtghfhkbncjgaeaaGreatMg18
import Derived.Test.YtghfhkbncjgaeaaGreatMg48
import Derived.Test.YtghfhkbncjgaeaaGreatMg50
namespace Go.Proofs.YtghfhkbncjgaeaaGreat
set_option linter.unusedVariables false
open Go.RowKit

theorem rd_tab : ((List.range 11).all fun o => (List.range o).all fun k => decide (1 ≤ o / Nat.gcd o k) && decide (o / Nat.gcd o k ≤ o) && decide (1 ≤ Nat.gcd o k) && (decide (o / Nat.gcd o k = o) || decide (o / Nat.gcd o k * k % o = 0)) && (List.range (o / Nat.gcd o k)).all fun d => decide (d = 0) || decide (d * k % o ≠ 0)) = true := by decide +kernel
theorem rd_at {o k : Nat} (ho : o ≤ 10) (hk : k < o) : 1 ≤ o / Nat.gcd o k ∧ o / Nat.gcd o k ≤ o ∧ 1 ≤ Nat.gcd o k ∧ (o / Nat.gcd o k < o → o / Nat.gcd o k * k % o = 0) ∧ ∀ d, 1 ≤ d → d < o / Nat.gcd o k → d * k % o ≠ 0 := by
  have h := List.all_eq_true.1 rd_tab o (List.mem_range.2 (by omega))
  have h1 := List.all_eq_true.1 h k (List.mem_range.2 hk)
  rw [Bool.and_eq_true, Bool.and_eq_true, Bool.and_eq_true, Bool.and_eq_true, decide_eq_true_eq, decide_eq_true_eq, decide_eq_true_eq, Bool.or_eq_true, decide_eq_true_eq, decide_eq_true_eq, List.all_eq_true] at h1
  obtain ⟨⟨⟨⟨a, b⟩, c⟩, d⟩, e⟩ := h1
  refine ⟨a, b, c, fun hlt => d.resolve_left (by omega), fun x hx1 hx2 => ?_⟩
  have := e x (List.mem_range.2 hx2)
  rw [Bool.or_eq_true, decide_eq_true_eq, decide_eq_true_eq] at this
  exact this.resolve_left (by omega)
def svB (n o : Nat) (nx : List Nat) : Bool := (List.range o).all fun k => decide (vrP (catP (n : Int)).1 ((o / Nat.gcd o k : Nat) : Int) = ((fixTo nx k (paths n).length : Int), true))
theorem sv_tab : ((List.range 6).all fun n => decide (n = 0) || (svB n (2 * n) (nxMs.getD n []) && (svB n n (nxPs.getD n []) && svB n (n + 2) (nxTs.getD n [])))) = true := by decide +kernel
theorem sv_at {f : List UInt8} (hf : famB f) {n k : Nat} (hn1 : 1 ≤ n) (hn : n ≤ 5) (hk : k < ordN f n) : vrP (catP (n : Int)).1 ((ordN f n / Nat.gcd (ordN f n) k : Nat) : Int) = ((fixTo (nxT f n) k (paths n).length : Int), true) := by
  have h := List.all_eq_true.1 sv_tab n (List.mem_range.2 (by omega))
  rw [Bool.or_eq_true, decide_eq_true_eq] at h
  have h := h.resolve_left (by omega)
  rw [Bool.and_eq_true, Bool.and_eq_true] at h
  unfold svB at h
  rw [List.all_eq_true, List.all_eq_true, List.all_eq_true] at h
  rcases hf with rfl | rfl | rfl
  · have e : ordN nmM n = 2 * n := by unfold ordN; rw [if_pos rfl]
    rw [e] at hk ⊢
    rw [nxT_M]
    exact of_decide_eq_true (h.1 k (List.mem_range.2 hk))
  · have e : ordN nmP n = n := by unfold ordN; rw [if_neg (by decide), if_pos rfl]
    rw [e] at hk ⊢
    rw [nxT_P]
    exact of_decide_eq_true (h.2.1 k (List.mem_range.2 hk))
  · have e : ordN nmT n = n + 2 := by unfold ordN; rw [if_neg (by decide), if_neg (by decide)]
    rw [e] at hk ⊢
    rw [nxT_T]
    exact of_decide_eq_true (h.2.2 k (List.mem_range.2 hk))
theorem catP_ok {n : Nat} (hn : n ≤ 5) : (catP (n : Int)).2 = true := by
  unfold catP
  rw [inB_iff.2 (by omega)]; rfl
/-- What both sides hand back. -/
def svT (f : List UInt8) (n : Int) : Bool := decide (0 < ordT f n)

end Go.Proofs.YtghfhkbncjgaeaaGreat
