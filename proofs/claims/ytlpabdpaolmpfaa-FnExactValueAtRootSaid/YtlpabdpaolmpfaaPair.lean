/- Two new slices of ints and a bool. -/
import Derived.Test.YtlpabdpaolmpfaaPut
namespace Go.Proofs.Ytlpabdpaolmpfaa
open Go.RowKit

/-- The call hands back two new slices of ints that lie apart, and a bool. -/
def RetIIB (w : World) (xs ys : List Int) (b : Bool) (e : Ending) (w' : World) : Prop :=
  ∃ R0 m0 d0 R1 m1 d1 p0 q0 p1 q1, m0 = xs.length ∧ m1 = ys.length ∧ e = .returned (.tuple #[.slice R0 m0 d0, .slice R1 m1 d1, .bool b]) ∧ OSeg w' 3 p0 q0 R0 m0 d0 (iv xs) ∧ OSeg w' 3 p1 q1 R1 m1 d1 (iv ys) ∧
    (w.heap.size ≤ p0 ∧ q0 ≤ w'.heap.size ∧ w.heap.size ≤ p1 ∧ q1 ≤ w'.heap.size ∧ (q0 ≤ p1 ∨ q1 ≤ p0)) ∧ Below w.heap.size w w'
theorem Own.tight {w : World} {e : TypeId} {B : Nat} {A : Option Addr} {n c : Nat} {vs : List Value} (h : Own w e B A n c vs) (hB : B ≤ w.heap.size) : ∃ p q, OSeg w e p q A n c vs ∧ B ≤ p ∧ q ≤ w.heap.size ∧ (∀ k, Value.ownBlock (.slice A n c) = some k → p = k ∧ q = k + 1) ∧ (Value.ownBlock (.slice A n c) = none → p = B ∧ q = B) := by
  rcases h.form with ⟨rfl, rfl, rfl⟩ | ⟨g, rfl, hg, hs, _⟩
  · exact ⟨B, B, ⟨h, by intro k hk; cases hk⟩, Nat.le_refl _, hB, (by intro k hk; cases hk), fun _ => ⟨rfl, rfl⟩⟩
  · refine ⟨g, g + 1, ⟨?_, ?_⟩, hg, by omega, ?_, by intro hk; cases hk⟩
    · refine ⟨h.1, ?_⟩
      rcases h.2 with ⟨h1, _⟩ | ⟨g1, cap, cur, h1, h2, h3⟩
      · cases h1
      · cases h1
        exact Or.inr ⟨g, c, cur, rfl, Nat.le_refl _, h3⟩
    · intro k hk
      have : g = k := by simpa [Value.ownBlock] using hk
      omega
    · intro k hk
      have : g = k := by simpa [Value.ownBlock] using hk
      omega
theorem RetIIB.mk {w w' : World} {xs ys : List Int} {b : Bool} {e : Ending} {R0 R1 : Option Addr} {m0 d0 m1 d1 : Nat} (h0 : m0 = xs.length) (h1 : m1 = ys.length) (he : e = .returned (.tuple #[.slice R0 m0 d0, .slice R1 m1 d1, .bool b]))
    (ho0 : Own w' 3 w.heap.size R0 m0 d0 (iv xs)) (ho1 : Own w' 3 w.heap.size R1 m1 d1 (iv ys)) (hne : ∀ k, Value.ownBlock (.slice R0 m0 d0) = some k → Value.ownBlock (.slice R1 m1 d1) ≠ some k) (hb : Below w.heap.size w w') : RetIIB w xs ys b e w' := by
  obtain ⟨p0, q0, s0, a0, b0, c0, e0⟩ := ho0.tight hb.size
  obtain ⟨p1, q1, s1, a1, b1, c1, e1⟩ := ho1.tight hb.size
  refine ⟨R0, m0, d0, R1, m1, d1, p0, q0, p1, q1, h0, h1, he, s0, s1, ⟨a0, b0, a1, b1, ?_⟩, hb⟩
  rcases h2 : Value.ownBlock (.slice R0 m0 d0) with _ | k0
  · obtain ⟨rfl, rfl⟩ := e0 h2; exact Or.inl a1
  · obtain ⟨rfl, rfl⟩ := c0 _ h2
    rcases h3 : Value.ownBlock (.slice R1 m1 d1) with _ | k1
    · obtain ⟨rfl, rfl⟩ := e1 h3; exact Or.inr a0
    · obtain ⟨rfl, rfl⟩ := c1 _ h3
      have : p0 ≠ p1 := fun e => hne p0 h2 (by rw [h3, e])
      omega
/-- Two empty slices, made one after the other. -/
theorem RetIIB.empty {w W : World} {b : Bool} (hb : Below w.heap.size w W) : RetIIB w [] [] b (.returned (.tuple #[.slice (some ⟨W.heap.size, 0, none⟩) 0 0, .slice (some ⟨W.heap.size + 1, 0, none⟩) 0 0, .bool b])) ((W.alloc (.cells #[] 3)).alloc (.cells #[] 3)) := by
  have hs := hb.size
  have h2 := (own_empty (W.alloc (.cells #[] 3))).mono (B' := w.heap.size) (by simp; omega)
  have e : (W.alloc (.cells #[] 3)).heap.size = W.heap.size + 1 := by simp
  rw [e] at h2
  exact RetIIB.mk rfl rfl rfl (((own_empty W).mono hs).alloc _) h2 (by intro k hk; simp [Value.ownBlock] at hk ⊢; omega) ((hb.alloc hs _).alloc (by simp; omega) _)

end Go.Proofs.Ytlpabdpaolmpfaa
