/- A stack of ints beside a slice of ints, both the call's own and apart. -/
import Derived.Test.YteiffomekjadgaaRows2
import Derived.Test.YteiffomekjadgaaPut
namespace Go.Proofs.Yteiffomekjadgaa
set_option linter.unusedVariables false
open Go.RowKit

theorem own_capT {w : World} {e : TypeId} {B : Nat} {A : Option Addr} {n c : Nat} {vs : List Value} (h : Own w e B A n c vs) : n ≤ c := by
  rcases h.form with ⟨_, h1, h2⟩ | ⟨g, _, _, _, h3⟩ <;> omega
theorem own_capT2 {w : World} {e : TypeId} {B : Nat} {A : Option Addr} {n c : Nat} {vs : List Value} (h : Own w e B A n c vs) : n ≤ c ∧ c ≤ maxLen := by
  rcases h.2 with ⟨h1, _⟩ | ⟨g, cap, cur, h1, hg, hh, hn, hc, hs, ht⟩
  · injection h1 with _ h4 h5
    subst h4 h5
    exact ⟨Nat.le_refl _, Nat.zero_le _⟩
  · injection h1 with _ h4 h5
    subst h5
    exact ⟨by omega, hc⟩
/-- The stack (A1) and the slice (the block g2). -/
structure Two (B : Nat) (wr : World) (A1 : Option Addr) (q c1 : Nat) (xs : List Int) (g2 m : Nat) (ys : List Int) : Prop where
  out : Own wr 3 B A1 q c1 (iv xs)
  inp : Own wr 3 B (some ⟨g2, 0, none⟩) m m (iv ys)
  apart : Value.ownBlock (.slice A1 q c1) ≠ some g2
section
variable {B : Nat} {wr : World} {A1 : Option Addr} {q c1 : Nat} {xs : List Int} {g2 m : Nat} {ys : List Int}
theorem Two.grow {w' : World} {g' c' : Nat} {x : Int} {zs : List Int} (h : Two B wr A1 q c1 xs g2 m ys) (ow : Obj) (ho : Own w' 3 B (some ⟨g', 0, none⟩) (q + 1) c' (iv xs ++ [.int .i64 x])) (hz : zs = xs ++ [x]) (hg : (wr.alloc ow).grownBy w' (Value.ownBlock (.slice A1 q c1))) (hat : Value.ownBlock (.slice A1 q c1) = some g' ∨ g' = (wr.alloc ow).heap.size) : Two B w' (some ⟨g', 0, none⟩) (q + 1) c' zs g2 m ys := by
  subst hz
  refine ⟨by rw [iv_snoc]; exact ho, (h.inp.alloc _).grown hg (fun g hA => by cases hA; exact h.apart), ?_⟩
  intro he
  have e : g' = g2 := by simpa [Value.ownBlock] using he
  subst e
  rcases hat with h1 | h1
  · exact h.apart h1
  · have := ((h.inp.alloc ow).blk g' rfl).2; omega
theorem Two.put (h : Two B wr A1 q c1 xs g2 m ys) (k : Nat) (y : Int) : Two B (wr.setCell ⟨g2, k, none⟩ (.int .i64 y)) A1 q c1 xs g2 m (ys.set k y) :=
  ⟨h.out.set_far (fun gg hgg e => by cases hgg; exact h.apart (by have e' : gg = g2 := e; subst e'; rfl)) _, h.inp.puti k y, h.apart⟩
theorem Two.pop {p : Nat} (h : Two B wr A1 q c1 xs g2 m ys) (hp : p ≤ q) : Two B wr A1 p c1 (xs.take p) g2 m ys :=
  ⟨by rw [← iv_take]; exact h.out.front hp, h.inp, by
    intro he
    apply h.apart
    rcases h.out.form with ⟨rfl, _⟩ | ⟨g0, rfl, _⟩
    · cases he
    · exact he⟩
theorem Two.drew (h : Two B wr A1 q c1 xs g2 m ys) : Two B wr.drew A1 q c1 xs g2 m ys := ⟨h.out.drew, h.inp.drew, h.apart⟩
theorem Two.below {w' : World} (h : Two B wr A1 q c1 xs g2 m ys) (hb : Below wr.heap.size wr w') : Two B w' A1 q c1 xs g2 m ys := ⟨h.out.below hb, h.inp.below hb, h.apart⟩
/-- A made slice, then an empty stack. -/
theorem Two.start (w : World) (m : Nat) (hm : m ≤ 1000000) : Two w.heap.size ((w.alloc (.cells (madeCells #[.int .i64 0] m) 3)).alloc (.cells #[] 3)) (some ⟨w.heap.size + 1, 0, none⟩) 0 0 [] w.heap.size m (List.replicate m 0) where
  out := by
    have h := own_empty (w.alloc (.cells (madeCells #[.int .i64 0] m) 3))
    rw [show (w.alloc (.cells (madeCells #[.int .i64 0] m) 3)).heap.size = w.heap.size + 1 by simp] at h
    exact h.mono (by omega)
  inp := by
    have := Own.made w 3 (.int .i64 0) m (by unfold maxLen; omega)
    rw [iv_rep] at this
    exact this.alloc _
  apart := by
    intro he
    simp [Value.ownBlock] at he
/-- Beside a slice of the call's own, a made one. -/
theorem Two.start2 (h : Own wr 3 B A1 q c1 (iv xs)) (hB : B ≤ wr.heap.size) (m : Nat) (hm : m ≤ 1000000) : Two B (wr.alloc (.cells (madeCells #[.int .i64 0] m) 3)) A1 q c1 xs wr.heap.size m (List.replicate m 0) where
  out := h.alloc _
  inp := by
    have := Own.made wr 3 (.int .i64 0) m (by unfold maxLen; omega)
    rw [iv_rep] at this
    exact this.mono hB
  apart := by
    intro he
    have := (h.blk _ he).2
    omega
end

end Go.Proofs.Yteiffomekjadgaa
