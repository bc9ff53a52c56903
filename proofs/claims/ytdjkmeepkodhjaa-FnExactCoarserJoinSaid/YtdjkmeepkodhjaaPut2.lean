/- append of a whole slice whose capacity is not known; copyInts. -/
import Derived.Test.YtdjkmeepkodhjaaPut
namespace Go.Proofs.Ytdjkmeepkodhjaa
open Go.RowKit

theorem run_append_none' {P : Program} {w : World} (base : Nat) (t ty e : TypeId) (i : TypeInfo) (size : Nat) (ht : P.underlying t = some (.slice e)) (hi : P.info? e = some i)
    (v : Value) (n d : Nat) (xs : List Value) (hown : w.ownsRow base e size v n xs) :
    (Builtin.append_ #[t, t] ty #[v, .slice none 0 d]).run P w = .ok v w := by
  rcases hown.2 with ⟨rfl, rfl⟩ | ⟨g, cap, cur, rfl, _, _, hnc, _⟩
  · simp [Builtin.append_, run_underlying ht, sizeOf, typeInfo, hi, Builtin.lenOf, Builtin.firstCells]
  · simp [Builtin.append_, run_underlying ht, sizeOf, typeInfo, hi, Builtin.lenOf, Builtin.firstCells, hnc, storeCells]

theorem appAll' (w : World) {ops : Array Oper} {rest : List Oper} {o : Oper} {a : Act} {Q : Exit → Act → World → Prop} (hgd : o.guard = none) (s x : Operand)
    (ho : o.op = .call { callee := .builtin .append, args := #[s, x], argTypes := #[22, 22] })
    (B : Nat) (A : Option Addr) (n c : Nat) (vs : List Value) (hs : a.eval s = .slice A n c) (hown : Own w 3 B A n c vs)
    (X : Option Addr) (m d : Nat) (ys : List Int) (hx : a.eval x = .slice X m d) (hr : Rd w X m (iv ys)) (hn : n + m ≤ 1000000000) (hbase : B ≤ w.heap.size)
    (h : ∀ A' c' w', Own w' 3 B A' (n + m) c' (vs ++ iv ys) → w.grownBy w' (Value.ownBlock (.slice A n c)) → Below B w w' → wpList Try.prog ops Q rest (a.put o.dst (.slice A' (n + m) c')) w') : wpList Try.prog ops Q (o :: rest) a w := by
  rcases X with _ | ad
  · have hm0 : m = 0 := by
      rcases Nat.eq_zero_or_pos m with h0 | h0
      · exact h0
      · obtain ⟨b, off, he, _⟩ := hr.2 h0; cases he
    have hys : iv ys = [] := List.eq_nil_of_length_eq_zero (by have := hr.len; omega)
    subst hm0
    rw [hys] at h
    refine wpList_plain hgd fun K hK => ?_
    obtain ⟨i, hi, _⟩ := info_parts info_int
    have hrun := run_append_none' (P := Try.prog) (w := w) B 22 o.type 3 i 1 Try.underlying22 hi (.slice A n c) n d vs hown
    unfold Oper.wp
    simp [execOp, ho, resolve, invoke, builtin, hs, hx, hrun, Result.andThen]
    exact hK _ _ (h A c w (by simpa using hown) (World.grownBy.refl _ _) (Below.refl _ _))
  · exact appAll w hgd s x ho B A n c vs hs hown (some ad) m d ys hx (by simp) hr hn hbase h

theorem copyInts_any (A : Option Addr) (n c : Nat) (xs : List Int) (w : World) (h : Rd w A n (iv xs)) (hn : n ≤ 1000000000) :
    Calls Try.prog 64 #[.slice A n c] w (RetI w xs) := by
  have HR := Lib.hid h
  have HL := Lib.hid (show n = xs.length by have := h.len; rw [iv_len] at this; exact this.symm)
  clear h
  go_enter Try.func64, Try.ntmps64
  go_wp2_with (at_builtin; refine appAll' _ rfl _ _ rfl w.heap.size (some ⟨w.heap.size, 0, none⟩) 0 0 (iv []) rfl (own_empty w) A n c xs rfl (HR.out.alloc _) (by omega) (by simp) ?_; intro A' c' w' hown' hg' hb')
  have HO := Lib.hid hown'
  clear hown' hg'
  go_wp2_with fail
  go_ret
  exact ⟨A', n, c', HL.out, by simp, by simpa [iv] using HO.out, ((Below.refl _ _).alloc (Nat.le_refl _) _).trans hb'⟩

end Go.Proofs.Ytdjkmeepkodhjaa
