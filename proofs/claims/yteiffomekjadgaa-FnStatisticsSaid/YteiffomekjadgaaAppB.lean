/- append of one byte to a slice of the call's own; a slice of bytes that is read and written. -/
import Derived.Test.YteiffomekjadgaaInts
namespace Go.Proofs.Yteiffomekjadgaa
open Go.RowKit

theorem info_u8 : (Try.prog.info? 5).map (fun i => (i.zero, i.size, i.bytes)) = some (some (.int .u8 0), 1, 1) := by kernel_rfl
/-- append of one byte to a slice of the call's own. -/
theorem appB (w : World) {ops : Array Oper} {rest : List Oper} {o : Oper} {a : Act} {Q : Exit → Act → World → Prop} (hgd : o.guard = none) (s x : Operand)
    (ho : o.op = .call { callee := .builtin .append, args := #[s, x], argTypes := #[22, 22] })
    (B : Nat) (A : Option Addr) (n c : Nat) (vs : List Value) (hs : a.eval s = .slice A n c) (hown : Own w 5 B A n c vs)
    (g : Nat) (y : Int) (hx : a.eval x = .slice (some ⟨g, 0, none⟩) 1 1) (hy : w.cell? ⟨g, 0, none⟩ = some (.int .u8 y)) (hn : n ≤ 1000000000) (hbase' : B ≤ g)
    (h : ∀ A' c' w', Own w' 5 B A' (n + 1) c' (vs ++ [.int .u8 y]) → w.grownBy w' (Value.ownBlock (.slice A n c)) → Below B w w' → wpList Try.prog ops Q rest (a.put o.dst (.slice A' (n + 1) c')) w') : wpList Try.prog ops Q (o :: rest) a w :=
  app1 w hgd s x 22 ho 5 (.int .u8 0) 1 Try.underlying22 info_u8 rfl (by decide) B A n c vs hs hown g _ hx hy rfl hn hbase' h
theorem own_emptyB (w : World) : Own (w.alloc (.cells #[] 5)) 5 w.heap.size (some ⟨w.heap.size, 0, none⟩) 0 0 (bv []) := Own.lit w 5 #[] 0 rfl (by decide)
theorem bv_snoc (l : List UInt8) (c : UInt8) : bv (l ++ [c]) = bv l ++ [.int .u8 (c.toNat : Int)] := by simp [bv]
theorem bv_b1 (l : List UInt8) {x : Int} (h0 : 0 ≤ x) (h1 : x ≤ 255) : bv (l ++ b1 x) = bv l ++ [.int .u8 x] := by
  have : ((UInt8.ofNat x.toNat).toNat : Int) = x := by
    rw [UInt8.toNat_ofNat']; omega
  simp only [bv, b1, List.map_append, List.map_cons, List.map_nil, this]
theorem bv_set (l : List UInt8) (k : Nat) (c : UInt8) : (bv l).set k (.int .u8 (c.toNat : Int)) = bv (l.set k c) := by simp [bv, List.map_set]
theorem Own.atb {w : World} {e : TypeId} {B : Nat} {A : Option Addr} {n c k : Nat} {l : List UInt8} (h : Own w e B A n c (bv l)) (hk : k < n) : ∃ g y, A = some ⟨g, 0, none⟩ ∧ B ≤ g ∧ g < w.heap.size ∧ l[k]? = some y ∧ w.cell? ⟨g, k, none⟩ = some (.int .u8 (y.toNat : Int)) ∧ w.frozen? ⟨g, k, none⟩ = false := by
  obtain ⟨g, u, h1, h2, h3, h4, h5, h6⟩ := h.at_ hk
  unfold bv at h4
  rw [List.getElem?_map, Option.map_eq_some_iff] at h4
  obtain ⟨y, hy, rfl⟩ := h4
  exact ⟨g, y, h1, h2, h3, hy, h5, h6⟩
theorem Own.putb {w : World} {e : TypeId} {B n c g : Nat} {l : List UInt8} (h : Own w e B (some ⟨g, 0, none⟩) n c (bv l)) (k : Nat) (x : UInt8) : Own (w.setCell ⟨g, k, none⟩ (.int .u8 (x.toNat : Int))) e B (some ⟨g, 0, none⟩) n c (bv (l.set k x)) := by
  rw [← bv_set]; exact h.set_ k _

/-- The first k and the last k are turned round. -/
def revTo (T : List UInt8) (k : Nat) : List UInt8 := (List.range T.length).map fun j => if j < k ∨ T.length ≤ j + k then T.getD (T.length - 1 - j) 0 else T.getD j 0
theorem revTo_len (T : List UInt8) (k : Nat) : (revTo T k).length = T.length := by simp [revTo]
theorem revTo_at {T : List UInt8} {k j : Nat} (h : j < T.length) : (revTo T k)[j]? = some (if j < k ∨ T.length ≤ j + k then T.getD (T.length - 1 - j) 0 else T.getD j 0) := by
  unfold revTo
  rw [List.getElem?_map, List.getElem?_range h]; rfl
theorem revTo_0 (T : List UInt8) : revTo T 0 = T := by
  apply List.ext_getElem?
  intro j
  rcases Nat.lt_or_ge j T.length with h | h
  · rw [revTo_at h, if_neg (by omega), List.getD_eq_getElem?_getD, List.getElem?_eq_getElem h]; rfl
  · rw [List.getElem?_eq_none (by rw [revTo_len]; exact h), List.getElem?_eq_none h]
theorem revTo_end {T : List UInt8} {k : Nat} (hk : T.length ≤ 2 * k + 1) : revTo T k = T.reverse := by
  apply List.ext_getElem?
  intro j
  rcases Nat.lt_or_ge j T.length with h | h
  · rw [revTo_at h, List.getElem?_reverse h]
    by_cases hc : j < k ∨ T.length ≤ j + k
    · rw [if_pos hc, List.getD_eq_getElem?_getD, List.getElem?_eq_getElem (by omega)]; rfl
    · rw [if_neg hc, List.getD_eq_getElem?_getD, show T.length - 1 - j = j by omega, List.getElem?_eq_getElem h]; rfl
  · rw [List.getElem?_eq_none (by rw [revTo_len]; exact h), List.getElem?_eq_none (by rw [List.length_reverse]; exact h)]
theorem revTo_step {T : List UInt8} {k : Nat} {x y : UInt8} (hk : 2 * k + 1 < T.length) (hx : (revTo T k)[k]? = some x) (hy : (revTo T k)[T.length - 1 - k]? = some y) :
    ((revTo T k).set k y).set (T.length - 1 - k) x = revTo T (k + 1) := by
  rw [revTo_at (by omega), if_neg (by omega)] at hx hy
  injection hx with hx
  injection hy with hy
  apply List.ext_getElem?
  intro j
  rcases Nat.lt_or_ge j T.length with h | h
  · rw [revTo_at h, List.getElem?_set, List.getElem?_set]
    by_cases h1 : T.length - 1 - k = j
    · rw [if_pos h1, if_pos (by rw [List.length_set, revTo_len]; exact h1 ▸ h), if_pos (by omega), show T.length - 1 - j = k by omega, hx]
    · rw [if_neg h1]
      by_cases h2 : k = j
      · subst h2
        rw [if_pos rfl, if_pos (by rw [revTo_len]; exact h), if_pos (by omega), hy]
      · rw [if_neg h2, revTo_at h]
        by_cases hc : j < k ∨ T.length ≤ j + k
        · rw [if_pos hc, if_pos (by omega)]
        · rw [if_neg hc, if_neg (by omega)]
  · rw [List.getElem?_eq_none (by rw [List.length_set, List.length_set, revTo_len]; exact h), List.getElem?_eq_none (by rw [revTo_len]; exact h)]

end Go.Proofs.Yteiffomekjadgaa
