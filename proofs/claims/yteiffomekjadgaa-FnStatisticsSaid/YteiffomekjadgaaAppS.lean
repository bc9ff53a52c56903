/- append of a whole slice of strings. -/
import Derived.Test.YteiffomekjadgaaStrs
import Derived.Test.YteiffomekjadgaaPut
namespace Go.Proofs.Yteiffomekjadgaa
open Go.RowKit

theorem sv_one {ys : List (List UInt8)} : ∀ u ∈ sv ys, u.oneCell' = true := by
  intro u hu; simp [sv] at hu; obtain ⟨x, _, rfl⟩ := hu; rfl
/-- append of a whole slice of strings. -/
theorem appAllS (w : World) {ops : Array Oper} {rest : List Oper} {o : Oper} {a : Act} {Q : Exit → Act → World → Prop} (hgd : o.guard = none) (s x : Operand)
    (ho : o.op = .call { callee := .builtin .append, args := #[s, x], argTypes := #[44, 44] })
    (B : Nat) (A : Option Addr) (n c : Nat) (vs : List Value) (hs : a.eval s = .slice A n c) (hown : Own w 9 B A n c vs)
    (X : Option Addr) (m d : Nat) (ys : List (List UInt8)) (hx : a.eval x = .slice X m d) (hd : X = none → d = 0) (hr : Rd w X m (sv ys)) (hn : n + m ≤ 1000000000) (hbase : B ≤ w.heap.size)
    (h : ∀ A' c' w', Own w' 9 B A' (n + m) c' (vs ++ sv ys) → w.grownBy w' (Value.ownBlock (.slice A n c)) → Below B w w' → wpList Try.prog ops Q rest (a.put o.dst (.slice A' (n + m) c')) w') : wpList Try.prog ops Q (o :: rest) a w :=
  wpList_plain hgd fun _ hK => wp_appAll w s x 44 ho 9 (.string ByteArray.empty) 16 Try.underlying44 info_str rfl (by decide) B A n c vs hs hown X m d (sv ys) hx hd hr sv_one hn hbase fun A' c' w' a1 a2 a3 => hK _ _ (h A' c' w' a1 a2 a3)
theorem Own.nocap {w : World} {e : TypeId} {B : Nat} {A : Option Addr} {n c : Nat} {vs : List Value} (h : Own w e B A n c vs) : A = none → c = 0 := by
  rintro rfl
  rcases h.form with ⟨_, _, h3⟩ | ⟨g, h1, _⟩
  · exact h3
  · cases h1

end Go.Proofs.Yteiffomekjadgaa
