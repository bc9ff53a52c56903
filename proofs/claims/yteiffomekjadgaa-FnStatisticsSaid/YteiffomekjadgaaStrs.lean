/- Slices of strings over this program: its type numbers put into the words of Slice. -/
import Derived.Test.YteiffomekjadgaaProg
import Derived.Test.YteiffomekjadgaaSlice
namespace Go.Proofs.Yteiffomekjadgaa
open Go.RowKit

theorem info_str : (Try.prog.info? 9).map (fun i => (i.zero, i.size, i.bytes)) = some (some (.string ByteArray.empty), 1, 16) := by kernel_rfl
/-- append of one string to a slice of the call's own. -/
theorem appS (w : World) {ops : Array Oper} {rest : List Oper} {o : Oper} {a : Act} {Q : Exit → Act → World → Prop} (hgd : o.guard = none) (s x : Operand)
    (ho : o.op = .call { callee := .builtin .append, args := #[s, x], argTypes := #[44, 44] })
    (B : Nat) (A : Option Addr) (n c : Nat) (vs : List Value) (hs : a.eval s = .slice A n c) (hown : Own w 9 B A n c vs)
    (g : Nat) (y : ByteArray) (hx : a.eval x = .slice (some ⟨g, 0, none⟩) 1 1) (hy : w.cell? ⟨g, 0, none⟩ = some (.string y)) (hn : n ≤ 1000000000) (hbase' : B ≤ g)
    (h : ∀ A' c' w', Own w' 9 B A' (n + 1) c' (vs ++ [.string y]) → w.grownBy w' (Value.ownBlock (.slice A n c)) → Below B w w' → wpList Try.prog ops Q rest (a.put o.dst (.slice A' (n + 1) c')) w') : wpList Try.prog ops Q (o :: rest) a w :=
  app1 w hgd s x 44 ho 9 (.string ByteArray.empty) 16 Try.underlying44 info_str rfl (by decide) B A n c vs hs hown g _ hx hy rfl hn hbase' h
theorem stepS (w : World) {ops : Array Oper} {o : Oper} {a : Act} {K : Act → World → Prop} {Q : Exit → Act → World → Prop} {E : Prop} (hgd : o.guard = none) (s x : Operand)
    (ho : o.op = .call { callee := .builtin .append, args := #[s, x], argTypes := #[44, 44] })
    (B : Nat) (A : Option Addr) (n c : Nat) (vs : List Value) (hs : a.eval s = .slice A n c) (hown : Own w 9 B A n c vs)
    (g : Nat) (y : ByteArray) (hx : a.eval x = .slice (some ⟨g, 0, none⟩) 1 1) (hy : w.cell? ⟨g, 0, none⟩ = some (.string y)) (hn : n ≤ 1000000000) (hbase' : B ≤ g)
    (h : ∀ A' c' w', Own w' 9 B A' (n + 1) c' (vs ++ [.string y]) → w.grownBy w' (Value.ownBlock (.slice A n c)) → Below B w w' → K (a.put o.dst (.slice A' (n + 1) c')) w') :
    if Region.wanted o (yielded ops a.tmps) = true then Oper.wp Try.prog o a w K Q else E :=
  step_app1 w hgd s x 44 ho 9 (.string ByteArray.empty) 16 Try.underlying44 info_str rfl (by decide) B A n c vs hs hown g _ hx hy rfl hn hbase' h
theorem sv_snoc (xs : List (List UInt8)) (x : List UInt8) : sv (xs ++ [x]) = sv xs ++ [.string (bs x)] := by simp [sv]
theorem own_emptyS (w : World) : Own (w.alloc (.cells #[] 9)) 9 w.heap.size (some ⟨w.heap.size, 0, none⟩) 0 0 (sv []) := Own.lit w 9 #[] 0 rfl (by decide)

/-- The call hands back a new slice of the strings xs. -/
def RetS (w : World) (xs : List (List UInt8)) (e : Ending) (w' : World) : Prop :=
  ∃ A n c, n = xs.length ∧ e = .returned (.slice A n c) ∧ OSeg w' 9 w.heap.size w'.heap.size A n c (sv xs) ∧ Below w.heap.size w w'
theorem RetS.mk {w w' : World} {xs : List (List UInt8)} {e : Ending} {A : Option Addr} {n c : Nat} (hn : n = xs.length) (he : e = .returned (.slice A n c)) (ho : Own w' 9 w.heap.size A n c (sv xs)) (hb : Below w.heap.size w w') : RetS w xs e w' :=
  ⟨A, n, c, hn, he, OSeg.mk' ho, hb⟩

end Go.Proofs.Yteiffomekjadgaa
