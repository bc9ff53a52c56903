/- Slices of ints over this program: its type numbers put into the words of Slice. -/
import Derived.Test.YteiffomekjadgaaProg
import Derived.Test.YteiffomekjadgaaSlice
namespace Go.Proofs.Yteiffomekjadgaa
open Go.RowKit

theorem info_int : (Try.prog.info? 3).map (fun i => (i.zero, i.size, i.bytes)) = some (some (.int .i64 0), 1, 8) := by kernel_rfl

/-- append of one int to a slice of the call's own. -/
theorem appI (w : World) {ops : Array Oper} {rest : List Oper} {o : Oper} {a : Act} {Q : Exit → Act → World → Prop} (hgd : o.guard = none) (s x : Operand)
    (ho : o.op = .call { callee := .builtin .append, args := #[s, x], argTypes := #[29, 29] })
    (B : Nat) (A : Option Addr) (n c : Nat) (vs : List Value) (hs : a.eval s = .slice A n c) (hown : Own w 3 B A n c vs)
    (g : Nat) (y : Int) (hx : a.eval x = .slice (some ⟨g, 0, none⟩) 1 1) (hy : w.cell? ⟨g, 0, none⟩ = some (.int .i64 y)) (hn : n ≤ 1000000000) (hbase' : B ≤ g)
    (h : ∀ A' c' w', Own w' 3 B A' (n + 1) c' (vs ++ [.int .i64 y]) → w.grownBy w' (Value.ownBlock (.slice A n c)) → Below B w w' → wpList Try.prog ops Q rest (a.put o.dst (.slice A' (n + 1) c')) w') : wpList Try.prog ops Q (o :: rest) a w :=
  app1 w hgd s x 29 ho 3 (.int .i64 0) 8 Try.underlying29 info_int rfl (by decide) B A n c vs hs hown g _ hx hy rfl hn hbase' h
theorem iv_snoc (xs : List Int) (x : Int) : iv (xs ++ [x]) = iv xs ++ [.int .i64 x] := by simp [iv]
theorem own_empty (w : World) : Own (w.alloc (.cells #[] 3)) 3 w.heap.size (some ⟨w.heap.size, 0, none⟩) 0 0 (iv []) := Own.lit w 3 #[] 0 rfl (by decide)
/-- make([]int, n). -/
theorem mkI (n : Nat) (hn : n ≤ 1000000000) (w : World) : (Instr.makeSlice 29 (.int .i64 (n : Int)) (.int .i64 (n : Int))).run Try.prog w = .ok (.slice (some ⟨w.heap.size, 0, none⟩) n n) (w.alloc (.cells (madeCells #[.int .i64 0] n) 3)) :=
  run_make_row' (P := Try.prog) 29 3 (.int .i64 0) 8 Try.underlying29 info_int rfl .i64 .i64 n (by omega) (by omega) w

/-- The call hands back a new slice of the ints xs, and a bool. -/
def RetIB (w : World) (xs : List Int) (b : Bool) (e : Ending) (w' : World) : Prop :=
  ∃ A n c, n = xs.length ∧ e = .returned (.tuple #[.slice A n c, .bool b]) ∧ Own w' 3 w.heap.size A n c (iv xs) ∧ Below w.heap.size w w'
/-- The call hands back a new slice of the ints xs. -/
def RetI (w : World) (xs : List Int) (e : Ending) (w' : World) : Prop :=
  ∃ A n c, n = xs.length ∧ e = .returned (.slice A n c) ∧ Own w' 3 w.heap.size A n c (iv xs) ∧ Below w.heap.size w w'

end Go.Proofs.Yteiffomekjadgaa
