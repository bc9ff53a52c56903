/- Rows of Gaussian binomials: the plain part. -/
import Derived.Test.YtlpabdpaolmpfaaGauss
import Derived.Test.YtlpabdpaolmpfaaRows2
namespace Go.Proofs.Ytlpabdpaolmpfaa
open Go.RowKit

/-- Row m up to place k. -/
def rowsL (m k : Nat) : List (List Int) := (List.range (min m k + 1)).map (gau m)
theorem rowsL_at {m k j : Nat} (h : j ≤ min m k) : (rowsL m k)[j]? = some (gau m j) := by
  unfold rowsL
  rw [List.getElem?_map, List.getElem?_range (by omega)]; rfl
def nextL (m j : Nat) : List (List Int) := (List.range j).map (gau m)
theorem nextL_snoc (m j : Nat) : nextL m (j + 1) = nextL m j ++ [gau m j] := by simp [nextL, List.range_succ]
theorem nextL_rows (m k : Nat) : nextL m (min m k + 1) = rowsL m k := rfl
theorem bin_a (m : Nat) : gau (m + 1) 0 = upd (List.replicate 1 0) (fun i => (gau m 0).getD i 0) 0 (gau m 0).length := by rw [gau_0, gau_0]; rfl
theorem bin_c (m : Nat) : gau (m + 1) (m + 1) = upd (List.replicate 1 0) (fun i => (gau m m).getD i 0) 0 (gau m m).length := by rw [gau_n, gau_n]; rfl
theorem bin_b {m j L : Nat} (h : j < m) (hL : (gau m j).length + (m - j) = L) : gau (m + 1) (j + 1) = upd (upd (List.replicate L 0) (fun i => (gau m (j + 1)).getD i 0) 0 (gau m (j + 1)).length) (fun i => (gau m j).getD i 0) (m - j) (gau m j).length := by
  have := gau_lt h
  rw [gau, if_neg (by omega), Nat.max_eq_right (by omega), hL]
theorem bin_L {m j : Nat} (h : j ≤ m) : (gau m j).length + (m - j) = (j + 1) * (m - j) + 1 := by
  rw [gau_len m j h]
  have h1 := Nat.succ_mul j (m - j)
  simp only [Nat.succ_eq_add_one] at h1
  omega
/-- A slice of slices with one row that holds 1. -/
theorem O2.one (w : World) : O2 ((w.alloc (.cells #[.int .i64 1] 3)).alloc (.cells #[.slice (some ⟨w.heap.size, 0, none⟩) 1 1] 22)) w.heap.size (some ⟨w.heap.size + 1, 0, none⟩) 1 1 [.slice (some ⟨w.heap.size, 0, none⟩) 1 1] [[1]] := by
  have h1 := Own.lit w 3 #[.int .i64 1] 1 rfl (by decide)
  have h2 := Own.lit (w.alloc (.cells #[.int .i64 1] 3)) 22 #[.slice (some ⟨w.heap.size, 0, none⟩) 1 1] 1 rfl (by decide)
  rw [show (w.alloc (.cells #[.int .i64 1] 3)).heap.size = w.heap.size + 1 by simp] at h2
  refine ⟨h2.mono (by omega), rfl, ?_, ?_⟩
  · intro j xs hj
    rcases j with _ | j
    · cases hj
      exact ⟨_, 1, rfl, h1.alloc _⟩
    · simp at hj
  · intro i j u v g hij hu hv
    rcases i with _ | i
    · rcases j with _ | j
      · omega
      · simp at hv
    · simp at hu
theorem appRow (w : World) {ops : Array Oper} {rest : List Oper} {o : Oper} {a : Act} {Q : Exit → Act → World → Prop} (hgd : o.guard = none) (s x : Operand)
    (ho : o.op = .call { callee := .builtin .append, args := #[s, x], argTypes := #[46, 46] })
    (B : Nat) (A : Option Addr) (n c : Nat) (vs : List Value) (hs : a.eval s = .slice A n c) (hown : Own w 22 B A n c vs)
    (g : Nat) (y : Option Addr) (m d : Nat) (hx : a.eval x = .slice (some ⟨g, 0, none⟩) 1 1) (hy : w.cell? ⟨g, 0, none⟩ = some (.slice y m d)) (hn : n ≤ 1000000000) (hbase' : B ≤ g)
    (h : ∀ A' c' w', Own w' 22 B A' (n + 1) c' (vs ++ [.slice y m d]) → w.grownBy w' (Value.ownBlock (.slice A n c)) → Below B w w' → wpList Try.prog ops Q rest (a.put o.dst (.slice A' (n + 1) c')) w') : wpList Try.prog ops Q (o :: rest) a w :=
  app1 w hgd s x 46 ho 22 (.slice none 0 0) 24 Try.underlying46 info_ints rfl (by decide) B A n c vs hs hown g _ hx hy rfl hn hbase' h
/-- The new row x, which lies in its own block, at the end. -/
theorem O2.pushx {w wv w' : World} {lo g : Nat} {A A' : Option Addr} {n c c' L : Nat} {vs : List Value} {xss : List (List Int)} {ys : List Int} (h : O2 w lo A n c vs xss) (hg : g = w.heap.size) (hb : Below w.heap.size w wv) (hr : Own wv 3 lo (some ⟨g, 0, none⟩) L L (iv ys)) (hL : L = ys.length)
    (ow : Obj) (hgr : (wv.alloc ow).grownBy w' (Value.ownBlock (.slice A n c))) (ho : Own w' 22 lo A' (n + 1) c' (vs ++ [.slice (some ⟨g, 0, none⟩) L L])) : O2 w' lo A' (n + 1) c' (vs ++ [.slice (some ⟨g, 0, none⟩) L L]) (xss ++ [ys]) := by
  subst hL
  refine ((h.below hb).alloc ow).push (hr.alloc ow) ?_ hgr ho
  intro g' hg' j u hu he
  cases hg'
  have hj : j < xss.length := by have := (List.getElem?_eq_some_iff.1 hu).1; rw [h.len] at this; exact this
  obtain ⟨Aj, cj, hv, hoj⟩ := h.row j _ (List.getElem?_eq_getElem hj)
  rw [hu] at hv
  cases hv
  have := (hoj.blk _ he).2
  omega

end Go.Proofs.Ytlpabdpaolmpfaa
