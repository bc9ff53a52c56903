/- l3Ways of the reference: the table of the ways, row by row. -/
import Derived.Test.YteiffomekjadgaaCatI
import Derived.Test.YteiffomekjadgaaRows2
import Derived.StillTailTactics
namespace Go.Proofs.Yteiffomekjadgaa
set_option linter.unusedVariables false
open Go.RowKit

theorem appRowW (w : World) {ops : Array Oper} {rest : List Oper} {o : Oper} {a : Act} {Q : Exit → Act → World → Prop} (hgd : o.guard = none) (s x : Operand)
    (ho : o.op = .call { callee := .builtin .append, args := #[s, x], argTypes := #[39, 39] })
    (B : Nat) (A : Option Addr) (n c : Nat) (vs : List Value) (hs : a.eval s = .slice A n c) (hown : Own w 29 B A n c vs)
    (g : Nat) (y : Option Addr) (m d : Nat) (hx : a.eval x = .slice (some ⟨g, 0, none⟩) 1 1) (hy : w.cell? ⟨g, 0, none⟩ = some (.slice y m d)) (hn : n ≤ 1000000000) (hbase' : B ≤ g)
    (h : ∀ A' c' w', Own w' 29 B A' (n + 1) c' (vs ++ [.slice y m d]) → w.grownBy w' (Value.ownBlock (.slice A n c)) → Below B w w' → wpList Try.prog ops Q rest (a.put o.dst (.slice A' (n + 1) c')) w') : wpList Try.prog ops Q (o :: rest) a w :=
  app1 w hgd s x 39 ho 29 (.slice none 0 0) 24 Try.underlying39 info_ints rfl (by decide) B A n c vs hs hown g _ hx hy rfl hn hbase' h
/-- The new row x, which lies in its own block, at the end. -/
theorem O2.pushxW {w wv w' : World} {lo g : Nat} {A A' : Option Addr} {n c c' L : Nat} {vs : List Value} {xss : List (List Int)} {ys : List Int} (h : O2 w lo A n c vs xss) (hg : g = w.heap.size) (hb : Below w.heap.size w wv) (hr : Own wv 3 lo (some ⟨g, 0, none⟩) L L (iv ys)) (hL : L = ys.length)
    (ow : Obj) (hgr : (wv.alloc ow).grownBy w' (Value.ownBlock (.slice A n c))) (ho : Own w' 29 lo A' (n + 1) c' (vs ++ [.slice (some ⟨g, 0, none⟩) L L])) : O2 w' lo A' (n + 1) c' (vs ++ [.slice (some ⟨g, 0, none⟩) L L]) (xss ++ [ys]) := by
  subst hL
  refine ((h.below hb).alloc ow).push (hr.alloc ow) ?_ hgr ho
  intro g' hg' j u hu he
  cases hg'
  have hj : j < xss.length := by have := (List.getElem?_eq_some_iff.1 hu).1; rw [h.len] at this; exact this
  obtain ⟨Aj, cj, hv, hoj⟩ := h.row j _ (List.getElem?_eq_getElem hj)
  rw [hu] at hv
  cases hv
  have := (hoj.blk _ he).2
  omega

theorem O2.fill {w : World} {lo : Nat} {A : Option Addr} {n c : Nat} {vs : List Value} {xss : List (List Int)} {gj k j cj : Nat} {x : Int} {old : List Int} (h : O2 w lo A n c vs xss) (hj : xss[j]? = some old) (hv : vs[j]? = some (.slice (some ⟨gj, 0, none⟩) old.length cj)) : O2 (w.setCell ⟨gj, k, none⟩ (.int .i64 x)) lo A n c vs (xss.set j (old.set k x)) where
  outer := h.outer.set_far (p := ⟨gj, k, none⟩) (fun g hA => by obtain ⟨Aj, cj', h1, h2⟩ := h.row j old hj; rw [hv] at h1; cases h1; subst hA; exact own_ne h.outer h2 (by decide)) _
  len := by simp [h.len]
  row i xs hi := by
    by_cases hij : i = j
    · subst hij
      have hl := (List.getElem?_eq_some_iff.1 hj).1
      rw [List.getElem?_set_self hl] at hi
      cases hi
      obtain ⟨Aj, cj', h1, h2⟩ := h.row i old hj
      rw [hv] at h1
      cases h1
      exact ⟨_, _, by rw [List.length_set]; exact hv, by rw [List.length_set]; exact h2.puti k x⟩
    · rw [List.getElem?_set_ne (by omega)] at hi
      obtain ⟨Ai, ci, h1, h2⟩ := h.row i xs hi
      refine ⟨Ai, ci, h1, h2.set_far (fun g hA e => ?_) _⟩
      subst hA
      exact h.apart i j _ _ g hij h1 hv rfl (by rw [e]; rfl)
  apart := h.apart

def rowsW (D t : Nat) : List (List Int) := (List.range t).map (rwB D)
theorem rowsW_len (D t : Nat) : (rowsW D t).length = t := by simp [rowsW]
theorem rowsW_snoc (D t : Nat) : rowsW D (t + 1) = rowsW D t ++ [rwB D t] := by simp [rowsW, List.range_succ]
theorem rowsW_at {D t T : Nat} (h : T < t) : (rowsW D t)[T]? = some (rwB D T) := by simp [rowsW, h]
/-- Row t, j places filled. -/
def rowAt (D : Nat) : Nat → Nat → List Int
  | 0, j => onB (D + 1) j
  | T + 1, j => stB (rwB D T) (T + 1) j
theorem rowAt_len (D t j : Nat) (h : j ≤ D + 1) : (rowAt D t j).length = D + 1 := by
  cases t with
  | zero => unfold rowAt onB; simp; omega
  | succ T => unfold rowAt; rw [stB_len, rwB_len]
theorem rowAt_none (D t : Nat) : rowAt D t 0 = List.replicate (D + 1) 0 := by
  cases t with
  | zero => unfold rowAt onB; simp
  | succ T => show List.replicate (rwB D T).length 0 = _; rw [rwB_len]
theorem rowAt_full (D t : Nat) : rowAt D t (D + 1 - t) = rwB D t := by
  cases t with
  | zero => unfold rowAt onB rwB; simp
  | succ T => show stB (rwB D T) (T + 1) (D + 1 - (T + 1)) = stB (rwB D T) (T + 1) (D - T); rw [show D + 1 - (T + 1) = D - T by omega]
theorem rw_at {D t : Nat} {r : List Int} : (rowsW D t ++ [r])[t]? = some r := by
  rw [List.getElem?_append_right (by rw [rowsW_len]; exact Nat.le_refl _), rowsW_len, Nat.sub_self]; rfl
theorem rw_lo {D t T : Nat} {r : List Int} (h : T < t) : (rowsW D t ++ [r])[T]? = some (rwB D T) := by
  rw [List.getElem?_append_left (by rw [rowsW_len]; exact h), rowsW_at h]
theorem rw_set {D t : Nat} {r r' : List Int} : (rowsW D t ++ [r]).set t r' = rowsW D t ++ [r'] := by
  rw [List.set_append_right _ _ (by rw [rowsW_len]; exact Nat.le_refl _), rowsW_len, Nat.sub_self]; rfl


end Go.Proofs.Yteiffomekjadgaa
