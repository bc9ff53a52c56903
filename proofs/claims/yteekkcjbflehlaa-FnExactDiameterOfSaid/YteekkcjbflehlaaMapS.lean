/- A map from texts to texts that the call makes. -/
import Derived.Test.YteekkcjbflehlaaStrs
import Derived.Maps.OwnOps
import Derived.Maps.OwnSet
import Derived.Maps.StringElems
namespace Go.Proofs.Yteekkcjbflehlaa
set_option linter.unusedVariables false
open Go.RowKit

theorem lawS : Go.Maps.Keyed Try.prog 9 := Go.Maps.string_keyed Try.underlying9
theorem zeroS (w : World) : (zeroValue 9).run Try.prog w = .ok (.string ByteArray.empty) w := by kernel_rfl
/-- Block b is a map of at most n entries that answers as M. -/
def MSS (w : World) (b n : Nat) (M : List UInt8 → Option (List UInt8)) : Prop :=
  ∃ D : DataW Unit, w.ownsMap Try.prog 9 (plainElem Try.prog 9) b n D ∧ ∀ k, Maps.has D (.string k) = (M k).isSome ∧ ∀ v, M k = some v → ∀ z, D.atKey (.string k) z = .lit (.string v)
theorem MSS.made (w : World) : MSS (w.alloc (.map #[] 0)) w.heap.size 0 (fun _ => none) :=
  ⟨.map [], World.ownsMap_made _ _ _ _, fun k => ⟨rfl, fun v h => by cases h⟩⟩
theorem MSS.lt {w : World} {b n : Nat} {M : List UInt8 → Option (List UInt8)} (h : MSS w b n M) : b < w.heap.size := by
  obtain ⟨D, h1, _⟩ := h; exact h1.lt
theorem MSS.kept {w w' : World} {b n : Nat} {M : List UInt8 → Option (List UInt8)} {row : Option Nat} (h : MSS w b n M) (hg : w.grownBy w' row) (hne : some b ≠ row) : MSS w' b n M := by
  obtain ⟨D, h1, h2⟩ := h; exact ⟨D, h1.kept hg hne, h2⟩
theorem MSS.keep {w w' : World} {b n : Nat} {M : List UInt8 → Option (List UInt8)} (h : MSS w b n M) (hk : w'.heap[b]? = w.heap[b]?) : MSS w' b n M := by
  obtain ⟨D, ⟨es, clock, hb, F, hs, hD⟩, h2⟩ := h
  exact ⟨D, ⟨es, clock, hk.trans hb, F, hs, hD⟩, h2⟩
theorem MSS.below {w w' : World} {b n : Nat} {M : List UInt8 → Option (List UInt8)} (h : MSS w b n M) (hb : Below w.heap.size w w') : MSS w' b n M := h.keep (hb.block b h.lt)
theorem MSS.alloc {w : World} {b n : Nat} {M : List UInt8 → Option (List UInt8)} (h : MSS w b n M) (o : Obj) : MSS (w.alloc o) b n M := h.keep (Below.heap_alloc w o b h.lt)
theorem MSS.drewN {w : World} {b n : Nat} {M : List UInt8 → Option (List UInt8)} (h : MSS w b n M) (k : Nat) : MSS (w.drewN k) b n M := h.keep rfl
theorem MSS.congr {w : World} {b n : Nat} {M M' : List UInt8 → Option (List UInt8)} (h : MSS w b n M) (e : ∀ k, M k = M' k) : MSS w b n M' := by
  rw [show M' = M from funext fun k => (e k).symm]; exact h
theorem str_of_lit {s : ByteArray} {l : List UInt8} (h : s.data.toList = l) : s = bs l := by
  rw [← h, bs_toList]
theorem MSS.look_ok {w : World} {b n : Nat} {M : List UInt8 → Option (List UInt8)} (h : MSS w b n M) (k : List UInt8) (hk : k.length ≤ maxLen) :
    (Instr.lookup 68 (.map (some b)) (.string (bs k)) true).run Try.prog w = .ok (.tuple #[.string (bs ((M k).getD [])), .bool (M k).isSome]) w := by
  obtain ⟨D, h1, h2⟩ := h
  have hkey : keyOf Try.prog 9 (.string (bs k)) = some (.string k) := by
    have := Go.WideMaps.keyOf_string_mk (P := Try.prog) Try.underlying9 (s := bs k) (by rw [size_bs]; exact hk)
    exact this
  obtain ⟨v, ps, hrun, hv⟩ := h1.look_ok lawS Try.underlying68 (zeroS w) (plainElem_string Try.underlying9 (s := ByteArray.empty) (by decide)) hkey
  obtain ⟨s, rfl, hs, _⟩ := plainElem_string_inv Try.underlying9 hv
  have hs1 : D.atKey (.string k) (.lit (.string ByteArray.empty.data.toList)) = .lit (.string s.data.toList) := congrArg Prod.fst hs
  rw [hrun, (h2 k).1]
  have e : s = bs ((M k).getD []) := by
    rcases hm : M k with _ | x
    · have hn : Maps.has D (.string k) = false := by rw [(h2 k).1, hm]; rfl
      rw [Maps.atKey_of_not_has hn] at hs1
      simp only [DataW.lit.injEq, Lit.string.injEq] at hs1
      exact str_of_lit hs1.symm
    · rw [(h2 k).2 x hm] at hs1
      simp only [DataW.lit.injEq, Lit.string.injEq] at hs1
      exact str_of_lit hs1.symm
  rw [e]
theorem MSS.look {w : World} {b n : Nat} {M : List UInt8 → Option (List UInt8)} (h : MSS w b n M) (k : List UInt8) (hk : k.length ≤ maxLen) :
    (Instr.lookup 68 (.map (some b)) (.string (bs k)) false).run Try.prog w = .ok (.string (bs ((M k).getD []))) w := by
  obtain ⟨D, h1, h2⟩ := h
  have hkey : keyOf Try.prog 9 (.string (bs k)) = some (.string k) := by
    have := Go.WideMaps.keyOf_string_mk (P := Try.prog) Try.underlying9 (s := bs k) (by rw [size_bs]; exact hk)
    exact this
  obtain ⟨v, ps, hrun, hv⟩ := h1.lookup lawS Try.underlying68 (zeroS w) (plainElem_string Try.underlying9 (s := ByteArray.empty) (by decide)) hkey
  obtain ⟨s, rfl, hs, _⟩ := plainElem_string_inv Try.underlying9 hv
  have hs1 : D.atKey (.string k) (.lit (.string ByteArray.empty.data.toList)) = .lit (.string s.data.toList) := congrArg Prod.fst hs
  rw [hrun]
  have e : s = bs ((M k).getD []) := by
    rcases hm : M k with _ | x
    · have hn : Maps.has D (.string k) = false := by rw [(h2 k).1, hm]; rfl
      rw [Maps.atKey_of_not_has hn] at hs1
      simp only [DataW.lit.injEq, Lit.string.injEq] at hs1
      exact str_of_lit hs1.symm
    · rw [(h2 k).2 x hm] at hs1
      simp only [DataW.lit.injEq, Lit.string.injEq] at hs1
      exact str_of_lit hs1.symm
  rw [e]
/-- m[k] = v. -/
theorem storeS (w : World) {ops : Array Oper} {rest : List Oper} {o : Oper} {a : Act} {Q : Exit → Act → World → Prop} (hg : o.guard = none) (m x v : Operand) (hop : o.op = Op.mapUpdate 68 m x v)
    (b n : Nat) (M : List UInt8 → Option (List UInt8)) (hm : a.eval m = .map (some b)) (h : MSS w b n M) (hn : n ≤ 1000000000) (k y : List UInt8) (hx : a.eval x = .string (bs k)) (hv : a.eval v = .string (bs y)) (hk : k.length ≤ maxLen) (hy : y.length ≤ maxLen)
    (hK : ∀ w', MSS w' b (n + 1) (fun z => if z = k then some y else M z) → w.grownBy w' (some b) → wpList Try.prog ops Q rest (a.put o.dst undef) w') : wpList Try.prog ops Q (o :: rest) a w := by
  obtain ⟨D, h1, h2⟩ := h
  have hkey : keyOf Try.prog 9 (.string (bs k)) = some (.string k) := by
    have := Go.WideMaps.keyOf_string_mk (P := Try.prog) Try.underlying9 (s := bs k) (by rw [size_bs]; exact hk)
    exact this
  have hval : plainElem (H := Unit) Try.prog 9 (.string (bs y)) = some (.lit (.string y), []) := by
    have := plainElem_string (H := Unit) (P := Try.prog) Try.underlying9 (s := bs y) (by rw [size_bs]; exact hy)
    exact this
  refine wpList_mapUpdate_own w hg m x v 68 hop 9 9 lawS Try.underlying68 _ b n D hm h1 (by unfold maxLen; omega) _ _ _ hx hv hkey _ [] hval ?_
  intro w' hown hgr
  refine hK w' ⟨_, hown, fun z => ?_⟩ hgr
  by_cases hz : z = k
  · subst hz
    rw [Maps.has_put_same h1.isMap (by trivial)]
    show _ = (if z = z then some y else M z).isSome ∧ ∀ u, (if z = z then some y else M z) = some u → _
    rw [if_pos rfl]
    refine ⟨rfl, fun u hu d => ?_⟩
    rw [Maps.atKey_put_same h1.isMap (by trivial)]
    simp at hu
    rw [hu]
  · have hne : (Lit.string z) ≠ Lit.string k := fun e => hz (by injection e)
    rw [Maps.has_put_other hne]
    show _ = (if z = k then some y else M z).isSome ∧ ∀ u, (if z = k then some y else M z) = some u → _
    rw [if_neg hz]
    refine ⟨(h2 z).1, fun u hu d => ?_⟩
    rw [Maps.atKey_put_other hne]
    exact (h2 z).2 u hu d

end Go.Proofs.Yteekkcjbflehlaa
