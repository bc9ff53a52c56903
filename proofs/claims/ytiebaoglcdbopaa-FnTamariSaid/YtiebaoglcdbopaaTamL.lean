/- Which trees are alike; the order, the meet and the join: what is answered. -/
import Derived.Test.YtiebaoglcdbopaaWtS2
namespace Go.Proofs.Ytiebaoglcdbopaa
open Go.RowKit Go.Deep

theorem Own.caps2 {w : World} {e : TypeId} {B : Nat} {A : Option Addr} {n c : Nat} {vs : List Value} (h : Own w e B A n c vs) : n ≤ c ∧ c ≤ 9223372036854775807 := by
  rcases h.2 with ⟨h1, h2⟩ | ⟨g, cap, cur, h1, _, _, h2, h3, _⟩
  · cases h1; exact ⟨by omega, by omega⟩
  · cases h1; unfold maxLen at h3; exact ⟨h2, by omega⟩
theorem stepI2 (w : World) {ops : Array Oper} {o : Oper} {a : Act} {K : Act → World → Prop} {Q : Exit → Act → World → Prop} {E : Prop} (hgd : o.guard = none) (s x : Operand)
    (ho : o.op = .call { callee := .builtin .append, args := #[s, x], argTypes := #[42, 42] })
    (B : Nat) (A : Option Addr) (n c : Nat) (vs : List Value) (hs : a.eval s = .slice A n c) (hown : Own w 3 B A n c vs)
    (g : Nat) (y : Int) (hx : a.eval x = .slice (some ⟨g, 0, none⟩) 1 1) (hy : w.cell? ⟨g, 0, none⟩ = some (.int .i64 y)) (hn : n ≤ 1000000000) (hbase' : B ≤ g)
    (h : ∀ A' c' w', Own w' 3 B A' (n + 1) c' (vs ++ [.int .i64 y]) → w.grownBy w' (Value.ownBlock (.slice A n c)) → Below B w w' → K (a.put o.dst (.slice A' (n + 1) c')) w') :
    if Region.wanted o (yielded ops a.tmps) = true then Oper.wp Try.prog o a w K Q else E :=
  step_app1 w hgd s x 42 ho 3 (.int .i64 0) 8 Try.underlying42 info_int rfl (by decide) B A n c vs hs hown g _ hx hy rfl hn hbase' h

/-- Two texts are trees with as many nodes, at most m. -/
def alikeB (a b : List UInt8) (m : Int) : Bool := isB a && isB b && (a.length == b.length) && decide (nodesB a ≤ m)
theorem alike_no1 {a b : List UInt8} {m : Int} (h : isB a = false) : alikeB a b m = false := by simp [alikeB, h]
theorem alike_no2 {a b : List UInt8} {m : Int} (h : isB b = false) : alikeB a b m = false := by simp [alikeB, h]
theorem alike_tx {s t : Tr} {m : Int} (hs : nodes s ≤ 8) (ht : nodes t ≤ 8) : alikeB (tx s) (tx t) m = (decide (nodes s = nodes t) && decide ((nodes s : Int) ≤ m)) := by
  unfold alikeB
  rw [isB_tx hs, isB_tx ht, nodesB_tx hs, tx_len, tx_len]
  have : (3 * nodes s + 1 == 3 * nodes t + 1) = decide (nodes s = nodes t) := by
    rw [Bool.eq_iff_iff]; simp; omega
  rw [this]; simp
theorem alike_yes {a b : List UInt8} {m : Int} (h : alikeB a b m = true) : ∃ s t, a = tx s ∧ b = tx t ∧ nodes s ≤ 8 ∧ nodes t ≤ 8 ∧ sh s = s ∧ sh t = t ∧ nodes s = nodes t ∧ (nodes s : Int) ≤ m := by
  have h0 := h
  unfold alikeB at h
  simp only [Bool.and_eq_true] at h
  obtain ⟨s, rfl, hs, ss⟩ := isB_iff.1 h.1.1.1
  obtain ⟨t, rfl, ht, st⟩ := isB_iff.1 h.1.1.2
  rw [alike_tx hs ht] at h0
  simp only [Bool.and_eq_true, decide_eq_true_eq] at h0
  exact ⟨s, t, rfl, rfl, hs, ht, ss, st, h0.1, h0.2⟩

/-- The first k weights are not greater. -/
def wleTo (xs ys : List Int) (k : Nat) : Bool := (List.range k).all fun j => decide (xs.getD j 0 ≤ ys.getD j 0)
theorem wleTo_succ (xs ys : List Int) (k : Nat) : wleTo xs ys (k + 1) = (wleTo xs ys k && decide (xs.getD k 0 ≤ ys.getD k 0)) := by
  simp [wleTo, List.range_succ, List.all_append]
theorem wleTo_false {xs ys : List Int} {k n : Nat} (hk : k < n) (h : ys.getD k 0 < xs.getD k 0) : wleTo xs ys n = false := by
  rw [Bool.eq_false_iff]
  intro hh
  unfold wleTo at hh
  rw [List.all_eq_true] at hh
  have := hh k (List.mem_range.2 hk)
  rw [decide_eq_true_eq] at this
  omega
def tlessB (a b : List UInt8) : Bool := alikeB a b 8 && wleTo (wtsB a) (wtsB b) (wtsB a).length
/-- The lesser of each two. -/
def minTo (xs ys : List Int) (k : Nat) : List Int := (List.range k).map fun j => if ys.getD j 0 < xs.getD j 0 then ys.getD j 0 else xs.getD j 0
theorem minTo_len (xs ys : List Int) (k : Nat) : (minTo xs ys k).length = k := by simp [minTo]
theorem minTo_succ (xs ys : List Int) (k : Nat) : minTo xs ys (k + 1) = minTo xs ys k ++ [if ys.getD k 0 < xs.getD k 0 then ys.getD k 0 else xs.getD k 0] := by
  simp [minTo, List.range_succ]
theorem minTo_set {xs ys : List Int} {k : Nat} {x y : Int} (hx : xs[k]? = some x) (hy : ys.getD k 0 = y) : (minTo xs ys k ++ xs.drop k).set k (if y < x then y else x) = minTo xs ys (k + 1) ++ xs.drop (k + 1) := by
  obtain ⟨h1, h2⟩ := List.getElem?_eq_some_iff.1 hx
  have e : xs.drop k = x :: xs.drop (k + 1) := by rw [List.drop_eq_getElem_cons h1, h2]
  rw [minTo_succ, hy, getDx hx, e, List.set_append_right _ _ (by rw [minTo_len]; exact Nat.le_refl _), minTo_len, Nat.sub_self, List.set_cons_zero, List.append_assoc]
  rfl
theorem minTo_at {xs ys : List Int} {k : Nat} : (minTo xs ys k ++ xs.drop k)[k]? = xs[k]? := by
  rw [List.getElem?_append_right (by rw [minTo_len]; exact Nat.le_refl _), minTo_len, Nat.sub_self, List.getElem?_drop, Nat.add_zero]
theorem minTo_all {xs ys : List Int} {n : Nat} (h : xs.length = n) : minTo xs ys n ++ xs.drop n = minTo xs ys n := by
  rw [List.drop_eq_nil_of_le (by omega), List.append_nil]
def meetB (a b : List UInt8) : List UInt8 × Bool := if alikeB a b 8 then bwB (minTo (wtsB a) (wtsB b) (wtsB a).length) else ([], false)
def joinB (a b : List UInt8) : List UInt8 × Bool := match parseB a, parseB b with
  | some s, some t => match parseB (meetB (tx (mir s)) (tx (mir t))).1 with
    | some m => if (meetB (tx (mir s)) (tx (mir t))).2 then (tx (mir m), true) else ([], false)
    | none => ([], false)
  | _, _ => ([], false)
/-- What meetB answers is a tree with as many nodes, or nothing. -/
theorem meetB_form (a b : List UInt8) : meetB a b = ([], false) ∨ ∃ m, meetB a b = (tx m, true) ∧ nodes m ≤ 8 ∧ sh m = m ∧ (nodes m : Int) = nodesB a := by
  unfold meetB
  split
  · next h =>
    obtain ⟨s, t, rfl, rfl, hs, ht, _, _, hst, _⟩ := alike_yes h
    unfold bwB
    rcases hb : bw (minTo (wtsB (tx s)) (wtsB (tx t)) (wtsB (tx s)).length) with _ | m
    · exact Or.inl rfl
    · obtain ⟨h1, h2, h3⟩ := bw_some hb
      refine Or.inr ⟨m, rfl, h2, h3, ?_⟩
      rw [nodesB_tx hs, ← wts_len, h1, minTo_len, wtsB_tx hs, wts_len]
  · exact Or.inl rfl
theorem joinB_no {a b : List UInt8} (h : isB a = false ∨ isB b = false) : joinB a b = ([], false) := by
  unfold isB at h
  unfold joinB
  rcases ha : parseB a with _ | s
  · rfl
  · rcases hb : parseB b with _ | t
    · rfl
    · rw [ha, hb] at h; rcases h with h | h <;> cases h
theorem joinB_tx {s t : Tr} (hs : nodes s ≤ 8) (ht : nodes t ≤ 8) : joinB (tx s) (tx t) = match parseB (meetB (tx (mir s)) (tx (mir t))).1 with
    | some m => if (meetB (tx (mir s)) (tx (mir t))).2 then (tx (mir m), true) else ([], false)
    | none => ([], false) := by
  unfold joinB
  rw [parseB_tx hs, parseB_tx ht]
  show (match parseB (meetB (tx (mir (sh s))) (tx (mir (sh t)))).1 with | some m => _ | none => _) = _
  rw [mir_sh, mir_sh]
theorem joinB_yes {s t m : Tr} (hs : nodes s ≤ 8) (ht : nodes t ≤ 8) (hm : nodes m ≤ 8) (h : meetB (tx (mir s)) (tx (mir t)) = (tx m, true)) : joinB (tx s) (tx t) = (tx (mir m), true) := by
  rw [joinB_tx hs ht, h]
  show (match parseB (tx m) with | some m => _ | none => _) = _
  rw [parseB_tx hm]
  show (tx (mir (sh m)), true) = _
  rw [mir_sh]
theorem joinB_bad {s t : Tr} (hs : nodes s ≤ 8) (ht : nodes t ≤ 8) (h : meetB (tx (mir s)) (tx (mir t)) = ([], false)) : joinB (tx s) (tx t) = ([], false) := by
  rw [joinB_tx hs ht, h]
  rfl

end Go.Proofs.Ytiebaoglcdbopaa
