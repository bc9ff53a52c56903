/- Slices as lists of values: what is read (Rd), what a call owns (Own). No program is named here. -/
import Derived.Test.YteiffomekjadgaaLib
import Derived.Laws.OwnMore
import Derived.Deep.AppendLies
import Derived.Deep.Draws
import Derived.Deep.OwnRows
import Derived.Laws.BytesArg
import Derived.Deep.RegionLaw
namespace Go.Proofs.Yteiffomekjadgaa
open Go.RowKit

/-- The slice with address A and length n holds the values vs. -/
def Rd (w : World) (A : Option Addr) (n : Nat) (vs : List Value) : Prop :=
  vs.length = n ∧ (0 < n → ∃ b off, A = some ⟨b, off, none⟩ ∧ ∀ j u, vs[j]? = some u → w.cell? ⟨b, off + j, none⟩ = some u)
section
variable {w w' : World} {A : Option Addr} {n B : Nat} {vs : List Value}
theorem Rd.len (h : Rd w A n vs) : vs.length = n := h.1
theorem Rd.none_ : Rd w A 0 [] := ⟨rfl, fun h => absurd h (by omega)⟩
theorem Rd.at_ {k : Nat} (h : Rd w A n vs) (hk : k < n) : ∃ b off u, A = some ⟨b, off, none⟩ ∧ vs[k]? = some u ∧ w.cell? ⟨b, off + k, none⟩ = some u := by
  obtain ⟨b, off, e, hc⟩ := h.2 (by omega)
  have hl : k < vs.length := by have := h.1; omega
  exact ⟨b, off, vs[k], e, List.getElem?_eq_getElem hl, hc k _ (List.getElem?_eq_getElem hl)⟩
theorem Rd.lt (h : Rd w A n vs) (hn : 0 < n) : ∀ ad, A = some ad → ad.block < w.heap.size := by
  intro ad e
  obtain ⟨b, off, e', hc⟩ := h.2 hn
  rw [e'] at e
  cases e
  have hl : 0 < vs.length := by have := h.1; omega
  exact World.block_lt_of_cell? _ _ (hc 0 _ (List.getElem?_eq_getElem hl))
theorem Rd.keep (h : Rd w A n vs) (hk : ∀ p : Addr, p.block < w.heap.size → w'.cell? p = w.cell? p) : Rd w' A n vs :=
  ⟨h.1, fun hn => by
    obtain ⟨b, off, e, hc⟩ := h.2 hn
    have hb : b < w.heap.size := h.lt hn _ e
    exact ⟨b, off, e, fun j u hu => (hk _ hb).trans (hc j u hu)⟩⟩
theorem Rd.below (h : Rd w A n vs) (hb : Below w.heap.size w w') : Rd w' A n vs := h.keep fun _ hp => hb.cell hp
theorem Rd.below' (h : Rd w A n vs) (hb : Below B w w') (hB : w.heap.size ≤ B) : Rd w' A n vs := h.keep fun _ hp => hb.cell (Nat.lt_of_lt_of_le hp hB)
theorem Rd.drewN (h : Rd w A n vs) (k : Nat) : Rd (w.drewN k) A n vs := h
theorem Rd.drew (h : Rd w A n vs) : Rd w.drew A n vs := h
theorem Rd.alloc (h : Rd w A n vs) (o : Obj) : Rd (w.alloc o) A n vs := h.keep fun _ hp => World.cell?_alloc_lt w o _ hp
end

/-- ints as values; strings as values -/
def iv (xs : List Int) : List Value := xs.map (Value.int .i64)
def sv (xs : List (List UInt8)) : List Value := xs.map fun l => Value.string (bs l)
theorem iv_len (xs : List Int) : (iv xs).length = xs.length := by simp [iv]
theorem sv_len (xs : List (List UInt8)) : (sv xs).length = xs.length := by simp [sv]
theorem Rd.ati {w : World} {A : Option Addr} {n k : Nat} {xs : List Int} (h : Rd w A n (iv xs)) (hk : k < n) :
    ∃ b off x, A = some ⟨b, off, none⟩ ∧ xs[k]? = some x ∧ w.cell? ⟨b, off + k, none⟩ = some (.int .i64 x) := by
  obtain ⟨b, off, u, e, hu, hc⟩ := h.at_ hk
  unfold iv at hu
  rw [List.getElem?_map, Option.map_eq_some_iff] at hu
  obtain ⟨x, hx, rfl⟩ := hu
  exact ⟨b, off, x, e, hx, hc⟩
theorem Rd.ats {w : World} {A : Option Addr} {n k : Nat} {xs : List (List UInt8)} (h : Rd w A n (sv xs)) (hk : k < n) :
    ∃ b off x, A = some ⟨b, off, none⟩ ∧ xs[k]? = some x ∧ w.cell? ⟨b, off + k, none⟩ = some (.string (bs x)) := by
  obtain ⟨b, off, u, e, hu, hc⟩ := h.at_ hk
  unfold sv at hu
  rw [List.getElem?_map, Option.map_eq_some_iff] at hu
  obtain ⟨x, hx, rfl⟩ := hu
  exact ⟨b, off, x, e, hx, hc⟩

/-- The slice value with address A, length n, capacity c is the call's own from block B on, and holds vs. -/
def Own (w : World) (e : TypeId) (B : Nat) (A : Option Addr) (n c : Nat) (vs : List Value) : Prop := w.ownsRow B e 1 (.slice A n c) n vs
section
variable {w w' : World} {e : TypeId} {A : Option Addr} {n c B B' : Nat} {vs : List Value}
theorem Own.len (h : Own w e B A n c vs) : vs.length = n := by have := h.1; omega
theorem Own.of_row {v : Value} (h : w.ownsRow B e 1 v n vs) : ∃ A c, v = .slice A n c ∧ Own w e B A n c vs := by
  rcases h.2 with ⟨rfl, rfl⟩ | ⟨g, cap, cur, rfl, _⟩
  · exact ⟨none, 0, rfl, h⟩
  · exact ⟨_, cap, rfl, h⟩
theorem Own.form (h : Own w e B A n c vs) : (A = none ∧ n = 0 ∧ c = 0) ∨ ∃ g, A = some ⟨g, 0, none⟩ ∧ B ≤ g ∧ g < w.heap.size ∧ n ≤ c := by
  rcases h.2 with ⟨h1, h2⟩ | ⟨g, cap, cur, h1, hg, hh, hn, _⟩
  · cases h1; exact Or.inl ⟨rfl, h2, rfl⟩
  · cases h1; exact Or.inr ⟨g, rfl, hg, (Array.getElem?_eq_some_iff.1 hh).1, hn⟩
theorem Own.head (h : Own w e B A n c vs) (hn : 0 < n) : ∃ g, A = some ⟨g, 0, none⟩ ∧ B ≤ g ∧ g < w.heap.size := by
  rcases h.form with ⟨_, h2, _⟩ | ⟨g, h1, h2, h3, _⟩
  · omega
  · exact ⟨g, h1, h2, h3⟩
theorem Own.rd (h : Own w e B A n c vs) : Rd w A n vs := by
  refine ⟨h.len, fun hn => ?_⟩
  obtain ⟨g, rfl, _⟩ := h.head hn
  refine ⟨g, 0, rfl, fun j u hu => ?_⟩
  have := World.ownsRow.cells h (g := g) rfl j u hu
  rwa [show (⟨g, 0, none⟩ : Addr).add j = ⟨g, 0 + j, none⟩ from by unfold Addr.add; split <;> simp_all] at this
theorem Own.at_ {k : Nat} (h : Own w e B A n c vs) (hk : k < n) : ∃ g u, A = some ⟨g, 0, none⟩ ∧ B ≤ g ∧ g < w.heap.size ∧ vs[k]? = some u ∧ w.cell? ⟨g, k, none⟩ = some u ∧ w.frozen? ⟨g, k, none⟩ = false := by
  obtain ⟨g, rfl, h1, h2⟩ := h.head (by omega)
  have hl : k < vs.length := by have := h.len; omega
  refine ⟨g, vs[k], rfl, h1, h2, List.getElem?_eq_getElem hl, ?_, World.ownsRow.frozenAt h k⟩
  rw [World.ownsRow.cellAt h k (by omega), List.getElem?_eq_getElem hl]
theorem Own.mono (h : Own w e B A n c vs) (hB : B' ≤ B) : Own w e B' A n c vs := by
  obtain ⟨h1, h2⟩ := h
  refine ⟨h1, ?_⟩
  rcases h2 with h2 | ⟨g, cap, cur, hv, hg, r⟩
  · exact Or.inl h2
  · exact Or.inr ⟨g, cap, cur, hv, Nat.le_trans hB hg, r⟩
/-- Kept where its own block is the same. -/
theorem Own.keep (h : Own w e B A n c vs) (hk : ∀ g, A = some ⟨g, 0, none⟩ → w'.heap[g]? = w.heap[g]?) : Own w' e B A n c vs := by
  obtain ⟨h1, h2⟩ := h
  refine ⟨h1, ?_⟩
  rcases h2 with h2 | ⟨g, cap, cur, hv, hg, hh, r⟩
  · exact Or.inl h2
  · cases hv
    exact Or.inr ⟨g, _, cur, rfl, hg, (hk g rfl).trans hh, r⟩
theorem Own.below (h : Own w e B A n c vs) (hb : Below w.heap.size w w') : Own w' e B A n c vs :=
  h.keep fun g hg => by
    rcases h.form with ⟨h1, _⟩ | ⟨g', h1, _, h3, _⟩
    · rw [h1] at hg; cases hg
    · rw [h1] at hg; cases hg; exact hb.block _ h3
theorem Own.drewN (h : Own w e B A n c vs) (k : Nat) : Own (w.drewN k) e B A n c vs := h
theorem Own.drew (h : Own w e B A n c vs) : Own w.drew e B A n c vs := h
theorem Own.alloc (h : Own w e B A n c vs) (o : Obj) : Own (w.alloc o) e B A n c vs := World.ownsRow.alloc h o
theorem Own.set_far (h : Own w e B A n c vs) {p : Addr} (hp : ∀ g, A = some ⟨g, 0, none⟩ → g ≠ p.block) (u : Value) : Own (w.setCell p u) e B A n c vs :=
  h.keep fun g hg => Below.heap_setCell w p u g (hp g hg)
theorem Own.set_ {g : Nat} (h : Own w e B (some ⟨g, 0, none⟩) n c vs) (j : Nat) (u : Value) : Own (w.setCell ⟨g, j, none⟩ u) e B (some ⟨g, 0, none⟩) n c (vs.set j u) :=
  (World.ownsRow.stored h j u).1
theorem Own.nil_ : Own w e B none 0 0 [] := World.ownsRow_nil w B e 1
theorem Own.lit (w : World) (e : TypeId) (cs : Array Value) (n : Nat) (hs : cs.size = n) (hm : n ≤ maxLen) : Own (w.alloc (.cells cs e)) e w.heap.size (some ⟨w.heap.size, 0, none⟩) n n cs.toList :=
  World.ownsRow_lit w cs n (Nat.le_refl _) hm (by omega)
theorem Own.made (w : World) (e : TypeId) (z : Value) (n : Nat) (hm : n ≤ maxLen) : Own (w.alloc (.cells (madeCells #[z] n) e)) e w.heap.size (some ⟨w.heap.size, 0, none⟩) n n (List.replicate n z) := by
  rw [← toList_madeCells_one]
  exact Own.lit w e _ n (by simp [madeCells]) hm
end

theorem Own.blk {w : World} {e : TypeId} {A : Option Addr} {n c B : Nat} {vs : List Value} (h : Own w e B A n c vs) : ∀ k, Value.ownBlock (.slice A n c) = some k → B ≤ k ∧ k < w.heap.size := World.ownsRow.lt h

/-- append of one element to a slice of the call's own, nil or not: it may grow. -/
theorem wp_app1 {P : Program} (w : World) {o : Oper} {a : Act} {K : Act → World → Prop} {Q : Exit → Act → World → Prop} (s x : Operand) (t : TypeId)
    (ho : o.op = .call { callee := .builtin .append, args := #[s, x], argTypes := #[t, t] })
    (e : TypeId) (z : Value) (bytes : Nat) (ht : P.underlying t = some (.slice e)) (hinfo : (P.info? e).map (fun i => (i.zero, i.size, i.bytes)) = some (some z, 1, bytes)) (hzs : z.cells.size = 1) (hb16 : bytes ≤ 64)
    (B : Nat) (A : Option Addr) (n c : Nat) (vs : List Value) (hs : a.eval s = .slice A n c) (hown : Own w e B A n c vs)
    (g : Nat) (y : Value) (hx : a.eval x = .slice (some ⟨g, 0, none⟩) 1 1) (hy : w.cell? ⟨g, 0, none⟩ = some y) (h1 : y.oneCell' = true) (hn : n ≤ 1000000000) (hbase' : B ≤ g)
    (h : ∀ A' c' w', Own w' e B A' (n + 1) c' (vs ++ [y]) → w.grownBy w' (Value.ownBlock (.slice A n c)) → Below B w w' → K (a.put o.dst (.slice A' (n + 1) c')) w') : o.wp P a w K Q := by
  obtain ⟨i, hi, hz0, hz1, hz2⟩ := info_parts hinfo
  have hbase : B ≤ w.heap.size := by have := World.block_lt_of_cell? _ _ hy; simp at this; omega
  refine wp_append_own w s x t ho B e i z 1 bytes ht hi hz0 hz1 hz2 hzs (by decide) _ n vs hs hown ⟨g, 0, none⟩ 1 1 [y] hx rfl ?_ ?_ ?_ ?_ hbase ?_
  · intro j u hj
    match j, hj with
    | 0, hj => simp at hj; subst hj; simpa [Addr.add] using hy
    | j + 1, hj => simp at hj
  · intro u hu; simp at hu; subst hu; exact h1
  · unfold maxLen; omega
  · have := Nat.mul_le_mul (show n + 1 ≤ 1000000001 by omega) hb16
    omega
  · intro v' w' hown' hg _
    obtain ⟨A', c', rfl, ho'⟩ := Own.of_row hown'
    exact h A' c' w' ho' hg ((Below.refl _ _).grown hg hbase fun k hk => (hown.blk k hk).1)
theorem app1 {P : Program} (w : World) {ops : Array Oper} {rest : List Oper} {o : Oper} {a : Act} {Q : Exit → Act → World → Prop} (hgd : o.guard = none) (s x : Operand) (t : TypeId)
    (ho : o.op = .call { callee := .builtin .append, args := #[s, x], argTypes := #[t, t] })
    (e : TypeId) (z : Value) (bytes : Nat) (ht : P.underlying t = some (.slice e)) (hinfo : (P.info? e).map (fun i => (i.zero, i.size, i.bytes)) = some (some z, 1, bytes)) (hzs : z.cells.size = 1) (hb16 : bytes ≤ 64)
    (B : Nat) (A : Option Addr) (n c : Nat) (vs : List Value) (hs : a.eval s = .slice A n c) (hown : Own w e B A n c vs)
    (g : Nat) (y : Value) (hx : a.eval x = .slice (some ⟨g, 0, none⟩) 1 1) (hy : w.cell? ⟨g, 0, none⟩ = some y) (h1 : y.oneCell' = true) (hn : n ≤ 1000000000) (hbase' : B ≤ g)
    (h : ∀ A' c' w', Own w' e B A' (n + 1) c' (vs ++ [y]) → w.grownBy w' (Value.ownBlock (.slice A n c)) → Below B w w' → wpList P ops Q rest (a.put o.dst (.slice A' (n + 1) c')) w') : wpList P ops Q (o :: rest) a w :=
  wpList_plain hgd fun _ hK => wp_app1 w s x t ho e z bytes ht hinfo hzs hb16 B A n c vs hs hown g y hx hy h1 hn hbase' fun A' c' w' a1 a2 a3 => hK _ _ (h A' c' w' a1 a2 a3)
/-- The same as one step of a region that draws its order. -/
theorem step_app1 {P : Program} (w : World) {ops : Array Oper} {o : Oper} {a : Act} {K : Act → World → Prop} {Q : Exit → Act → World → Prop} {E : Prop} (hgd : o.guard = none) (s x : Operand) (t : TypeId)
    (ho : o.op = .call { callee := .builtin .append, args := #[s, x], argTypes := #[t, t] })
    (e : TypeId) (z : Value) (bytes : Nat) (ht : P.underlying t = some (.slice e)) (hinfo : (P.info? e).map (fun i => (i.zero, i.size, i.bytes)) = some (some z, 1, bytes)) (hzs : z.cells.size = 1) (hb16 : bytes ≤ 64)
    (B : Nat) (A : Option Addr) (n c : Nat) (vs : List Value) (hs : a.eval s = .slice A n c) (hown : Own w e B A n c vs)
    (g : Nat) (y : Value) (hx : a.eval x = .slice (some ⟨g, 0, none⟩) 1 1) (hy : w.cell? ⟨g, 0, none⟩ = some y) (h1 : y.oneCell' = true) (hn : n ≤ 1000000000) (hbase' : B ≤ g)
    (h : ∀ A' c' w', Own w' e B A' (n + 1) c' (vs ++ [y]) → w.grownBy w' (Value.ownBlock (.slice A n c)) → Below B w w' → K (a.put o.dst (.slice A' (n + 1) c')) w') :
    if Region.wanted o (yielded ops a.tmps) = true then Oper.wp P o a w K Q else E := by
  have hw : Region.wanted o (yielded ops a.tmps) = true := by simp [Region.wanted, hgd]
  rw [if_pos hw]
  exact wp_app1 w s x t ho e z bytes ht hinfo hzs hb16 B A n c vs hs hown g y hx hy h1 hn hbase' h

/-- append of one element, and where the new slice lies: in the old block, or in a new one. -/
theorem wp_app1L {P : Program} (w : World) {o : Oper} {a : Act} {K : Act → World → Prop} {Q : Exit → Act → World → Prop} (s x : Operand) (t : TypeId)
    (ho : o.op = .call { callee := .builtin .append, args := #[s, x], argTypes := #[t, t] })
    (e : TypeId) (z : Value) (bytes : Nat) (ht : P.underlying t = some (.slice e)) (hinfo : (P.info? e).map (fun i => (i.zero, i.size, i.bytes)) = some (some z, 1, bytes)) (hzs : z.cells.size = 1) (hb16 : bytes ≤ 64)
    (B : Nat) (A : Option Addr) (n c : Nat) (vs : List Value) (hs : a.eval s = .slice A n c) (hown : Own w e B A n c vs)
    (g : Nat) (y : Value) (hx : a.eval x = .slice (some ⟨g, 0, none⟩) 1 1) (hy : w.cell? ⟨g, 0, none⟩ = some y) (h1 : y.oneCell' = true) (hn : n ≤ 1000000000) (hbase' : B ≤ g)
    (h : ∀ g' c' w', Own w' e B (some ⟨g', 0, none⟩) (n + 1) c' (vs ++ [y]) → w.grownBy w' (Value.ownBlock (.slice A n c)) → Below B w w' → (Value.ownBlock (.slice A n c) = some g' ∨ g' = w.heap.size) → K (a.put o.dst (.slice (some ⟨g', 0, none⟩) (n + 1) c')) w') : o.wp P a w K Q := by
  obtain ⟨i, hi, hz0, hz1, hz2⟩ := info_parts hinfo
  have hbase : B ≤ w.heap.size := by have := World.block_lt_of_cell? _ _ hy; simp at this; omega
  refine wp_append_lies w s x t ho B e i z 1 bytes ht hi hz0 hz1 hz2 hzs (by decide) _ n vs hs hown ⟨g, 0, none⟩ 1 1 [y] hx rfl ?_ ?_ (by decide) ?_ ?_ hbase w.heap.size rfl ?_
  · intro j u hj
    match j, hj with
    | 0, hj => simp at hj; subst hj; simpa [Addr.add] using hy
    | j + 1, hj => simp at hj
  · intro u hu; simp at hu; subst hu; exact h1
  · unfold maxLen; omega
  · have := Nat.mul_le_mul (show n + 1 ≤ 1000000001 by omega) hb16
    omega
  · intro g' c' w' hown' hg hat _
    exact h g' c' w' hown' hg ((Below.refl _ _).grown hg hbase fun k hk => (hown.blk k hk).1) hat
theorem app1L {P : Program} (w : World) {ops : Array Oper} {rest : List Oper} {o : Oper} {a : Act} {Q : Exit → Act → World → Prop} (hgd : o.guard = none) (s x : Operand) (t : TypeId)
    (ho : o.op = .call { callee := .builtin .append, args := #[s, x], argTypes := #[t, t] })
    (e : TypeId) (z : Value) (bytes : Nat) (ht : P.underlying t = some (.slice e)) (hinfo : (P.info? e).map (fun i => (i.zero, i.size, i.bytes)) = some (some z, 1, bytes)) (hzs : z.cells.size = 1) (hb16 : bytes ≤ 64)
    (B : Nat) (A : Option Addr) (n c : Nat) (vs : List Value) (hs : a.eval s = .slice A n c) (hown : Own w e B A n c vs)
    (g : Nat) (y : Value) (hx : a.eval x = .slice (some ⟨g, 0, none⟩) 1 1) (hy : w.cell? ⟨g, 0, none⟩ = some y) (h1 : y.oneCell' = true) (hn : n ≤ 1000000000) (hbase' : B ≤ g)
    (h : ∀ g' c' w', Own w' e B (some ⟨g', 0, none⟩) (n + 1) c' (vs ++ [y]) → w.grownBy w' (Value.ownBlock (.slice A n c)) → Below B w w' → (Value.ownBlock (.slice A n c) = some g' ∨ g' = w.heap.size) → wpList P ops Q rest (a.put o.dst (.slice (some ⟨g', 0, none⟩) (n + 1) c')) w') : wpList P ops Q (o :: rest) a w :=
  wpList_plain hgd fun _ hK => wp_app1L w s x t ho e z bytes ht hinfo hzs hb16 B A n c vs hs hown g y hx hy h1 hn hbase' fun g' c' w' a1 a2 a3 a4 => hK _ _ (h g' c' w' a1 a2 a3 a4)
theorem step_app1L {P : Program} (w : World) {ops : Array Oper} {o : Oper} {a : Act} {K : Act → World → Prop} {Q : Exit → Act → World → Prop} {E : Prop} (hgd : o.guard = none) (s x : Operand) (t : TypeId)
    (ho : o.op = .call { callee := .builtin .append, args := #[s, x], argTypes := #[t, t] })
    (e : TypeId) (z : Value) (bytes : Nat) (ht : P.underlying t = some (.slice e)) (hinfo : (P.info? e).map (fun i => (i.zero, i.size, i.bytes)) = some (some z, 1, bytes)) (hzs : z.cells.size = 1) (hb16 : bytes ≤ 64)
    (B : Nat) (A : Option Addr) (n c : Nat) (vs : List Value) (hs : a.eval s = .slice A n c) (hown : Own w e B A n c vs)
    (g : Nat) (y : Value) (hx : a.eval x = .slice (some ⟨g, 0, none⟩) 1 1) (hy : w.cell? ⟨g, 0, none⟩ = some y) (h1 : y.oneCell' = true) (hn : n ≤ 1000000000) (hbase' : B ≤ g)
    (h : ∀ g' c' w', Own w' e B (some ⟨g', 0, none⟩) (n + 1) c' (vs ++ [y]) → w.grownBy w' (Value.ownBlock (.slice A n c)) → Below B w w' → (Value.ownBlock (.slice A n c) = some g' ∨ g' = w.heap.size) → K (a.put o.dst (.slice (some ⟨g', 0, none⟩) (n + 1) c')) w') :
    if Region.wanted o (yielded ops a.tmps) = true then Oper.wp P o a w K Q else E := by
  have hw : Region.wanted o (yielded ops a.tmps) = true := by simp [Region.wanted, hgd]
  rw [if_pos hw]
  exact wp_app1L w s x t ho e z bytes ht hinfo hzs hb16 B A n c vs hs hown g y hx hy h1 hn hbase' h

/-- Two slices of the call's own whose elements are of two types lie in two blocks. -/
theorem own_ne {w : World} {e e' : TypeId} {B B' : Nat} {g g' : Nat} {n n' c c' : Nat} {vs vs' : List Value} (h : Own w e B (some ⟨g, 0, none⟩) n c vs) (h' : Own w e' B' (some ⟨g', 0, none⟩) n' c' vs') (hne : e ≠ e') : g ≠ g' := by
  rintro rfl
  rcases h.2 with ⟨h1, _⟩ | ⟨g1, _, cur, h1, _, hh, _⟩
  · cases h1
  · cases h1
    rcases h'.2 with ⟨h2, _⟩ | ⟨g2, _, cur', h2, _, hh', _⟩
    · cases h2
    · cases h2
      rw [hh] at hh'
      injection hh' with hh'
      injection hh' with _ ht
      exact hne ht
/-- Kept where another row may have been written. -/
theorem Own.grown {w w' : World} {e : TypeId} {B : Nat} {A : Option Addr} {n c : Nat} {vs : List Value} {row : Option Nat} (h : Own w e B A n c vs) (hg : w.grownBy w' row) (hne : ∀ g, A = some ⟨g, 0, none⟩ → row ≠ some g) : Own w' e B A n c vs :=
  h.keep fun g hA => hg.block g (h.blk g (by rw [hA]; rfl)).2 (fun e => hne g hA e.symm)

/-- Only blocks from lo to hi (hi not included) have turned, and there may be new ones. -/
structure Only (lo hi : Nat) (w w' : World) : Prop where
  os : w'.os = w.os
  tape : w'.tape = w.tape
  output : w'.output = w.output
  size : w.heap.size ≤ w'.heap.size
  block : ∀ k, k < w.heap.size → (k < lo ∨ hi ≤ k) → w'.heap[k]? = w.heap[k]?
theorem Only.below {lo hi B : Nat} {w w' : World} (h : Only lo hi w w') (hB : B ≤ lo) (hs : B ≤ w.heap.size) : Below B w w' :=
  ⟨h.os, h.tape, h.output, h.size, fun k hk => h.block k (by omega) (by omega)⟩
theorem Only.of_grown {lo hi : Nat} {w w' : World} {row : Option Nat} (h : w.grownBy w' row) (hr : ∀ k, row = some k → lo ≤ k ∧ k < hi) : Only lo hi w w' :=
  ⟨h.os, h.tape, h.output, h.size, fun k hk hd => h.block k hk (fun e => by have := hr k e.symm; omega)⟩

/-- A slice of the call's own that lies in blocks from lo to hi. -/
def OSeg (w : World) (e : TypeId) (lo hi : Nat) (A : Option Addr) (n c : Nat) (vs : List Value) : Prop := Own w e lo A n c vs ∧ ∀ k, Value.ownBlock (.slice A n c) = some k → k < hi
section
variable {w w' : World} {e : TypeId} {A : Option Addr} {n c lo hi l h' : Nat} {vs : List Value}
theorem OSeg.mk' (h : Own w e lo A n c vs) : OSeg w e lo w.heap.size A n c vs := ⟨h, fun k hk => (h.blk k hk).2⟩
theorem OSeg.rd (h : OSeg w e lo hi A n c vs) : Rd w A n vs := h.1.rd
theorem OSeg.below (h : OSeg w e lo hi A n c vs) (hb : Below w.heap.size w w') : OSeg w' e lo hi A n c vs := ⟨h.1.below hb, h.2⟩
theorem OSeg.only (h : OSeg w e lo hi A n c vs) (ho : Only l h' w w') (hd : hi ≤ l ∨ h' ≤ lo) : OSeg w' e lo hi A n c vs := by
  refine ⟨h.1.keep fun g hg => ?_, h.2⟩
  have h1 := h.1.blk g (by rw [hg]; rfl)
  have h2 := h.2 g (by rw [hg]; rfl)
  exact ho.block g h1.2 (by omega)
end
/-- A slice that is read and lies in blocks below hi. -/
theorem Rd.only {w w' : World} {A : Option Addr} {n lo hi : Nat} {vs : List Value} (h : Rd w A n vs) (ho : Only lo hi w w') (hb : 0 < n → ∀ ad, A = some ad → ad.block < lo) : Rd w' A n vs :=
  ⟨h.1, fun hn => by
    obtain ⟨b, off, e, hc⟩ := h.2 hn
    have hlt : b < w.heap.size := h.lt hn _ e
    exact ⟨b, off, e, fun j u hu => (World.cell?_of_block (ho.block b hlt (Or.inl (hb hn _ e)))).trans (hc j u hu)⟩⟩

theorem IsRow.rd {w : World} {a : Option Addr} {len cap : Nat} {zs : List Int} (h : IsRow .i64 w a len cap zs) : Rd w a len (iv (zs.take len)) := by
  rcases h with ⟨rfl, rfl, rfl, rfl⟩ | ⟨x, rfl, hl, hm, hz, hc, _⟩
  · exact Rd.none_
  · refine ⟨by simp [iv]; omega, fun hn => ?_⟩
    obtain ⟨b, off, spot⟩ := x
    have h0 := hc 0 (by omega)
    have hspot : spot = none := by simpa [Addr.add] using World.cell?_spot h0
    subst hspot
    refine ⟨b, off, rfl, fun j u hu => ?_⟩
    unfold iv at hu
    rw [List.getElem?_map, Option.map_eq_some_iff] at hu
    obtain ⟨y, hy, rfl⟩ := hu
    rw [List.getElem?_take] at hy
    split at hy
    · have hj : j < zs.length := (List.getElem?_eq_some_iff.1 hy).1
      have := hc j hj
      rw [show (⟨b, off, none⟩ : Addr).add j = ⟨b, off + j, none⟩ from by unfold Addr.add; split <;> simp_all] at this
      rw [this, List.getD_eq_getElem?_getD, hy]; rfl
    · cases hy
theorem IsRow.len_le {k : IntKind} {w : World} {a : Option Addr} {len cap : Nat} {zs : List Int} (h : IsRow k w a len cap zs) : len ≤ 9223372036854775807 := by
  rcases h with ⟨_, rfl, _⟩ | ⟨x, _, hl, hm, _⟩
  · omega
  · unfold maxLen at hm; omega
theorem IsRow.wf {w : World} {a : Option Addr} {len cap : Nat} {zs : List Int} (h : IsRow .i64 w a len cap zs) : ∀ x ∈ zs.take len, -9223372036854775808 ≤ x ∧ x ≤ 9223372036854775807 := by
  rcases h with ⟨_, _, _, rfl⟩ | ⟨x, _, _, _, _, _, hw⟩
  · simp
  · intro y hy
    have := hw y (List.mem_of_mem_take hy)
    have h2 : (decide ((-9223372036854775808 : Int) ≤ y) && decide (y ≤ 9223372036854775807)) = true := this
    simpa using h2
theorem IsStrs.rd {w : World} {a : Option Addr} {len cap : Nat} {zs : List ByteArray} (h : IsStrs w a len cap zs) : Rd w a len (sv ((zs.take len).map fun s => s.data.toList)) := by
  rcases h with ⟨rfl, rfl, rfl, rfl⟩ | ⟨x, rfl, hl, hm, hz, hc, _⟩
  · exact Rd.none_
  · refine ⟨by simp [sv]; omega, fun hn => ?_⟩
    obtain ⟨b, off, spot⟩ := x
    have h0 := hc 0 (by omega)
    have hspot : spot = none := by simpa [Addr.add] using World.cell?_spot h0
    subst hspot
    refine ⟨b, off, rfl, fun j u hu => ?_⟩
    unfold sv at hu
    rw [List.map_map, List.getElem?_map, Option.map_eq_some_iff] at hu
    obtain ⟨y, hy, rfl⟩ := hu
    rw [List.getElem?_take] at hy
    split at hy
    · have hj : j < zs.length := (List.getElem?_eq_some_iff.1 hy).1
      have := hc j hj
      rw [show (⟨b, off, none⟩ : Addr).add j = ⟨b, off + j, none⟩ from by unfold Addr.add; split <;> simp_all] at this
      rw [this, List.getD_eq_getElem?_getD, hy]
      simp [bs_toList]
    · cases hy
theorem IsStrs.len_le {w : World} {a : Option Addr} {len cap : Nat} {zs : List ByteArray} (h : IsStrs w a len cap zs) : len ≤ 9223372036854775807 := by
  rcases h with ⟨_, rfl, _⟩ | ⟨x, _, hl, hm, _⟩
  · omega
  · unfold maxLen at hm; omega

/-- bytes as values -/
def bv (l : List UInt8) : List Value := l.map fun b => Value.int .u8 (b.toNat : Int)
theorem bv_len (l : List UInt8) : (bv l).length = l.length := by simp [bv]
/-- string(b), b a slice of bytes that is read. -/
theorem run_cv {P : Program} (w : World) (src e dst : TypeId) (hs : P.underlying src = some (.slice e)) (he : P.underlying e = some (.int .u8)) (hd : P.underlying dst = some .string)
    (B : Nat) (E : TypeId) (A : Option Addr) (n c : Nat) (l : List UInt8) (h : Own w E B A n c (bv l)) :
    (convert src dst (.slice A n c)).run P w = .ok (.string (bs l)) w := by
  have hl : l.length = n := by have := h.len; rwa [bv_len] at this
  rcases h.form with ⟨rfl, rfl, rfl⟩ | ⟨g, rfl, _⟩
  · have := run_convert_bytes_nil (P := P) w src e hs he 0 0 dst hd
    rw [List.eq_nil_of_length_eq_zero hl]
    exact this
  · have := run_convert_bytes_arg (P := P) w src e hs he g 0 n c (l.map fun b => (b.toNat : Int)) (by simpa using hl) (fun i hi => by
      obtain ⟨b, off, u, hA, hu, hcell⟩ := h.rd.at_ hi
      cases hA
      rw [hcell]
      unfold bv at hu
      rw [List.getElem?_map, Option.map_eq_some_iff] at hu
      obtain ⟨y, hy, rfl⟩ := hu
      simp [hy]) dst hd
    rw [this]
    have e2 : (l.map fun b => (b.toNat : Int)).map (fun n => UInt8.ofNat n.toNat) = l := by
      rw [List.map_map]
      exact (List.map_congr_left fun b _ => by simp).trans (List.map_id l)
    unfold strOfNums
    rw [e2]
    rfl
/-- one byte, out of a number -/
def b1 (x : Int) : List UInt8 := [UInt8.ofNat x.toNat]
theorem run_cv1 {P : Program} (w : World) (src e dst : TypeId) (hs : P.underlying src = some (.slice e)) (he : P.underlying e = some (.int .u8)) (hd : P.underlying dst = some .string) (x : Int) (h0 : 0 ≤ x) (h1 : x ≤ 255) :
    (convert src dst (.slice (some ⟨w.heap.size, 0, none⟩) 1 1)).run P (w.alloc (.cells #[.int .u8 x] e)) = .ok (.string (bs (b1 x))) (w.alloc (.cells #[.int .u8 x] e)) := by
  have ho := Own.lit w e #[.int .u8 x] 1 rfl (by decide)
  have e1 : (#[Value.int .u8 x] : Array Value).toList = bv (b1 x) := by
    have : ((UInt8.ofNat x.toNat).toNat : Int) = x := by
      rw [UInt8.toNat_ofNat']; omega
    simp only [bv, b1, List.map_cons, List.map_nil, this]
  rw [e1] at ho
  exact run_cv _ src e dst hs he hd _ e _ _ _ _ ho

theorem below_drewN' {B : Nat} {a w : World} (h : Below B a w) (n : Nat) : Below B a (w.drewN n) := ⟨h.os, h.tape, h.output, h.size, h.block⟩
theorem below_of_drewN {B : Nat} {w w' : World} (h : ∃ n, w' = w.drewN n) : Below B w w' := by
  obtain ⟨n, rfl⟩ := h; exact below_drewN' (Below.refl _ _) n
theorem set_take_rep {xs : List Int} {k n : Nat} {x : Int} (hk : k < n) (hx : xs[k]? = some x) :
    (iv (xs.take k) ++ List.replicate (n - k) (Value.int .i64 0)).set k (.int .i64 x) = iv (xs.take (k + 1)) ++ List.replicate (n - (k + 1)) (Value.int .i64 0) := by
  have hl : k < xs.length := (List.getElem?_eq_some_iff.1 hx).1
  have hxx : xs[k] = x := (List.getElem?_eq_some_iff.1 hx).2
  have e1 : (iv (xs.take k)).length = k := by simp [iv]; omega
  rw [List.set_append_right _ _ (by omega), e1, Nat.sub_self, show n - k = (n - (k + 1)) + 1 from by omega, List.replicate_succ, List.set_cons_zero]
  rw [List.take_succ_eq_append_getElem hl, hxx]
  simp [iv]

end Go.Proofs.Yteiffomekjadgaa
