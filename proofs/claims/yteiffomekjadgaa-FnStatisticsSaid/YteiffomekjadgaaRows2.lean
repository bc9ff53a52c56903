/- Slices of slices of ints that a call has made. -/
import Derived.Test.YteiffomekjadgaaInts
namespace Go.Proofs.Yteiffomekjadgaa
open Go.RowKit

theorem info_ints : (Try.prog.info? 29).map (fun i => (i.zero, i.size, i.bytes)) = some (some (.slice none 0 0), 1, 24) := by kernel_rfl

/-- The slice of slices with address A, length n, capacity c, its cells vs, is the call's own from block lo on; row j holds the ints xss[j]; no two rows share a block. -/
structure O2 (w : World) (lo : Nat) (A : Option Addr) (n c : Nat) (vs : List Value) (xss : List (List Int)) : Prop where
  outer : Own w 29 lo A n c vs
  len : vs.length = xss.length
  row : ∀ (j : Nat) (xs : List Int), xss[j]? = some xs → ∃ Aj cj, vs[j]? = some (Value.slice Aj xs.length cj) ∧ Own w 3 lo Aj xs.length cj (iv xs)
  apart : ∀ (i j : Nat) (u v : Value) (g : Nat), i ≠ j → vs[i]? = some u → vs[j]? = some v → u.ownBlock = some g → v.ownBlock ≠ some g
section
variable {w w' : World} {lo : Nat} {A : Option Addr} {n c : Nat} {vs : List Value} {xss : List (List Int)}
theorem O2.n_eq (h : O2 w lo A n c vs xss) : n = xss.length := h.outer.len.symm.trans h.len
theorem O2.keep (h : O2 w lo A n c vs xss) (hk : ∀ g, g < w.heap.size → lo ≤ g → w'.heap[g]? = w.heap[g]?) : O2 w' lo A n c vs xss where
  outer := h.outer.keep fun g hA => by have := h.outer.blk g (by rw [hA]; rfl); exact hk g this.2 this.1
  len := h.len
  row j xs hj := by
    obtain ⟨Aj, cj, h1, h2⟩ := h.row j xs hj
    exact ⟨Aj, cj, h1, h2.keep fun g hA => by have := h2.blk g (by rw [hA]; rfl); exact hk g this.2 this.1⟩
  apart := h.apart
theorem O2.below (h : O2 w lo A n c vs xss) (hb : Below w.heap.size w w') : O2 w' lo A n c vs xss := h.keep fun g hg _ => hb.block g hg
theorem O2.alloc (h : O2 w lo A n c vs xss) (o : Obj) : O2 (w.alloc o) lo A n c vs xss := h.keep fun g hg _ => Below.heap_alloc w o g hg
theorem O2.drewN (h : O2 w lo A n c vs xss) (k : Nat) : O2 (w.drewN k) lo A n c vs xss := h.keep fun _ _ _ => rfl
theorem O2.drew (h : O2 w lo A n c vs xss) : O2 w.drew lo A n c vs xss := h.keep fun _ _ _ => rfl
theorem O2.mono {lo' : Nat} (h : O2 w lo A n c vs xss) (hl : lo' ≤ lo) : O2 w lo' A n c vs xss where
  outer := h.outer.mono hl
  len := h.len
  row j xs hj := by
    obtain ⟨Aj, cj, h1, h2⟩ := h.row j xs hj
    exact ⟨Aj, cj, h1, h2.mono hl⟩
  apart := h.apart
theorem O2.empty (w : World) : O2 (w.alloc (.cells #[] 29)) w.heap.size (some ⟨w.heap.size, 0, none⟩) 0 0 [] [] where
  outer := Own.lit w 29 #[] 0 rfl (by decide)
  len := rfl
  row j xs hj := by simp at hj
  apart i j u v g _ hu := by simp at hu
/-- A new row at the end: the outer slice has been appended to. -/
theorem O2.push {A' : Option Addr} {c' : Nat} {Ar : Option Addr} {cr : Nat} {ys : List Int} (h : O2 w lo A n c vs xss) (hr : Own w 3 lo Ar ys.length cr (iv ys))
    (hnew : ∀ (g : Nat), Ar = some ⟨g, 0, none⟩ → ∀ (j : Nat) (u : Value), vs[j]? = some u → u.ownBlock ≠ some g)
    (hg : w.grownBy w' (Value.ownBlock (.slice A n c))) (ho : Own w' 29 lo A' (n + 1) c' (vs ++ [.slice Ar ys.length cr])) : O2 w' lo A' (n + 1) c' (vs ++ [.slice Ar ys.length cr]) (xss ++ [ys]) := by
  have keepRow : ∀ (Aj : Option Addr) (m cj : Nat) (zs : List Int), Own w 3 lo Aj m cj (iv zs) → Own w' 3 lo Aj m cj (iv zs) := by
    intro Aj m cj zs hz
    refine hz.grown hg fun g hA he => ?_
    rcases h.outer.form with ⟨rfl, _⟩ | ⟨g0, rfl, _⟩
    · cases he
    · subst hA
      have : g0 = g := by simpa [Value.ownBlock] using he
      exact own_ne h.outer hz (by decide) this
  refine ⟨ho, by simp [h.len], ?_, ?_⟩
  · intro j xs hj
    rcases Nat.lt_trichotomy j xss.length with hlt | heq | hgt
    · rw [List.getElem?_append_left hlt] at hj
      obtain ⟨Aj, cj, h1, h2⟩ := h.row j xs hj
      exact ⟨Aj, cj, by rw [List.getElem?_append_left (by rw [h.len]; exact hlt)]; exact h1, keepRow _ _ _ _ h2⟩
    · subst heq
      rw [List.getElem?_append_right (Nat.le_refl _), Nat.sub_self] at hj
      cases hj
      exact ⟨Ar, cr, by rw [← h.len, List.getElem?_append_right (Nat.le_refl _), Nat.sub_self]; rfl, keepRow _ _ _ _ hr⟩
    · rw [List.getElem?_eq_none (by simp; omega)] at hj; cases hj
  · intro i j u v g hij hu hv hug
    have hb : ∀ (k : Nat) (x : Value), (vs ++ [Value.slice Ar ys.length cr])[k]? = some x → (k < vs.length ∧ vs[k]? = some x) ∨ (k = vs.length ∧ x = .slice Ar ys.length cr) := by
      intro k x hk
      rcases Nat.lt_trichotomy k vs.length with hlt | heq | hgt
      · rw [List.getElem?_append_left hlt] at hk; exact Or.inl ⟨hlt, hk⟩
      · subst heq
        rw [List.getElem?_append_right (Nat.le_refl _), Nat.sub_self] at hk
        cases hk
        exact Or.inr ⟨rfl, rfl⟩
      · rw [List.getElem?_eq_none (by simp; omega)] at hk; cases hk
    have newb : ∀ g', Value.ownBlock (.slice Ar ys.length cr) = some g' → Ar = some ⟨g', 0, none⟩ := by
      intro g' hg'
      rcases hr.form with ⟨rfl, _⟩ | ⟨g0, rfl, _⟩
      · cases hg'
      · have : g0 = g' := by simpa [Value.ownBlock] using hg'
        rw [this]
    rcases hb i u hu with ⟨_, hu'⟩ | ⟨hi, rfl⟩
    · rcases hb j v hv with ⟨_, hv'⟩ | ⟨hj, rfl⟩
      · exact h.apart i j u v g hij hu' hv' hug
      · intro he
        exact hnew g (newb g he) i u hu' hug
    · rcases hb j v hv with ⟨_, hv'⟩ | ⟨hj, rfl⟩
      · exact hnew g (newb g hug) j v hv'
      · omega
/-- Row b is taken anew: its slice has been appended to (or else made anew), and stored back. -/
theorem O2.put {g0 : Nat} {b : Nat} {old ys : List Int} {Ab : Option Addr} {cb : Nat} {gn cn : Nat} (h : O2 w lo (some ⟨g0, 0, none⟩) n c vs xss) (hb : xss[b]? = some old) (hvb : vs[b]? = some (.slice Ab old.length cb))
    (hg : w.grownBy w' (Value.ownBlock (.slice Ab old.length cb))) (ho : Own w' 3 lo (some ⟨gn, 0, none⟩) ys.length cn (iv ys)) (hat : Value.ownBlock (.slice Ab old.length cb) = some gn ∨ w.heap.size ≤ gn) :
    O2 (w'.setCell ⟨g0, b, none⟩ (.slice (some ⟨gn, 0, none⟩) ys.length cn)) lo (some ⟨g0, 0, none⟩) n c (vs.set b (.slice (some ⟨gn, 0, none⟩) ys.length cn)) (xss.set b ys) := by
  have hbl : b < xss.length := (List.getElem?_eq_some_iff.1 hb).1
  obtain ⟨Ab', cb', hv2, hob⟩ := h.row b old hb
  rw [hvb] at hv2
  cases hv2
  have ho1 : Own w' 29 lo (some ⟨g0, 0, none⟩) n c vs := by
    refine h.outer.grown hg fun g hA he => ?_
    cases hA
    rcases hob.form with ⟨rfl, _⟩ | ⟨g1, rfl, _⟩
    · cases he
    · have : g1 = g0 := by simpa [Value.ownBlock] using he
      exact own_ne h.outer hob (by decide) this.symm
  have hne : g0 ≠ gn := own_ne ho1 ho (by decide)
  have rowKeep : ∀ (j : Nat) (xs : List Int), j ≠ b → xss[j]? = some xs → ∃ Aj cj, vs[j]? = some (Value.slice Aj xs.length cj) ∧ Own (w'.setCell ⟨g0, b, none⟩ (.slice (some ⟨gn, 0, none⟩) ys.length cn)) 3 lo Aj xs.length cj (iv xs) := by
    intro j xs hjb hj
    obtain ⟨Aj, cj, h1, h2⟩ := h.row j xs hj
    refine ⟨Aj, cj, h1, ?_⟩
    have h3 : Own w' 3 lo Aj xs.length cj (iv xs) := h2.grown hg fun g hA he => by
      subst hA
      exact h.apart j b _ _ g hjb h1 hvb rfl he
    exact h3.set_far (fun g hA => by subst hA; exact fun e => own_ne ho1 h3 (by decide) e.symm) _
  refine ⟨ho1.set_ b _, by simp [h.len], ?_, ?_⟩
  · intro j xs hj
    by_cases hjb : j = b
    · subst hjb
      rw [List.getElem?_set_self hbl] at hj
      cases hj
      refine ⟨some ⟨gn, 0, none⟩, cn, by rw [List.getElem?_set_self (by rw [h.len]; exact hbl)], ?_⟩
      exact ho.set_far (fun g hA => by cases hA; exact fun e => hne e.symm) _
    · rw [List.getElem?_set_ne (by omega)] at hj
      obtain ⟨Aj, cj, h1, h2⟩ := rowKeep j xs hjb hj
      exact ⟨Aj, cj, by rw [List.getElem?_set_ne (by omega)]; exact h1, h2⟩
  · intro i j u v g hij hu hv hug
    have oldlt : ∀ (k : Nat) (x : Value) (g' : Nat), k ≠ b → vs[k]? = some x → x.ownBlock = some g' → g' < w.heap.size ∧ g' ≠ gn := by
      intro k x g' hkb hk hx
      have hkl : k < xss.length := by rw [← h.len]; exact (List.getElem?_eq_some_iff.1 hk).1
      obtain ⟨Aj, cj, h1, h2⟩ := h.row k xss[k] (List.getElem?_eq_getElem hkl)
      rw [hk] at h1
      cases h1
      have hlt := h2.blk g' hx
      refine ⟨hlt.2, ?_⟩
      rintro rfl
      rcases hat with hat | hat
      · exact h.apart k b _ _ g' hkb hk hvb hx hat
      · omega
    by_cases hib : i = b
    · subst hib
      rw [List.getElem?_set_self (by rw [h.len]; exact hbl)] at hu
      cases hu
      rw [List.getElem?_set_ne (by omega)] at hv
      intro he
      have := (oldlt j v g (by omega) hv he).2
      have h2 : gn = g := by simpa [Value.ownBlock] using hug
      omega
    · rw [List.getElem?_set_ne (by omega)] at hu
      by_cases hjb : j = b
      · subst hjb
        rw [List.getElem?_set_self (by rw [h.len]; exact hbl)] at hv
        cases hv
        intro he
        have h2 : gn = g := by simpa [Value.ownBlock] using he
        have := (oldlt i u g hib hu hug).2
        omega
      · rw [List.getElem?_set_ne (by omega)] at hv
        exact h.apart i j u v g hij hu hv hug
theorem O2.put1 {g0 : Nat} {b len : Nat} {old : List Int} {y : Int} {Ab : Option Addr} {cb : Nat} {gn cn : Nat} (hlen : len = old.length) (h : O2 w lo (some ⟨g0, 0, none⟩) n c vs xss) (hb : xss[b]? = some old) (hvb : vs[b]? = some (.slice Ab old.length cb))
    (hg : w.grownBy w' (Value.ownBlock (.slice Ab old.length cb))) (ho : Own w' 3 lo (some ⟨gn, 0, none⟩) (len + 1) cn (iv old ++ [.int .i64 y])) (hat : Value.ownBlock (.slice Ab old.length cb) = some gn ∨ gn = w.heap.size) :
    O2 (w'.setCell ⟨g0, b, none⟩ (.slice (some ⟨gn, 0, none⟩) (len + 1) cn)) lo (some ⟨g0, 0, none⟩) n c (vs.set b (.slice (some ⟨gn, 0, none⟩) (len + 1) cn)) (xss.set b (old ++ [y])) := by
  have e : len + 1 = (old ++ [y]).length := by simp [hlen]
  rw [e] at ho ⊢
  exact h.put hb hvb hg (by rw [iv_snoc]; exact ho) (hat.imp id (fun h1 => Nat.le_of_eq h1.symm))
/-- A new empty row at the end. -/
theorem O2.push0 {A' : Option Addr} {c' : Nat} {w1 : World} (h : O2 w lo A n c vs xss) (hl : lo ≤ w.heap.size) (ow : Obj)
    (hg : ((w.alloc (.cells #[] 3)).alloc ow).grownBy w1 (Value.ownBlock (.slice A n c))) (ho : Own w1 29 lo A' (n + 1) c' (vs ++ [.slice (some ⟨w.heap.size, 0, none⟩) 0 0])) :
    O2 w1 lo A' (n + 1) c' (vs ++ [.slice (some ⟨w.heap.size, 0, none⟩) 0 0]) (xss ++ [[]]) := by
  refine O2.push (ys := []) ((h.alloc _).alloc ow) ?_ ?_ hg ho
  · exact ((own_empty w).mono hl).alloc ow
  · intro g hgg j u hu
    cases hgg
    have hjl : j < xss.length := by rw [← h.len]; exact (List.getElem?_eq_some_iff.1 hu).1
    obtain ⟨Aj, cj, h1, h2⟩ := h.row j xss[j] (List.getElem?_eq_getElem hjl)
    rw [hu] at h1
    cases h1
    intro he
    have := (h2.blk _ he).2
    omega
/-- What the store behind an append to row b wants to know. -/
theorem O2.ready {g0 : Nat} {b : Nat} {old : List Int} {Ab : Option Addr} {cb : Nat} (h : O2 w lo (some ⟨g0, 0, none⟩) n c vs xss) (hb : xss[b]? = some old) (hvb : vs[b]? = some (.slice Ab old.length cb))
    (hg : w.grownBy w' (Value.ownBlock (.slice Ab old.length cb))) : ∃ u, w'.cell? ⟨g0, b, none⟩ = some u ∧ w'.frozen? ⟨g0, b, none⟩ = false := by
  have hbl : b < xss.length := (List.getElem?_eq_some_iff.1 hb).1
  obtain ⟨Ab', cb', hv2, hob⟩ := h.row b old hb
  rw [hvb] at hv2
  cases hv2
  have ho1 : Own w' 29 lo (some ⟨g0, 0, none⟩) n c vs := by
    refine h.outer.grown hg fun g hA he => ?_
    cases hA
    rcases hob.form with ⟨rfl, _⟩ | ⟨g1, rfl, _⟩
    · cases he
    · have : g1 = g0 := by simpa [Value.ownBlock] using he
      exact own_ne h.outer hob (by decide) this.symm
  obtain ⟨g, u, hA, _, _, _, h1, h2⟩ := ho1.at_ (k := b) (by have := h.n_eq; omega)
  cases hA
  exact ⟨u, h1, h2⟩
theorem O2.head {k : Nat} {xs : List Int} (h : O2 w lo A n c vs xss) (hk : xss[k]? = some xs) : ∃ g0 Aj cj, A = some ⟨g0, 0, none⟩ ∧ lo ≤ g0 ∧ g0 < w.heap.size ∧ vs[k]? = some (.slice Aj xs.length cj) ∧ w.cell? ⟨g0, k, none⟩ = some (.slice Aj xs.length cj) ∧ w.frozen? ⟨g0, k, none⟩ = false ∧ Own w 3 lo Aj xs.length cj (iv xs) := by
  have hkl : k < xss.length := (List.getElem?_eq_some_iff.1 hk).1
  obtain ⟨Aj, cj, h1, h2⟩ := h.row k xs hk
  obtain ⟨g, u, hA, a1, a2, a3, a4, a5⟩ := h.outer.at_ (k := k) (by have := h.n_eq; omega)
  rw [h1] at a3
  cases a3
  exact ⟨g, Aj, cj, hA, a1, a2, h1, a4, a5, h2⟩
/-- append of one int to a row, and where the new row lies. -/
theorem appIL (w : World) {ops : Array Oper} {rest : List Oper} {o : Oper} {a : Act} {Q : Exit → Act → World → Prop} (hgd : o.guard = none) (s x : Operand)
    (ho : o.op = .call { callee := .builtin .append, args := #[s, x], argTypes := #[29, 29] })
    (B : Nat) (A : Option Addr) (n c : Nat) (vs : List Value) (hs : a.eval s = .slice A n c) (hown : Own w 3 B A n c vs)
    (g : Nat) (y : Int) (hx : a.eval x = .slice (some ⟨g, 0, none⟩) 1 1) (hy : w.cell? ⟨g, 0, none⟩ = some (.int .i64 y)) (hn : n ≤ 1000000000) (hbase' : B ≤ g)
    (h : ∀ g' c' w', Own w' 3 B (some ⟨g', 0, none⟩) (n + 1) c' (vs ++ [.int .i64 y]) → w.grownBy w' (Value.ownBlock (.slice A n c)) → Below B w w' → (Value.ownBlock (.slice A n c) = some g' ∨ g' = w.heap.size) → wpList Try.prog ops Q rest (a.put o.dst (.slice (some ⟨g', 0, none⟩) (n + 1) c')) w') : wpList Try.prog ops Q (o :: rest) a w :=
  app1L w hgd s x 29 ho 3 (.int .i64 0) 8 Try.underlying29 info_int rfl (by decide) B A n c vs hs hown g _ hx hy rfl hn hbase' h
theorem stepIL (w : World) {ops : Array Oper} {o : Oper} {a : Act} {K : Act → World → Prop} {Q : Exit → Act → World → Prop} {E : Prop} (hgd : o.guard = none) (s x : Operand)
    (ho : o.op = .call { callee := .builtin .append, args := #[s, x], argTypes := #[29, 29] })
    (B : Nat) (A : Option Addr) (n c : Nat) (vs : List Value) (hs : a.eval s = .slice A n c) (hown : Own w 3 B A n c vs)
    (g : Nat) (y : Int) (hx : a.eval x = .slice (some ⟨g, 0, none⟩) 1 1) (hy : w.cell? ⟨g, 0, none⟩ = some (.int .i64 y)) (hn : n ≤ 1000000000) (hbase' : B ≤ g)
    (h : ∀ g' c' w', Own w' 3 B (some ⟨g', 0, none⟩) (n + 1) c' (vs ++ [.int .i64 y]) → w.grownBy w' (Value.ownBlock (.slice A n c)) → Below B w w' → (Value.ownBlock (.slice A n c) = some g' ∨ g' = w.heap.size) → K (a.put o.dst (.slice (some ⟨g', 0, none⟩) (n + 1) c')) w') :
    if Region.wanted o (yielded ops a.tmps) = true then Oper.wp Try.prog o a w K Q else E :=
  step_app1L w hgd s x 29 ho 3 (.int .i64 0) 8 Try.underlying29 info_int rfl (by decide) B A n c vs hs hown g _ hx hy rfl hn hbase' h
end

end Go.Proofs.Yteiffomekjadgaa
