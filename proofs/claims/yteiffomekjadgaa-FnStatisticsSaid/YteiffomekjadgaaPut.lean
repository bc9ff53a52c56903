/- Writes into a slice of ints that the call itself made; its front part; append of a whole slice. -/
import Derived.Test.YteiffomekjadgaaInts
import Derived.Laws.AppendOwnNone
import Derived.OwnWalk
namespace Go.Proofs.Yteiffomekjadgaa
open Go.RowKit

theorem iv_set (ys : List Int) (k : Nat) (x : Int) : (iv ys).set k (.int .i64 x) = iv (ys.set k x) := by simp [iv, List.map_set]
theorem iv_take (ys : List Int) (k : Nat) : (iv ys).take k = iv (ys.take k) := by simp [iv, List.map_take]
theorem iv_append (xs ys : List Int) : iv (xs ++ ys) = iv xs ++ iv ys := by simp [iv]
theorem iv_rep (n : Nat) : List.replicate n (Value.int .i64 0) = iv (List.replicate n 0) := by simp [iv]
section
variable {w w' : World} {e : TypeId} {B : Nat} {A : Option Addr} {n c k : Nat} {ys : List Int}
theorem Own.ati (h : Own w e B A n c (iv ys)) (hk : k < n) : ∃ g y, A = some ⟨g, 0, none⟩ ∧ B ≤ g ∧ g < w.heap.size ∧ ys[k]? = some y ∧ w.cell? ⟨g, k, none⟩ = some (.int .i64 y) ∧ w.frozen? ⟨g, k, none⟩ = false := by
  obtain ⟨g, u, e, h1, h2, hu, hc, hf⟩ := h.at_ hk
  unfold iv at hu
  rw [List.getElem?_map, Option.map_eq_some_iff] at hu
  obtain ⟨x, hx, rfl⟩ := hu
  exact ⟨g, x, e, h1, h2, hx, hc, hf⟩
theorem Own.puti {g : Nat} (h : Own w e B (some ⟨g, 0, none⟩) n c (iv ys)) (k : Nat) (x : Int) : Own (w.setCell ⟨g, k, none⟩ (.int .i64 x)) e B (some ⟨g, 0, none⟩) n c (iv (ys.set k x)) := by
  rw [← iv_set]; exact h.set_ k _
/-- Its front part is the call's own as well. -/
theorem Own.front {vs : List Value} {m : Nat} (h : Own w e B A n c vs) (hm : m ≤ n) : Own w e B A m c (vs.take m) := by
  have hl := h.len
  refine ⟨by simp; omega, ?_⟩
  rcases h.2 with ⟨h1, h2⟩ | ⟨g, cap, cur, h1, hg, hh, hn, hc, hs, ht⟩
  · injection h1 with h3 h4 h5
    subst h3 h4 h5
    exact Or.inl ⟨by rw [show m = 0 by omega], by omega⟩
  · injection h1 with h3 h4 h5
    subst h3 h5
    refine Or.inr ⟨g, c, cur, rfl, hg, hh, by omega, hc, hs, ?_⟩
    rw [← ht, List.take_take, Nat.min_eq_left (by omega), Nat.mul_one]
end

/-- append of a whole slice, which may be nil, to a slice of the call's own. -/
theorem wp_appAll {P : Program} (w : World) {o : Oper} {a : Act} {K : Act → World → Prop} {Q : Exit → Act → World → Prop} (s x : Operand) (t : TypeId)
    (ho : o.op = .call { callee := .builtin .append, args := #[s, x], argTypes := #[t, t] })
    (e : TypeId) (z : Value) (bytes : Nat) (ht : P.underlying t = some (.slice e)) (hinfo : (P.info? e).map (fun i => (i.zero, i.size, i.bytes)) = some (some z, 1, bytes)) (hzs : z.cells.size = 1) (hb16 : bytes ≤ 64)
    (B : Nat) (A : Option Addr) (n c : Nat) (vs : List Value) (hs : a.eval s = .slice A n c) (hown : Own w e B A n c vs)
    (X : Option Addr) (m d : Nat) (us : List Value) (hx : a.eval x = .slice X m d) (hd : X = none → d = 0) (hr : Rd w X m us) (h1 : ∀ u ∈ us, u.oneCell' = true) (hn : n + m ≤ 1000000000) (hbase : B ≤ w.heap.size)
    (h : ∀ A' c' w', Own w' e B A' (n + m) c' (vs ++ us) → w.grownBy w' (Value.ownBlock (.slice A n c)) → Below B w w' → K (a.put o.dst (.slice A' (n + m) c')) w') : o.wp P a w K Q := by
  obtain ⟨i, hi, hz0, hz1, hz2⟩ := info_parts hinfo
  have hm := hr.len
  rcases X with _ | ad
  · have hm0 : m = 0 := by
      rcases Nat.eq_zero_or_pos m with h0 | h0
      · exact h0
      · obtain ⟨b, off, he, _⟩ := hr.2 h0; cases he
    have hus : us = [] := List.eq_nil_of_length_eq_zero (by omega)
    obtain rfl := hd rfl
    subst hm0 hus
    have hrun := run_append_owned_none (P := P) (w := w) B t o.type e i 1 ht hi (.slice A n c) n vs hown
    unfold Oper.wp
    simp [execOp, ho, resolve, invoke, builtin, hs, hx, hrun, Result.andThen]
    exact h A c w (by simpa using hown) (World.grownBy.refl _ _) (Below.refl _ _)
  · refine wp_append_own w s x t ho B e i z 1 bytes ht hi hz0 hz1 hz2 hzs (by decide) _ n vs hs hown ad m d us hx (by omega) ?_ h1 (by unfold maxLen; omega) ?_ hbase ?_
    · intro j u hj
      have hj' := (List.getElem?_eq_some_iff.1 hj).1
      obtain ⟨b, off, he, hc⟩ := hr.2 (by omega)
      cases he
      have := hc j u hj
      rwa [show (⟨b, off, none⟩ : Addr).add j = ⟨b, off + j, none⟩ from by unfold Addr.add; split <;> simp_all]
    · have := Nat.mul_le_mul (show n + m ≤ 1000000000 by omega) hb16
      omega
    · intro v' w' hown' hg _
      obtain ⟨A', c', rfl, ho'⟩ := Own.of_row hown'
      exact h A' c' w' ho' hg ((Below.refl _ _).grown hg hbase fun k hk => (hown.blk k hk).1)
theorem iv_one {ys : List Int} : ∀ u ∈ iv ys, u.oneCell' = true := by
  intro u hu; simp [iv] at hu; obtain ⟨x, _, rfl⟩ := hu; rfl
/-- append of a whole slice of ints. -/
theorem appAll (w : World) {ops : Array Oper} {rest : List Oper} {o : Oper} {a : Act} {Q : Exit → Act → World → Prop} (hgd : o.guard = none) (s x : Operand)
    (ho : o.op = .call { callee := .builtin .append, args := #[s, x], argTypes := #[29, 29] })
    (B : Nat) (A : Option Addr) (n c : Nat) (vs : List Value) (hs : a.eval s = .slice A n c) (hown : Own w 3 B A n c vs)
    (X : Option Addr) (m d : Nat) (ys : List Int) (hx : a.eval x = .slice X m d) (hd : X = none → d = 0) (hr : Rd w X m (iv ys)) (hn : n + m ≤ 1000000000) (hbase : B ≤ w.heap.size)
    (h : ∀ A' c' w', Own w' 3 B A' (n + m) c' (vs ++ iv ys) → w.grownBy w' (Value.ownBlock (.slice A n c)) → Below B w w' → wpList Try.prog ops Q rest (a.put o.dst (.slice A' (n + m) c')) w') : wpList Try.prog ops Q (o :: rest) a w :=
  wpList_plain hgd fun _ hK => wp_appAll w s x 29 ho 3 (.int .i64 0) 8 Try.underlying29 info_int rfl (by decide) B A n c vs hs hown X m d (iv ys) hx hd hr iv_one hn hbase fun A' c' w' a1 a2 a3 => hK _ _ (h A' c' w' a1 a2 a3)

end Go.Proofs.Yteiffomekjadgaa
