/- The greatest of a number over all pairs, over those below the diagonal and over all. No program is named here. -/
import Derived.Test.YteekkcjbflehlaaRDist
import Derived.Test.YteekkcjbflehlaaCntL
namespace Go.Proofs.Yteekkcjbflehlaa
set_option linter.unusedVariables false
open Go.RowKit Go.Deep

def rowM (rd : Txt → Txt → Int) (x : Txt) (L : List Txt) (b : Int) : Nat → Int
  | 0 => b
  | k + 1 => if rowM rd x L b k < rd x (L.getD k []) then rd x (L.getD k []) else rowM rd x L b k
def dS (rd : Txt → Txt → Int) (L : List Txt) : Nat → Int
  | 0 => 0
  | i + 1 => rowM rd (L.getD i []) L (dS rd L i) i
def dI (rd : Txt → Txt → Int) (L : List Txt) : Nat → Int
  | 0 => 0
  | i + 1 => rowM rd (L.getD i []) L (dI rd L i) L.length
theorem rowM_bd {rd : Txt → Txt → Int} (h : ∀ x y, -1 ≤ rd x y ∧ rd x y ≤ 1048576) (x : Txt) (L : List Txt) {b : Int} (hb : 0 ≤ b ∧ b ≤ 1048576) : ∀ k, 0 ≤ rowM rd x L b k ∧ rowM rd x L b k ≤ 1048576
  | 0 => hb
  | k + 1 => by
    have h1 := rowM_bd h x L hb k
    have h2 := h x (L.getD k [])
    unfold rowM
    split <;> omega
theorem dS_bd {rd : Txt → Txt → Int} (h : ∀ x y, -1 ≤ rd x y ∧ rd x y ≤ 1048576) (L : List Txt) : ∀ i, 0 ≤ dS rd L i ∧ dS rd L i ≤ 1048576
  | 0 => by simp [dS]
  | i + 1 => rowM_bd h _ L (dS_bd h L i) i
theorem dI_bd {rd : Txt → Txt → Int} (h : ∀ x y, -1 ≤ rd x y ∧ rd x y ≤ 1048576) (L : List Txt) : ∀ i, 0 ≤ dI rd L i ∧ dI rd L i ≤ 1048576
  | 0 => by simp [dI]
  | i + 1 => rowM_bd h _ L (dI_bd h L i) _
theorem rowM_congr {rd rd' : Txt → Txt → Int} {x : Txt} {L : List Txt} {b : Int} (hx : x ∈ L) (h : ∀ x ∈ L, ∀ y ∈ L, rd x y = rd' x y) : ∀ k, k ≤ L.length → rowM rd x L b k = rowM rd' x L b k
  | 0, _ => rfl
  | k + 1, hk => by rw [rowM, rowM, rowM_congr hx h k (by omega), h x hx _ (getDt_mem (by omega))]
theorem dS_congr {rd rd' : Txt → Txt → Int} {L : List Txt} (h : ∀ x ∈ L, ∀ y ∈ L, rd x y = rd' x y) : ∀ i, i ≤ L.length → dS rd L i = dS rd' L i
  | 0, _ => rfl
  | i + 1, hi => by rw [dS, dS, dS_congr h i (by omega), rowM_congr (getDt_mem (by omega)) h i (by omega)]
theorem dI_congr {rd rd' : Txt → Txt → Int} {L : List Txt} (h : ∀ x ∈ L, ∀ y ∈ L, rd x y = rd' x y) : ∀ i, i ≤ L.length → dI rd L i = dI rd' L i
  | 0, _ => rfl
  | i + 1, hi => by rw [dI, dI, dI_congr h i (by omega), rowM_congr (getDt_mem (by omega)) h _ (Nat.le_refl _)]
theorem rdB_bd (x y : Txt) : -1 ≤ rdB x y ∧ rdB x y ≤ 1048576 := by
  rcases hf : alikeB x y 5 with _ | _
  · rw [(rw_no hf).2]; omega
  · rw [(rw_yes hf).2]; have := rwB_len x y; omega
/-- The distance, out of so many steps of the search. -/
def dstC (N : Nat) (a b : Txt) : Int := ((wyN (stB a N) ((stB a N).1.idxOf b : Nat)).length : Int) - 1
def fullC (n : Nat) : Bool := (treesB n).all fun a => (stB a (treesB n).length).1.length == (treesB n).length
def symC (n : Nat) : Bool := decide (dS (dstC (treesB n).length) (treesB n) (treesB n).length = dI (dstC (treesB n).length) (treesB n) (treesB n).length)
theorem full4 : ∀ n, n ≤ 4 → fullC n = true := by
  have h : (List.range 5).all fullC = true := by decide +kernel
  intro n hn
  exact List.all_eq_true.1 h n (List.mem_range.2 (by omega))
theorem sym4 : ∀ n, n ≤ 4 → symC n = true := by
  have h : (List.range 5).all symC = true := by decide +kernel
  intro n hn
  exact List.all_eq_true.1 h n (List.mem_range.2 (by omega))
theorem rdB_dst {n : Nat} (hn : n ≤ 4) : ∀ x ∈ treesB n, ∀ y ∈ treesB n, rdB x y = dstC (treesB n).length x y := by
  intro x hx y hy
  have hc := List.all_eq_true.1 (full4 n hn) x hx
  have hc2 : (stB x (treesB n).length).1.length = (treesB n).length := by simpa using hc
  obtain ⟨t, rfl, h1, h2⟩ := treesB_mem (by omega) hx
  obtain ⟨s, rfl, h3, h4⟩ := treesB_mem (by omega) hy
  have ha : alikeB (tx t) (tx s) 5 = true := by
    rw [alike_tx (by omega) (by omega), decide_eq_true (by omega), decide_eq_true (by omega)]; rfl
  have hl := treesB_len (n := n) (by omega)
  unfold rdB dstC
  rw [if_pos ha]
  unfold wayB
  rw [stF_eq hc2 hl]
theorem diam_eq {n : Nat} (hn : n ≤ 4) : dI rdB (treesB n) (treesB n).length = dS rdB (treesB n) (treesB n).length := by
  rw [dI_congr (rdB_dst hn) _ (Nat.le_refl _), dS_congr (rdB_dst hn) _ (Nat.le_refl _)]
  exact (of_decide_eq_true (sym4 n hn)).symm

end Go.Proofs.Yteekkcjbflehlaa
