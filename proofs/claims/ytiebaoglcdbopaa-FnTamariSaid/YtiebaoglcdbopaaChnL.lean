/- Rotations to the right raise the weights; the longest and the shortest chain. No program is named here. -/
import Derived.Test.YtiebaoglcdbopaaTamL
import Derived.Test.YtiebaoglcdbopaaNbL
namespace Go.Proofs.Ytiebaoglcdbopaa
set_option linter.unusedVariables false
open Go.RowKit Go.Deep

def le2 : List Int → List Int → Prop
  | [], [] => True
  | x :: xs, y :: ys => x ≤ y ∧ le2 xs ys
  | _, _ => False
theorem le2_refl : ∀ xs : List Int, le2 xs xs
  | [] => trivial
  | x :: xs => ⟨Int.le_refl x, le2_refl xs⟩
theorem le2_trans : ∀ {xs ys zs : List Int}, le2 xs ys → le2 ys zs → le2 xs zs
  | [], [], [], _, _ => trivial
  | x :: xs, y :: ys, z :: zs, h1, h2 => ⟨Int.le_trans h1.1 h2.1, le2_trans h1.2 h2.2⟩
theorem le2_append : ∀ {xs ys us vs : List Int}, le2 xs ys → le2 us vs → le2 (xs ++ us) (ys ++ vs)
  | [], [], _, _, _, h => h
  | x :: xs, y :: ys, _, _, h1, h2 => ⟨h1.1, le2_append h1.2 h2⟩
theorem le2_len : ∀ {xs ys : List Int}, le2 xs ys → xs.length = ys.length
  | [], [], _ => rfl
  | x :: xs, y :: ys, h => by rw [List.length_cons, List.length_cons, le2_len h.2]
theorem le2_iff : ∀ {xs ys : List Int}, le2 xs ys ↔ (xs.length = ys.length ∧ ∀ j : Nat, j < xs.length → xs.getD j 0 ≤ ys.getD j 0)
  | [], [] => by simp [le2]
  | [], y :: ys => by simp [le2]
  | x :: xs, [] => by simp [le2]
  | x :: xs, y :: ys => by
    have ih := le2_iff (xs := xs) (ys := ys)
    constructor
    · intro h
      refine ⟨by rw [List.length_cons, List.length_cons, (ih.1 h.2).1], fun j hj => ?_⟩
      cases j with
      | zero => simpa using h.1
      | succ j => simpa using (ih.1 h.2).2 j (by simpa using hj)
    · rintro ⟨h1, h2⟩
      exact ⟨by simpa using h2 0 (by simp), ih.2 ⟨by simpa using h1, fun j hj => by simpa using h2 (j + 1) (by simpa using hj)⟩⟩
theorem wleTo_iff {xs ys : List Int} {n : Nat} : wleTo xs ys n = true ↔ ∀ j : Nat, j < n → xs.getD j 0 ≤ ys.getD j 0 := by
  simp [wleTo, List.all_eq_true]
theorem tless_iff {s t : Tr} (hs : nodes s ≤ 8) (ht : nodes t ≤ 8) : tlessB (tx s) (tx t) = true ↔ le2 (wts s) (wts t) := by
  unfold tlessB
  rw [alike_tx hs ht, wtsB_tx hs, wtsB_tx ht, Bool.and_eq_true, Bool.and_eq_true, decide_eq_true_eq, decide_eq_true_eq, wleTo_iff, le2_iff, wts_len, wts_len]
  constructor
  · rintro ⟨⟨h1, _⟩, h2⟩; exact ⟨h1, h2⟩
  · rintro ⟨h1, h2⟩; exact ⟨⟨h1, by omega⟩, h2⟩
theorem tless_refl {s : Tr} (hs : nodes s ≤ 8) : tlessB (tx s) (tx s) = true := (tless_iff hs hs).2 (le2_refl _)

/-- The sum of the weights. -/
def sm : Tr → Nat
  | .nil => 0
  | .node _ _ _ l r => sm l + nodes r + sm r
theorem sm_le (t : Tr) (h : nodes t ≤ 8) : sm t ≤ 8 * nodes t := by
  induction t with
  | nil => exact Nat.zero_le _
  | node b o a l r ihl ihr =>
    simp only [nodes] at h
    have h1 := ihl (by omega)
    have h2 := ihr (by omega)
    simp only [sm, nodes]; omega
theorem rotRt_up {t x : Tr} (h : rotRt t = some x) : sm t < sm x ∧ le2 (wts t) (wts x) := by
  match t, h with
  | .node _ _ _ (.node _ _ _ a b) c, h =>
    cases h
    refine ⟨by simp only [sm, nodes]; omega, ?_⟩
    show le2 ((wts a ++ [(nodes b : Int)] ++ wts b) ++ [(nodes c : Int)] ++ wts c) (wts a ++ [((nodes b + nodes c + 1 : Nat) : Int)] ++ (wts b ++ [(nodes c : Int)] ++ wts c))
    rw [← List.append_assoc, ← List.append_assoc]
    exact le2_append (le2_append (le2_append (le2_append (le2_refl _) ⟨by omega, trivial⟩) (le2_refl _)) (le2_refl _)) (le2_refl _)
  | .node _ _ _ .nil c, h => cases h
  | .nil, h => cases h
theorem repl_up (t : Tr) : ∀ (v : Nat) (x : Tr), v < nodes t → nodes x = nodes (nodeAt t v) → le2 (wts (nodeAt t v)) (wts x) → sm (replAt t v x) + sm (nodeAt t v) = sm t + sm x ∧ le2 (wts t) (wts (replAt t v x)) := by
  induction t with
  | nil => intro v x h; simp [nodes] at h
  | node b o a l r ihl ihr =>
    intro v x h
    simp only [nodes] at h
    unfold nodeAt replAt
    split
    · next h1 =>
      intro hn hl
      obtain ⟨i1, i2⟩ := ihl v x h1 hn hl
      refine ⟨by simp only [sm]; omega, ?_⟩
      exact le2_append (le2_append i2 (le2_refl _)) (le2_refl _)
    · split
      · intro hn hl
        exact ⟨by omega, hl⟩
      · intro hn hl
        have hv : v - nodes l - 1 < nodes r := by omega
        obtain ⟨i1, i2⟩ := ihr (v - nodes l - 1) x hv hn hl
        have i3 := nodes_repl r (v - nodes l - 1) x hv
        have i4 : nodes (replAt r (v - nodes l - 1) x) = nodes r := by omega
        refine ⟨by simp only [sm]; omega, ?_⟩
        show le2 (wts l ++ [(nodes r : Int)] ++ wts r) (wts l ++ [(nodes (replAt r (v - nodes l - 1) x) : Int)] ++ wts (replAt r (v - nodes l - 1) x))
        rw [i4]
        exact le2_append (le2_refl _) i2
theorem rotR_up {t x : Tr} {v : Nat} (h : rotR t v = some x) : v < nodes t ∧ nodes x = nodes t ∧ sm t < sm x ∧ le2 (wts t) (wts x) := by
  unfold rotR at h
  rw [Option.map_eq_some_iff] at h
  obtain ⟨y, hy, rfl⟩ := h
  have hv : v < nodes t := by
    rcases Nat.lt_or_ge v (nodes t) with h1 | h1
    · exact h1
    · rw [nodeAt_big h1] at hy; cases hy
  have hn := rotRt_nodes hy
  obtain ⟨u1, u2⟩ := rotRt_up hy
  obtain ⟨r1, r2⟩ := repl_up t v y hv hn u2
  have := nodes_repl t v y hv
  exact ⟨hv, by omega, by omega, r2⟩
theorem rotR_sh {t x : Tr} {v : Nat} (hs : sh t = t) (h : rotR t v = some x) : sh x = x := by
  unfold rotR at h
  rw [Option.map_eq_some_iff] at h
  obtain ⟨y, hy, rfl⟩ := h
  have h2 : sh y = y := by
    have := rotRt_sh (nodeAt t v)
    rw [← nodeAt_sh, hs, hy] at this
    injection this with this
    exact this.symm
  rw [replAt_sh, hs, h2]

def upB (lg : Bool) (m n : Int) : Int := if 0 ≤ n ∧ (m < 0 ∨ (lg = true ∧ m < n + 1) ∨ (lg = false ∧ n + 1 < m)) then n + 1 else m
theorem upB_no {lg : Bool} {m : Int} : upB lg m (-1) = m := by unfold upB; rw [if_neg (by omega)]
def chn (lg : Bool) : Nat → List UInt8 → List UInt8 → Int
  | 0, _, _ => 0
  | f + 1, a, b => if a = b then 0 else if tlessB a b then (rtsB rotR a).foldl (fun m x => upB lg m (chn lg f x b)) (-1) else -1
def chF (lg : Bool) (f : Nat) (b : List UInt8) (xs : List (List UInt8)) : Int := xs.foldl (fun m x => upB lg m (chn lg f x b)) (-1)
theorem chF_snoc (lg : Bool) (f : Nat) (b : List UInt8) (xs : List (List UInt8)) (x : List UInt8) : chF lg f b (xs ++ [x]) = upB lg (chF lg f b xs) (chn lg f x b) := by
  unfold chF; rw [List.foldl_append]; rfl
theorem fold_bd {lg : Bool} {g : List UInt8 → Int} {N : Int} (hN : 0 ≤ N) (hg : ∀ x, -1 ≤ g x ∧ g x ≤ N) : ∀ (xs : List (List UInt8)) (m : Int), -1 ≤ m ∧ m ≤ N + 1 → -1 ≤ xs.foldl (fun m x => upB lg m (g x)) m ∧ xs.foldl (fun m x => upB lg m (g x)) m ≤ N + 1
  | [], m, h => h
  | x :: xs, m, h => fold_bd hN hg xs _ (by have := hg x; dsimp only; unfold upB; split <;> omega)
theorem chn_bd (lg : Bool) : ∀ (f : Nat) (a b : List UInt8), -1 ≤ chn lg f a b ∧ chn lg f a b ≤ f
  | 0, _, _ => by simp [chn]
  | f + 1, a, b => by
    unfold chn
    split
    · omega
    · split
      · have := fold_bd (lg := lg) (g := fun x => chn lg f x b) (N := f) (by omega) (fun x => chn_bd lg f x b) (rtsB rotR a) (-1) (by omega)
        omega
      · omega
theorem chF_bd (lg : Bool) (f : Nat) (b : List UInt8) (xs : List (List UInt8)) : -1 ≤ chF lg f b xs ∧ chF lg f b xs ≤ f + 1 := by
  have := fold_bd (lg := lg) (g := fun x => chn lg f x b) (N := f) (by omega) (fun x => chn_bd lg f x b) xs (-1) (by omega)
  unfold chF; omega
theorem chn_eq (lg : Bool) (f : Nat) (a : List UInt8) : chn lg (f + 1) a a = 0 := by unfold chn; rw [if_pos rfl]
theorem chn_no {lg : Bool} {f : Nat} {a b : List UInt8} (h1 : a ≠ b) (h : tlessB a b = false) : chn lg (f + 1) a b = -1 := by unfold chn; rw [if_neg h1, h]; rfl
theorem chn_yes {lg : Bool} {f : Nat} {a b : List UInt8} (h1 : a ≠ b) (h : tlessB a b = true) : chn lg (f + 1) a b = chF lg f b (rtsB rotR a) := by unfold chn; rw [if_neg h1, h]; rfl
/-- A rotation that does not lie below b counts for nothing. -/
theorem chF_skip {lg : Bool} {f : Nat} {y s : Tr} {xs : List (List UInt8)} (hy : nodes y ≤ 8) (h : tlessB (tx y) (tx s) = false) : chF lg (f + 1) (tx s) (xs ++ [tx y]) = chF lg (f + 1) (tx s) xs := by
  rw [chF_snoc, chn_no (fun e => by rw [← e, tless_refl hy] at h; cases h) h, upB_no]
theorem rts_mem {t : Tr} {x : List UInt8} : ∀ {k : Nat}, x ∈ rts rotR t k → ∃ v y, v < k ∧ rotR t v = some y ∧ x = tx y
  | 0, h => by cases h
  | k + 1, h => by
    rcases hr : rotR t k with _ | y
    · rw [rts_none hr] at h
      obtain ⟨v, y, h1, h2, h3⟩ := rts_mem h
      exact ⟨v, y, by omega, h2, h3⟩
    · rw [rts_some hr, List.mem_append] at h
      rcases h with h | h
      · obtain ⟨v, y, h1, h2, h3⟩ := rts_mem h
        exact ⟨v, y, by omega, h2, h3⟩
      · simp at h; exact ⟨k, y, by omega, hr, h⟩
theorem chF_none {lg : Bool} {f : Nat} {t s : Tr} (ht : nodes t ≤ 8) (hs : nodes s ≤ 8) (h : tlessB (tx t) (tx s) = false) : ∀ k, chF lg (f + 1) (tx s) (rts rotR t k) = -1
  | 0 => rfl
  | k + 1 => by
    rcases hr : rotR t k with _ | y
    · rw [rts_none hr]; exact chF_none ht hs h k
    · obtain ⟨_, u1, _, u2⟩ := rotR_up hr
      rw [rts_some hr, chF_skip (by omega), chF_none ht hs h k]
      rcases hb : tlessB (tx y) (tx s) with _ | _
      · rfl
      · have := (tless_iff ht hs).2 (le2_trans u2 ((tless_iff (by omega) hs).1 hb))
        rw [this] at h; cases h
theorem chn_fold {lg : Bool} {f : Nat} {t s : Tr} (ht : nodes t ≤ 8) (hs : nodes s ≤ 8) (hsh : sh t = t) (h1 : tx t ≠ tx s) : chn lg (f + 2) (tx t) (tx s) = chF lg (f + 1) (tx s) (rts rotR t (nodes t)) := by
  rcases hb : tlessB (tx t) (tx s) with _ | _
  · rw [chn_no h1 hb, chF_none ht hs hb]
  · rw [chn_yes h1 hb, rtsB_tx ht hsh]
/-- The chain between two trees with at most four nodes. -/
def chB (lg : Bool) (a b : List UInt8) : Int := if alikeB a b 4 then chn lg 40 a b else -1

end Go.Proofs.Ytiebaoglcdbopaa
