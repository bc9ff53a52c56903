/- Rotations undo each other; all trees of a size are reached from each other; each path is among the paths. No program is named here. -/
import Derived.Test.YtiebaoglcdbopaaChnL
import Derived.Test.YtiebaoglcdbopaaWdL
import Derived.Test.YtiebaoglcdbopaaPathsL
namespace Go.Proofs.Ytiebaoglcdbopaa
set_option linter.unusedVariables false
open Go.RowKit Go.Deep

def comb : Nat → Tr
  | 0 => .nil
  | n + 1 => .node 0 0 () .nil (comb n)
theorem nodes_comb : ∀ n, nodes (comb n) = n
  | 0 => rfl
  | n + 1 => by show 0 + nodes (comb n) + 1 = n + 1; rw [nodes_comb n]; omega
theorem sh_comb : ∀ n, sh (comb n) = comb n
  | 0 => rfl
  | n + 1 => by show BT.node 0 0 () .nil (sh (comb n)) = _; rw [sh_comb n]; rfl
theorem no_rot (t : Tr) (h : ∀ v, rotR t v = none) : sh t = comb (nodes t) := by
  induction t with
  | nil => rfl
  | node b o a l r ihl ihr =>
    have h0 := h (nodes l)
    unfold rotR at h0
    rw [Option.map_eq_none_iff] at h0
    have e0 : nodeAt (.node b o a l r) (nodes l) = .node b o a l r := by unfold nodeAt; rw [if_neg (by omega), if_pos rfl]
    rw [e0] at h0
    cases l with
    | node b2 o2 a2 l2 r2 => cases h0
    | nil =>
      have hr : ∀ v, rotR r v = none := by
        intro v
        have h1 := h (v + 1)
        unfold rotR at h1 ⊢
        rw [Option.map_eq_none_iff] at h1 ⊢
        have e1 : nodeAt (.node b o a .nil r) (v + 1) = nodeAt r v := by
          show (if v + 1 < 0 then _ else if v + 1 = 0 then _ else nodeAt r (v + 1 - 0 - 1)) = _
          rw [if_neg (by omega), if_neg (by omega)]; rfl
        rw [e1] at h1
        exact h1
      show BT.node 0 0 () .nil (sh r) = comb (0 + nodes r + 1)
      rw [ihr hr, Nat.zero_add]; rfl

theorem repl_self (t : Tr) : ∀ v, replAt t v (nodeAt t v) = t := by
  induction t with
  | nil => intro v; rfl
  | node b o a l r ihl ihr =>
    intro v
    unfold replAt nodeAt
    split
    · rw [ihl]
    · split
      · rfl
      · rw [ihr]
theorem repl_at (t : Tr) : ∀ (v : Nat) (yb yo : Nat) (ya : Unit) (yl yr : Tr) (sb so : Nat) (sa : Unit) (sl sr : Tr), v < nodes t → nodeAt t v = .node sb so sa sl sr → nodes (.node yb yo ya yl yr) = nodes (nodeAt t v) →
    nodes sl ≤ v ∧ v - nodes sl + nodes (nodeAt t v) ≤ nodes t ∧ nodeAt (replAt t v (.node yb yo ya yl yr)) (v - nodes sl + nodes yl) = .node yb yo ya yl yr ∧ ∀ z, replAt (replAt t v (.node yb yo ya yl yr)) (v - nodes sl + nodes yl) z = replAt t v z := by
  induction t with
  | nil => intro v _ _ _ _ _ _ _ _ _ _ h; simp [nodes] at h
  | node b o a l r ihl ihr =>
    intro v yb yo ya yl yr sb so sa sl sr hv hS hn
    have hyn : nodes yl < nodes (.node yb yo ya yl yr) := by simp only [nodes]; omega
    simp only [nodes] at hv
    have NA : ∀ (l' r' : Tr) (v : Nat), nodeAt (.node b o a l' r') v = if v < nodes l' then nodeAt l' v else if v = nodes l' then .node b o a l' r' else nodeAt r' (v - nodes l' - 1) := fun _ _ _ => rfl
    have RA : ∀ (l' r' : Tr) (v : Nat) (z : Tr), replAt (.node b o a l' r') v z = if v < nodes l' then .node b o a (replAt l' v z) r' else if v = nodes l' then z else .node b o a l' (replAt r' (v - nodes l' - 1) z) := fun _ _ _ _ => rfl
    by_cases h1 : v < nodes l
    · rw [NA, if_pos h1] at hS hn
      rw [NA, if_pos h1]
      obtain ⟨i1, i2, i3, i4⟩ := ihl v yb yo ya yl yr sb so sa sl sr h1 hS hn
      have i5 := nodes_repl l v (.node yb yo ya yl yr) h1
      have hu : v - nodes sl + nodes yl < nodes (replAt l v (.node yb yo ya yl yr)) := by omega
      have e : replAt (.node b o a l r) v (.node yb yo ya yl yr) = .node b o a (replAt l v (.node yb yo ya yl yr)) r := by rw [RA, if_pos h1]
      refine ⟨i1, by simp only [nodes]; omega, ?_, fun z => ?_⟩
      · rw [e, NA, if_pos hu]; exact i3
      · rw [e, RA, if_pos hu, i4, RA, if_pos h1]
    · by_cases h2 : v = nodes l
      · rw [NA, if_neg h1, if_pos h2] at hS hn
        rw [NA, if_neg h1, if_pos h2]
        cases hS
        have hu : v - nodes l + nodes yl = nodes yl := by omega
        have e : replAt (.node b o a l r) v (.node yb yo ya yl yr) = .node yb yo ya yl yr := by rw [RA, if_neg h1, if_pos h2]
        refine ⟨by omega, by omega, ?_, fun z => ?_⟩
        · rw [hu, e]
          unfold nodeAt
          rw [if_neg (by omega), if_pos rfl]
        · rw [hu, e, RA, if_neg h1, if_pos h2]
          unfold replAt
          rw [if_neg (by omega), if_pos rfl]
      · rw [NA, if_neg h1, if_neg h2] at hS hn
        rw [NA, if_neg h1, if_neg h2]
        have hv' : v - nodes l - 1 < nodes r := by omega
        obtain ⟨i1, i2, i3, i4⟩ := ihr (v - nodes l - 1) yb yo ya yl yr sb so sa sl sr hv' hS hn
        have hu : v - nodes sl + nodes yl - nodes l - 1 = v - nodes l - 1 - nodes sl + nodes yl := by omega
        have e : replAt (.node b o a l r) v (.node yb yo ya yl yr) = .node b o a l (replAt r (v - nodes l - 1) (.node yb yo ya yl yr)) := by rw [RA, if_neg h1, if_neg h2]
        refine ⟨by omega, by simp only [nodes]; omega, ?_, fun z => ?_⟩
        · rw [e, NA, if_neg (by omega), if_neg (by omega), hu]; exact i3
        · rw [e, RA, if_neg (by omega), if_neg (by omega), hu, i4, RA, if_neg h1, if_neg h2]
theorem rot_inv {t x : Tr} {v : Nat} (hs : sh t = t) (h : rotR t v = some x) : ∃ u, rotL x u = some t := by
  obtain ⟨hv, _, _, _⟩ := rotR_up h
  unfold rotR at h
  rw [Option.map_eq_some_iff] at h
  obtain ⟨y, hy, rfl⟩ := h
  have hS : sh (nodeAt t v) = nodeAt t v := by rw [← nodeAt_sh, hs]
  have hn := rotRt_nodes hy
  obtain ⟨S, eS⟩ : ∃ S, S = nodeAt t v := ⟨_, rfl⟩
  rw [← eS] at hS hy hn
  match S, hy with
  | .node sb so sa (.node pb po pa A B) C, hy =>
    cases hy
    obtain ⟨_, _, i3, i4⟩ := repl_at t v _ _ _ _ _ _ _ _ _ _ hv eS.symm (hn.trans (by rw [eS]))
    refine ⟨v - nodes (.node pb po pa A B) + nodes A, ?_⟩
    unfold rotL
    rw [i3]
    show some (replAt _ _ (.node 0 0 () (.node 0 0 () A B) C)) = some t
    rw [i4]
    have e2 : BT.node 0 0 () (BT.node 0 0 () A B) C = nodeAt t v := by
      rw [← eS, ← hS]
      simp only [sh] at hS ⊢
      injection hS with h1 h2 h3 h4 h5
      injection h4 with h6 h7 h8 h9 h10
      rw [h9, h10, h5]
    rw [e2, repl_self]
  | .node sb so sa .nil C, hy => cases hy
  | .nil, hy => cases hy
theorem rot_invL {t x : Tr} {v : Nat} (hs : sh t = t) (h : rotL t v = some x) : ∃ u, rotR x u = some t := by
  unfold rotL at h
  rw [Option.map_eq_some_iff] at h
  obtain ⟨y, hy, rfl⟩ := h
  have hv : v < nodes t := by
    rcases Nat.lt_or_ge v (nodes t) with h1 | h1
    · exact h1
    · rw [nodeAt_big h1] at hy; cases hy
  have hS : sh (nodeAt t v) = nodeAt t v := by rw [← nodeAt_sh, hs]
  have hn := rotLt_nodes hy
  obtain ⟨S, eS⟩ : ∃ S, S = nodeAt t v := ⟨_, rfl⟩
  rw [← eS] at hS hy hn
  match S, hy with
  | .node sb so sa A (.node pb po pa B C), hy =>
    cases hy
    obtain ⟨_, _, i3, i4⟩ := repl_at t v _ _ _ _ _ _ _ _ _ _ hv eS.symm (hn.trans (by rw [eS]))
    refine ⟨v - nodes A + nodes (.node 0 0 () A B), ?_⟩
    unfold rotR
    rw [i3]
    show some (replAt _ _ (.node 0 0 () A (.node 0 0 () B C))) = some t
    rw [i4]
    have e2 : BT.node 0 0 () A (BT.node 0 0 () B C) = nodeAt t v := by
      rw [← eS, ← hS]
      simp only [sh] at hS ⊢
      injection hS with h1 h2 h3 h4 h5
      injection h5 with h6 h7 h8 h9 h10
      rw [h9, h10, h4]
    rw [e2, repl_self]
  | .node sb so sa A .nil, hy => cases hy
  | .nil, hy => cases hy
theorem rts_has {f : Tr → Nat → Option Tr} {t x : Tr} {v : Nat} (h : f t v = some x) : ∀ k, v < k → tx x ∈ rts f t k
  | k + 1, hk => by
    by_cases hv : v = k
    · subst hv; rw [rts_some h]; simp
    · have := rts_has h k (by omega)
      rcases hr : f t k with _ | y
      · rw [rts_none hr]; exact this
      · rw [rts_some hr]; exact List.mem_append_left _ this
theorem nb_R {t x : Tr} {v : Nat} (h8 : nodes t ≤ 8) (hs : sh t = t) (h : rotR t v = some x) : tx x ∈ nbB (tx t) := by
  rw [nbB, rtsB_tx h8 hs, rtsB_tx h8 hs]
  exact List.mem_append_left _ (rts_has h _ (rotR_up h).1)
theorem nb_L {t x : Tr} {v : Nat} (h8 : nodes t ≤ 8) (hs : sh t = t) (hv : v < nodes t) (h : rotL t v = some x) : tx x ∈ nbB (tx t) := by
  rw [nbB, rtsB_tx h8 hs, rtsB_tx h8 hs]
  exact List.mem_append_right _ (rts_has h _ hv)
theorem rotL_lt {t x : Tr} {v : Nat} (h : rotL t v = some x) : v < nodes t := by
  unfold rotL at h
  rw [Option.map_eq_some_iff] at h
  obtain ⟨y, hy, rfl⟩ := h
  rcases Nat.lt_or_ge v (nodes t) with h1 | h1
  · exact h1
  · rw [nodeAt_big h1] at hy; cases hy
theorem up_comb {C : List (List UInt8)} (hC : ∀ x ∈ C, ∀ y ∈ nbB x, y ∈ C) {n : Nat} (hn : n ≤ 8) : ∀ (m : Nat) (t : Tr), nodes t = n → sh t = t → 64 < m + sm t → tx t ∈ C → tx (comb n) ∈ C
  | 0, t, h1, h2, h3, _ => by have := sm_le t (by omega); omega
  | m + 1, t, h1, h2, h3, h4 => by
    by_cases h : ∃ v x, rotR t v = some x
    · obtain ⟨v, x, hx⟩ := h
      obtain ⟨_, u1, u2, _⟩ := rotR_up hx
      exact up_comb hC hn m x (by omega) (rotR_sh h2 hx) (by omega) (hC _ h4 _ (nb_R (by omega) h2 hx))
    · have := no_rot t (fun v => by
        rcases hr : rotR t v with _ | x
        · rfl
        · exact absurd ⟨v, x, hr⟩ h)
      rw [h2, h1] at this
      rw [← this]; exact h4
theorem down_comb {C : List (List UInt8)} (hC : ∀ x ∈ C, ∀ y ∈ nbB x, y ∈ C) {n : Nat} (hn : n ≤ 8) (h0 : tx (comb n) ∈ C) : ∀ (m : Nat) (t : Tr), nodes t = n → sh t = t → 64 < m + sm t → tx t ∈ C
  | 0, t, h1, h2, h3 => by have := sm_le t (by omega); omega
  | m + 1, t, h1, h2, h3 => by
    by_cases h : ∃ v x, rotR t v = some x
    · obtain ⟨v, x, hx⟩ := h
      obtain ⟨_, u1, u2, _⟩ := rotR_up hx
      have hxs := rotR_sh h2 hx
      have ih := down_comb hC hn h0 m x (by omega) hxs (by omega)
      obtain ⟨u, hu⟩ := rot_inv h2 hx
      exact hC _ ih _ (nb_L (by omega) hxs (rotL_lt hu) hu)
    · have := no_rot t (fun v => by
        rcases hr : rotR t v with _ | x
        · rfl
        · exact absurd ⟨v, x, hr⟩ h)
      rw [h2, h1] at this
      rw [this]; exact h0
/-- What is closed under rotations and holds one tree holds all of its size. -/
theorem closed_all {C : List (List UInt8)} (hC : ∀ x ∈ C, ∀ y ∈ nbB x, y ∈ C) {t s : Tr} (hn : nodes t ≤ 8) (ht : sh t = t) (hs : sh s = s) (he : nodes s = nodes t) (h : tx t ∈ C) : tx s ∈ C :=
  down_comb hC hn (up_comb hC hn 65 t rfl ht (by omega) h) 65 s he hs (by omega)

theorem pth_sub (t : Tr) : ∀ (f : Nat) (l : List UInt8) (u d : Nat), nodes t ≤ u → u ≤ d → u + d ≤ f → ∀ x, x ∈ pth (f - 2 * nodes t) (l ++ wd t) (u - nodes t) (d - nodes t) → x ∈ pth f l u d := by
  induction t with
  | nil => intro f l u d _ _ _ x hx; simpa [wd, nodes] using hx
  | node b o a L R ihL ihR =>
    intro f l u d h1 h2 h3 x hx
    have hnn : nodes (.node b o a L R) = nodes L + nodes R + 1 := rfl
    rw [hnn] at h1 hx
    obtain ⟨f1, rfl⟩ : ∃ f1, f = f1 + 1 := ⟨f - 1, by omega⟩
    rw [pth_go (by omega), if_pos (show 0 < u by omega)]
    refine List.mem_append_left _ (ihL f1 (l ++ [117]) (u - 1) d (by omega) (by omega) (by omega) x ?_)
    obtain ⟨f3, hf3⟩ : ∃ f3, f1 - 2 * nodes L = f3 + 1 := ⟨f1 - 2 * nodes L - 1, by omega⟩
    rw [hf3, pth_go (by omega), if_pos (show u - 1 - nodes L < d - nodes L by omega)]
    refine List.mem_append_right _ (ihR f3 (l ++ [117] ++ wd L ++ [100]) (u - 1 - nodes L) (d - nodes L - 1) (by omega) (by omega) (by omega) x ?_)
    have e1 : f3 - 2 * nodes R = f1 + 1 - 2 * (nodes L + nodes R + 1) := by omega
    have e2 : u - 1 - nodes L - nodes R = u - (nodes L + nodes R + 1) := by omega
    have e3 : d - nodes L - 1 - nodes R = d - (nodes L + nodes R + 1) := by omega
    have e4 : l ++ [117] ++ wd L ++ [100] ++ wd R = l ++ wd (.node b o a L R) := by simp [wd]
    rw [e1, e2, e3, e4]; exact hx
theorem wd_mem (t : Tr) : wd t ∈ paths (nodes t) := by
  refine pth_sub t (2 * nodes t) [] (nodes t) (nodes t) (Nat.le_refl _) (Nat.le_refl _) (by omega) _ ?_
  rw [Nat.sub_self, Nat.sub_self, List.nil_append, pth_done]; simp
theorem rdw_wd (t : Tr) : ∀ (f : Nat) (r : List UInt8), nodes t ≤ f → (r = [] ∨ ∃ s, r = 100 :: s) → rdw f (wd t ++ r) = (sh t, r) := by
  induction t with
  | nil =>
    intro f r _ hr
    cases f with
    | zero => rfl
    | succ f =>
      rcases hr with rfl | ⟨s, rfl⟩
      · rfl
      · rfl
  | node b o a L R ihL ihR =>
    intro f r hf hr
    have hnn : nodes (.node b o a L R) = nodes L + nodes R + 1 := rfl
    obtain ⟨f1, rfl⟩ : ∃ f1, f = f1 + 1 := ⟨f - 1, by omega⟩
    have e : wd (.node b o a L R) ++ r = 117 :: (wd L ++ 100 :: (wd R ++ r)) := by simp [wd]
    rw [e]
    unfold rdw
    dsimp only
    rw [if_pos rfl, ihL f1 (100 :: (wd R ++ r)) (by omega) (Or.inr ⟨_, rfl⟩)]
    dsimp only
    rw [ihR f1 r (by omega) hr]; rfl
theorem tw_wd (t : Tr) : tw (wd t) = sh t := by
  unfold tw
  have := rdw_wd t (wd t).length [] (by rw [wd_len]; omega) (Or.inl rfl)
  rw [List.append_nil] at this
  rw [this]
theorem nodup_len {α : Type} [DecidableEq α] : ∀ (L M : List α), L.Nodup → (∀ x ∈ L, x ∈ M) → L.length ≤ M.length
  | [], _, _, _ => Nat.zero_le _
  | x :: L, M, hn, h => by
    have hx := h x (List.mem_cons_self ..)
    have hn2 := List.nodup_cons.1 hn
    have := nodup_len L (M.erase x) hn2.2 (fun y hy => (List.mem_erase_of_ne (fun e => by subst e; exact hn2.1 hy)).2 (h y (List.mem_cons_of_mem _ hy)))
    rw [List.length_erase_of_mem hx] at this
    have hp := List.length_pos_of_mem hx
    rw [List.length_cons]; omega

end Go.Proofs.Ytiebaoglcdbopaa
