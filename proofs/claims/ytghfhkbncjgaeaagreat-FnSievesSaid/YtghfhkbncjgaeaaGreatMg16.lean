/- Merged: TreeL. -/
import Derived.Test.YtghfhkbncjgaeaaGreatMg1

namespace Go.Proofs.YtghfhkbncjgaeaaGreat
open Go.RowKit Go.Deep

abbrev Tr := BT Unit

/-- The tree's text. -/
def tx : Tr → List UInt8
  | .nil => [46]
  | .node _ _ _ l r => [40] ++ tx l ++ tx r ++ [41]
def nodes : Tr → Nat
  | .nil => 0
  | .node _ _ _ l r => nodes l + nodes r + 1
theorem tx_len (t : Tr) : (tx t).length = 3 * nodes t + 1 := by
  induction t with
  | nil => rfl
  | node b o a l r ihl ihr => simp [tx, nodes, ihl, ihr]; omega
theorem ptr_ptr (t : Tr) : ∃ p, t.ptr = .pointer p := by cases t <;> exact ⟨_, rfl⟩

/-- The shape alone. -/
def sh : Tr → Tr
  | .nil => .nil
  | .node _ _ _ l r => .node 0 0 () (sh l) (sh r)
theorem tx_sh (t : Tr) : tx (sh t) = tx t := by
  induction t with
  | nil => rfl
  | node b o a l r ihl ihr => simp [tx, sh, ihl, ihr]
theorem nodes_sh (t : Tr) : nodes (sh t) = nodes t := by
  induction t with
  | nil => rfl
  | node b o a l r ihl ihr => simp [nodes, sh, ihl, ihr]
theorem sh_sh (t : Tr) : sh (sh t) = sh t := by
  induction t with
  | nil => rfl
  | node b o a l r ihl ihr => simp [sh, ihl, ihr]
theorem tx_of_sh {a b : Tr} (h : sh a = sh b) : tx a = tx b := by rw [← tx_sh a, h, tx_sh]
theorem nodes_of_sh {a b : Tr} (h : sh a = sh b) : nodes a = nodes b := by rw [← nodes_sh a, h, nodes_sh]

/-- The tree that a text begins with, and the rest. -/
def pz : Nat → List UInt8 → Option (Tr × List UInt8)
  | 0, _ => none
  | _ + 1, [] => none
  | f + 1, c :: r =>
    if c = 46 then some (.nil, r)
    else if c = 40 then
      (pz f r).bind fun x => (pz f x.2).bind fun y => if y.2.head? = some 41 then some (.node 0 0 () x.1 y.1, y.2.tail) else none
    else none
theorem pz_sound : ∀ {f : Nat} {l : List UInt8} {t : Tr} {r : List UInt8}, pz f l = some (t, r) → l = tx t ++ r ∧ sh t = t
  | 0, _, _, _, h => by cases h
  | _ + 1, [], _, _, h => by cases h
  | f + 1, c :: l, t, r, h => by
    unfold pz at h
    split at h
    · next hc =>
      cases h
      exact ⟨by rw [hc]; rfl, rfl⟩
    · split at h
      · next hc =>
        rw [Option.bind_eq_some_iff] at h
        obtain ⟨⟨a, r1⟩, h1, h⟩ := h
        rw [Option.bind_eq_some_iff] at h
        obtain ⟨⟨b, r2⟩, h2, h⟩ := h
        dsimp only at h h2
        obtain ⟨e1, s1⟩ := pz_sound h1
        obtain ⟨e2, s2⟩ := pz_sound h2
        split at h
        · next hd =>
          cases h
          cases r2 with
          | nil => cases hd
          | cons d r3 =>
            cases hd
            refine ⟨?_, by simp [sh, s1, s2]⟩
            rw [hc, e1, e2]
            simp [tx]
        · cases h
      · cases h
theorem pz_tree : ∀ (t : Tr) {f : Nat} {r : List UInt8}, (tx t).length ≤ f → pz f (tx t ++ r) = some (sh t, r)
  | .nil, f, r, h => by
    cases f with
    | zero => simp [tx] at h
    | succ f => rfl
  | .node _ _ _ a b, f, r, h => by
    cases f with
    | zero => simp [tx] at h
    | succ f =>
      have h1 : (tx a).length ≤ f := by simp [tx] at h; omega
      have h2 : (tx b).length ≤ f := by simp [tx] at h; omega
      have e1 := pz_tree a (r := tx b ++ (41 :: r)) h1
      have e2 := pz_tree b (r := 41 :: r) h2
      simp [tx, pz, e1, e2, sh]
theorem tx_inj {a b : Tr} (h : tx a = tx b) : sh a = sh b := by
  have h1 := pz_tree a (r := []) (Nat.le_refl _)
  have h2 := pz_tree b (r := []) (Nat.le_refl _)
  rw [h] at h1
  rw [h1] at h2
  injection h2 with h2
  injection h2
theorem tx_head (t : Tr) : ∃ c r, tx t = c :: r := by cases t <;> exact ⟨_, _, rfl⟩
theorem tx_inj2 {a b : Tr} {r s : List UInt8} (h : tx a ++ r = tx b ++ s) : sh a = sh b ∧ r = s := by
  have h1 := pz_tree a (r := r) (f := (tx a).length + (tx b).length) (by omega)
  have h2 := pz_tree b (r := s) (f := (tx a).length + (tx b).length) (by omega)
  rw [h, h2] at h1
  injection h1 with h1
  injection h1 with h1 h3
  exact ⟨h1.symm, h3.symm⟩

/-- The place behind a tree that was read out of l, or -1. -/
def endv (n : Nat) : Option (Tr × List UInt8) → Int
  | none => -1
  | some x => (n : Int) - x.2.length
/-- The tree whose text l is, with at most 8 nodes. -/
def parseB (l : List UInt8) : Option Tr :=
  if l.length ≤ 25 then (pz (l.length + 1) l).bind fun x => if x.2 = [] then some x.1 else none else none
theorem parseB_some {l : List UInt8} {t : Tr} (h : parseB l = some t) : l = tx t ∧ nodes t ≤ 8 ∧ sh t = t := by
  unfold parseB at h
  split at h
  · next hl =>
    rw [Option.bind_eq_some_iff] at h
    obtain ⟨⟨a, r⟩, h1, h⟩ := h
    dsimp only at h
    split at h
    · next hr =>
      cases h
      obtain ⟨e1, s1⟩ := pz_sound h1
      subst hr
      rw [List.append_nil] at e1
      refine ⟨e1, ?_, s1⟩
      have := tx_len t
      rw [← e1] at this
      omega
    · cases h
  · cases h
theorem parseB_tx {t : Tr} (h : nodes t ≤ 8) : parseB (tx t) = some (sh t) := by
  have hl := tx_len t
  have := pz_tree t (r := []) (f := (tx t).length + 1) (by omega)
  rw [List.append_nil] at this
  unfold parseB
  rw [if_pos (by omega), this]
  rfl
def isB (l : List UInt8) : Bool := (parseB l).isSome
theorem isB_tx {t : Tr} (h : nodes t ≤ 8) : isB (tx t) = true := by rw [isB, parseB_tx h]; rfl
theorem isB_iff {l : List UInt8} : isB l = true ↔ ∃ t, l = tx t ∧ nodes t ≤ 8 ∧ sh t = t := by
  constructor
  · intro h
    unfold isB at h
    rcases hp : parseB l with _ | t
    · rw [hp] at h; cases h
    · exact ⟨t, parseB_some hp⟩
  · rintro ⟨t, rfl, h, _⟩
    exact isB_tx h
/-- A text either is a tree's, or none. -/
theorem isB_cases (l : List UInt8) : isB l = false ∨ ∃ t, l = tx t ∧ nodes t ≤ 8 ∧ sh t = t := by
  rcases h : isB l with _ | _
  · exact Or.inl rfl
  · exact Or.inr (isB_iff.1 h)
def nodesB (l : List UInt8) : Int := match parseB l with
  | none => -1
  | some t => nodes t
theorem nodesB_tx {t : Tr} (h : nodes t ≤ 8) : nodesB (tx t) = nodes t := by rw [nodesB, parseB_tx h, ← nodes_sh t]
theorem nodesB_no {l : List UInt8} (h : isB l = false) : nodesB l = -1 := by
  unfold isB at h
  rcases hp : parseB l with _ | t
  · rw [nodesB, hp]
  · rw [hp] at h; cases h
theorem isB_len {l : List UInt8} (h : isB l = true) : l.length ≤ 25 := by
  obtain ⟨t, rfl, h8, _⟩ := isB_iff.1 h
  rw [tx_len]; omega
/-- Where the rest of a reading begins. -/
theorem pz_cut {l : List UInt8} {f k : Nat} {a : Tr} {r : List UInt8} (hk : k ≤ l.length) (h : pz f (l.drop k) = some (a, r)) :
    ∃ x : Nat, k < x ∧ x ≤ l.length ∧ r = l.drop x ∧ endv l.length (some (a, r)) = x ∧ x = k + (tx a).length := by
  obtain ⟨e, _⟩ := pz_sound h
  have hl := congrArg List.length e
  simp only [List.length_drop, List.length_append] at hl
  have := tx_len a
  refine ⟨k + (tx a).length, by omega, by omega, ?_, ?_, rfl⟩
  · rw [← List.drop_drop, e, List.drop_left]
  · simp only [endv]; omega
theorem u8n {c d : UInt8} (h : c ≠ d) : ((c.toNat : Int) == (d.toNat : Int)) = false := by
  simp only [beq_eq_false_iff_ne, ne_eq]
  intro he
  exact h (UInt8.toNat_inj.1 (by omega))
theorem isB_eq (l : List UInt8) : isB l = (decide (l.length ≤ 25) && (endv l.length (pz (l.length + 1) l) == (l.length : Int))) := by
  unfold isB parseB
  by_cases h : l.length ≤ 25
  · rw [if_pos h, decide_eq_true h, Bool.true_and]
    rcases hz : pz (l.length + 1) l with _ | ⟨a, r⟩
    · have : ((-1 : Int) == (l.length : Int)) = false := by rw [beq_eq_false_iff_ne]; omega
      exact this.symm
    · show (if r = [] then some a else none).isSome = (((l.length : Int) - r.length) == (l.length : Int))
      cases r with
      | nil => simp
      | cons c r =>
        have : (((l.length : Int) - (c :: r).length) == (l.length : Int)) = false := by rw [beq_eq_false_iff_ne, List.length_cons]; omega
        rw [this]; rfl
  · rw [if_neg h, decide_eq_false h]; rfl

/-- The mirror image. -/
def mir : Tr → Tr
  | .nil => .nil
  | .node _ _ _ l r => .node 0 0 () (mir r) (mir l)
theorem nodes_mir (t : Tr) : nodes (mir t) = nodes t := by
  induction t with
  | nil => rfl
  | node b o a l r ihl ihr => simp [nodes, mir, ihl, ihr]; omega
theorem sh_mir (t : Tr) : sh (mir t) = mir t := by
  induction t with
  | nil => rfl
  | node b o a l r ihl ihr => simp [sh, mir, ihl, ihr]
theorem mir_sh (t : Tr) : mir (sh t) = mir t := by
  induction t with
  | nil => rfl
  | node b o a l r ihl ihr => simp [sh, mir, ihl, ihr]
theorem mir_mir (t : Tr) : mir (mir t) = sh t := by
  induction t with
  | nil => rfl
  | node b o a l r ihl ihr => simp [sh, mir, ihl, ihr]

/-- The node with a number, in order, as a tree. -/
def nodeAt : Tr → Nat → Tr
  | .nil, _ => .nil
  | .node b o a l r, v => if v < nodes l then nodeAt l v else if v = nodes l then .node b o a l r else nodeAt r (v - nodes l - 1)
/-- Another tree in the node's place. -/
def replAt : Tr → Nat → Tr → Tr
  | .nil, _, _ => .nil
  | .node b o a l r, v, x => if v < nodes l then .node b o a (replAt l v x) r else if v = nodes l then x else .node b o a l (replAt r (v - nodes l - 1) x)
theorem nodeAt_sh (t : Tr) : ∀ v, nodeAt (sh t) v = sh (nodeAt t v) := by
  induction t with
  | nil => intro v; rfl
  | node b o a l r ihl ihr =>
    intro v
    simp only [sh, nodeAt, nodes_sh]
    split
    · exact ihl v
    · split
      · rfl
      · exact ihr _
theorem replAt_sh (t : Tr) : ∀ v x, sh (replAt t v x) = replAt (sh t) v (sh x) := by
  induction t with
  | nil => intro v x; rfl
  | node b o a l r ihl ihr =>
    intro v x
    simp only [sh, replAt, nodes_sh]
    split
    · simp only [sh, ihl]
    · split
      · rfl
      · simp only [sh, ihr]
theorem nodeAt_node {t : Tr} : ∀ {v : Nat}, v < nodes t → ∃ b o a l r, nodeAt t v = .node b o a l r := by
  induction t with
  | nil => intro v h; simp [nodes] at h
  | node b o a l r ihl ihr =>
    intro v h
    simp only [nodes] at h
    unfold nodeAt
    split
    · next h1 => exact ihl h1
    · split
      · exact ⟨_, _, _, _, _, rfl⟩
      · exact ihr (by omega)
theorem nodeAt_big {t : Tr} : ∀ {v : Nat}, nodes t ≤ v → nodeAt t v = .nil := by
  induction t with
  | nil => intro v _; rfl
  | node b o a l r ihl ihr =>
    intro v h
    simp only [nodes] at h
    unfold nodeAt
    rw [if_neg (by omega), if_neg (by omega)]
    exact ihr (by omega)
theorem nodeAt_le (t : Tr) : ∀ v : Nat, nodes (nodeAt t v) ≤ nodes t := by
  induction t with
  | nil => intro v; exact Nat.le_refl _
  | node b o a l r ihl ihr =>
    intro v
    unfold nodeAt
    split
    · have := ihl v; simp only [nodes]; omega
    · split
      · exact Nat.le_refl _
      · have := ihr (v - nodes l - 1); simp only [nodes]; omega
theorem nodes_repl (t : Tr) : ∀ (v : Nat) (x : Tr), v < nodes t → nodes (replAt t v x) + nodes (nodeAt t v) = nodes t + nodes x := by
  induction t with
  | nil => intro v x h; simp [nodes] at h
  | node b o a l r ihl ihr =>
    intro v x h
    simp only [nodes] at h
    unfold nodeAt replAt
    split
    · next h1 => have := ihl v x h1; simp only [nodes]; omega
    · split
      · simp only [nodes]; omega
      · have := ihr (v - nodes l - 1) x (by omega); simp only [nodes]; omega

/-- The rotations at the root. -/
def rotRt : Tr → Option Tr
  | .node _ _ _ (.node _ _ _ a b) c => some (.node 0 0 () a (.node 0 0 () b c))
  | _ => none
def rotLt : Tr → Option Tr
  | .node _ _ _ a (.node _ _ _ b c) => some (.node 0 0 () (.node 0 0 () a b) c)
  | _ => none
def rotR (t : Tr) (v : Nat) : Option Tr := (rotRt (nodeAt t v)).map (replAt t v)
def rotL (t : Tr) (v : Nat) : Option Tr := (rotLt (nodeAt t v)).map (replAt t v)
theorem rotRt_nodes {t x : Tr} (h : rotRt t = some x) : nodes x = nodes t := by
  match t, h with
  | .node _ _ _ (.node _ _ _ a b) c, h => cases h; simp only [nodes]; omega
  | .node _ _ _ .nil c, h => cases h
  | .nil, h => cases h
theorem rotLt_nodes {t x : Tr} (h : rotLt t = some x) : nodes x = nodes t := by
  match t, h with
  | .node _ _ _ a (.node _ _ _ b c), h => cases h; simp only [nodes]; omega
  | .node _ _ _ c .nil, h => cases h
  | .nil, h => cases h
theorem rotRt_sh (s : Tr) : rotRt (sh s) = (rotRt s).map sh := by
  match s with
  | .node _ _ _ (.node _ _ _ a b) c => rfl
  | .node _ _ _ .nil c => rfl
  | .nil => rfl
theorem rotLt_sh (s : Tr) : rotLt (sh s) = (rotLt s).map sh := by
  match s with
  | .node _ _ _ c (.node _ _ _ a b) => rfl
  | .node _ _ _ c .nil => rfl
  | .nil => rfl
theorem tx_repl {x y : Tr} (t : Tr) (v : Nat) (h : sh x = sh y) : tx (replAt t v x) = tx (replAt t v y) := by
  rw [← tx_sh, replAt_sh, h, ← replAt_sh, tx_sh]
/-- What a rotation answers: the text and true, or the empty text and false. -/
def oT : Option Tr → List UInt8 × Bool
  | none => ([], false)
  | some t => (tx t, true)
theorem oT_rotR_sh (t : Tr) (v : Nat) : oT (rotR (sh t) v) = oT (rotR t v) := by
  unfold rotR
  rw [nodeAt_sh, rotRt_sh]
  rcases rotRt (nodeAt t v) with _ | x
  · rfl
  · show (tx (replAt (sh t) v (sh x)), true) = (tx (replAt t v x), true)
    rw [← replAt_sh, tx_sh]
theorem oT_rotL_sh (t : Tr) (v : Nat) : oT (rotL (sh t) v) = oT (rotL t v) := by
  unfold rotL
  rw [nodeAt_sh, rotLt_sh]
  rcases rotLt (nodeAt t v) with _ | x
  · rfl
  · show (tx (replAt (sh t) v (sh x)), true) = (tx (replAt t v x), true)
    rw [← replAt_sh, tx_sh]
def atB (f : Tr → Nat → Option Tr) (l : List UInt8) (v : Int) : Option Tr :=
  (parseB l).bind fun t => if 0 ≤ v ∧ v < nodes t then f t v.toNat else none
theorem atB_no {f : Tr → Nat → Option Tr} {l : List UInt8} {v : Int} (h : isB l = false) : atB f l v = none := by
  unfold isB at h
  unfold atB
  rcases hp : parseB l with _ | t
  · rfl
  · rw [hp] at h; cases h
theorem atB_out {f : Tr → Nat → Option Tr} {t : Tr} {v : Int} (h8 : nodes t ≤ 8) (h : v < 0 ∨ (nodes t : Int) ≤ v) : atB f (tx t) v = none := by
  unfold atB
  rw [parseB_tx h8]
  show (if 0 ≤ v ∧ v < (nodes (sh t) : Int) then _ else _) = _
  rw [nodes_sh, if_neg (by omega)]
theorem atB_in {f : Tr → Nat → Option Tr} {t : Tr} {v : Nat} (h8 : nodes t ≤ 8) (hs : sh t = t) (h : v < nodes t) : atB f (tx t) v = f t v := by
  unfold atB
  rw [parseB_tx h8, hs]
  show (if 0 ≤ (v : Int) ∧ (v : Int) < (nodes t : Int) then _ else _) = _
  rw [if_pos (by omega), Int.toNat_natCast]
def rotRB (l : List UInt8) (v : Int) : List UInt8 × Bool := oT (atB rotR l v)
def rotLB (l : List UInt8) (v : Int) : List UInt8 × Bool := oT (atB rotL l v)
def nodeAtB (l : List UInt8) (v : Int) : List UInt8 × Bool := oT (atB (fun t v => some (nodeAt t v)) l v)

/-- The weights: for each node, in order, the number of nodes of its right part. -/
def wts : Tr → List Int
  | .nil => []
  | .node _ _ _ l r => wts l ++ [(nodes r : Int)] ++ wts r
def rnodes : Tr → Nat
  | .nil => 0
  | .node _ _ _ _ r => nodes r
theorem wts_len (t : Tr) : (wts t).length = nodes t := by
  induction t with
  | nil => rfl
  | node b o a l r ihl ihr => simp [wts, nodes, ihl, ihr]; omega
theorem wts_sh (t : Tr) : wts (sh t) = wts t := by
  induction t with
  | nil => rfl
  | node b o a l r ihl ihr => simp [wts, sh, ihl, ihr, nodes_sh]
theorem wts_at (t : Tr) : ∀ v : Nat, v < nodes t → (wts t)[v]? = some (rnodes (nodeAt t v) : Int) := by
  induction t with
  | nil => intro v h; simp [nodes] at h
  | node b o a l r ihl ihr =>
    intro v h
    simp only [nodes] at h
    unfold nodeAt
    have hl := wts_len l
    split
    · next h1 =>
      rw [wts, List.append_assoc, List.getElem?_append_left (by omega)]
      exact ihl v h1
    · split
      · next h1 h2 =>
        subst h2
        rw [wts, List.append_assoc, List.getElem?_append_right (by omega), hl, Nat.sub_self]
        rfl
      · next h1 h2 =>
        rw [wts, List.getElem?_append_right (by simp; omega)]
        have := ihr (v - nodes l - 1) (by omega)
        rw [← this]
        congr 1
        simp; omega
theorem wts_bd (t : Tr) : ∀ (v : Nat) (x : Int), (wts t)[v]? = some x → 0 ≤ x ∧ (v : Int) + x < nodes t := by
  induction t with
  | nil => intro v x h; simp [wts] at h
  | node b o a l r ihl ihr =>
    intro v x h
    have hl := wts_len l
    have hr := wts_len r
    simp only [nodes]
    rcases Nat.lt_or_ge v (nodes l) with h1 | h1
    · rw [wts, List.append_assoc, List.getElem?_append_left (by omega)] at h
      have := ihl v x h
      omega
    · rcases Nat.eq_or_lt_of_le h1 with h2 | h2
      · subst h2
        rw [wts, List.append_assoc, List.getElem?_append_right (by omega), hl, Nat.sub_self] at h
        cases h
        omega
      · rw [wts, List.getElem?_append_right (by simp; omega)] at h
        have := ihr _ x h
        simp at this
        omega
/-- The tree of weights: the root is the first place that q takes. -/
def bld (q : Nat → Nat → Int → Bool) : Nat → List Int → Tr
  | 0, _ => .nil
  | f + 1, l => match (List.range l.length).find? (fun i => q l.length i (l.getD i 0)) with
    | none => .nil
    | some i => .node 0 0 () (bld q f (l.take i)) (bld q f (l.drop (i + 1)))
def qS (n i : Nat) (x : Int) : Bool := decide ((n : Int) - 1 ≤ (i : Int) + x)
def qI (n i : Nat) (x : Int) : Bool := decide (x = (n : Int) - 1 - i)
theorem bld_nodes (q : Nat → Nat → Int → Bool) : ∀ (f : Nat) (l : List Int), nodes (bld q f l) ≤ l.length ∧ sh (bld q f l) = bld q f l
  | 0, _ => ⟨Nat.zero_le _, rfl⟩
  | f + 1, l => by
    unfold bld
    split
    · exact ⟨Nat.zero_le _, rfl⟩
    · next i hi =>
      have hm := List.mem_of_find?_eq_some hi
      rw [List.mem_range] at hm
      have h1 := bld_nodes q f (l.take i)
      have h2 := bld_nodes q f (l.drop (i + 1))
      simp only [List.length_take, List.length_drop] at h1 h2
      exact ⟨by simp only [nodes]; omega, by simp only [sh, h1.2, h2.2]⟩
theorem find_range {p : Nat → Bool} {n i : Nat} (hi : i < n) (hp : p i = true) (hn : ∀ j, j < i → p j = false) : (List.range n).find? p = some i := by
  rw [List.find?_range_eq_some]
  exact ⟨hp, by simpa using hi, fun j hj => by rw [hn j hj]; rfl⟩
theorem bld_wts (q : Nat → Nat → Int → Bool) (hq : ∀ n i : Nat, ∀ x : Int, (i : Int) + x < (n : Int) - 1 → q n i x = false) (hq' : ∀ n i : Nat, ∀ x : Int, (i : Int) + x = (n : Int) - 1 → q n i x = true) :
    ∀ (t : Tr) (f : Nat), nodes t ≤ f → bld q f (wts t) = sh t
  | .nil, 0, _ => rfl
  | .nil, f + 1, _ => rfl
  | .node _ _ _ l r, 0, h => by simp [nodes] at h
  | .node b o a l r, f + 1, h => by
    simp only [nodes] at h
    have hl := wts_len l
    have hr := wts_len r
    have hw : wts (.node b o a l r) = wts l ++ (nodes r : Int) :: wts r := by simp [wts]
    have hn : (wts (.node b o a l r)).length = nodes l + nodes r + 1 := wts_len _
    have hf : (List.range (wts (.node b o a l r)).length).find? (fun i => q (wts (.node b o a l r)).length i ((wts (.node b o a l r)).getD i 0)) = some (nodes l) := by
      apply find_range
      · omega
      · apply hq'
        rw [hn, hw, List.getD_eq_getElem?_getD, List.getElem?_append_right (by omega), hl, Nat.sub_self]
        show (nodes l : Int) + nodes r = _
        omega
      · intro j hj
        apply hq
        have hj' : j < (wts l).length := by omega
        rw [hn, hw, List.getD_eq_getElem?_getD, List.getElem?_append_left hj', List.getElem?_eq_getElem hj']
        have := wts_bd l j _ (List.getElem?_eq_getElem hj')
        show (j : Int) + (wts l)[j] < _
        omega
    unfold bld
    rw [hf]
    show BT.node 0 0 () (bld q f ((wts (.node b o a l r)).take (nodes l))) (bld q f ((wts (.node b o a l r)).drop (nodes l + 1))) = _
    rw [hw, List.take_append_of_le_length (by omega), ← hl, List.take_length, List.drop_append, List.drop_eq_nil_of_le (by omega)]
    rw [show (wts l).length + 1 - (wts l).length = 1 by omega, List.nil_append]
    show BT.node 0 0 () (bld q f (wts l)) (bld q f (wts r)) = _
    rw [bld_wts q hq hq' l f (by omega), bld_wts q hq hq' r f (by omega)]
    rfl
theorem bldS_wts (t : Tr) (f : Nat) (h : nodes t ≤ f) : bld qS f (wts t) = sh t :=
  bld_wts qS (fun n i x h => by simp [qS]; omega) (fun n i x h => by simp [qS]; omega) t f h
theorem bldI_wts (t : Tr) (f : Nat) (h : nodes t ≤ f) : bld qI f (wts t) = sh t :=
  bld_wts qI (fun n i x h => by simp [qI]; omega) (fun n i x h => by simp [qI]; omega) t f h
theorem wts_inj {a b : Tr} (h : wts a = wts b) : sh a = sh b := by
  have hn : nodes a = nodes b := by rw [← wts_len, h, wts_len]
  rw [← bldI_wts a (nodes a) (Nat.le_refl _), h, hn, bldI_wts b _ (Nat.le_refl _)]
/-- The tree with these weights. -/
def bw (l : List Int) : Option Tr := if l.length ≤ 8 ∧ wts (bld qI l.length l) = l then some (bld qI l.length l) else none
theorem bw_wts {t : Tr} (h : nodes t ≤ 8) : bw (wts t) = some (sh t) := by
  have hl := wts_len t
  unfold bw
  rw [if_pos ⟨by omega, by rw [hl, bldI_wts t _ (Nat.le_refl _), wts_sh]⟩, hl, bldI_wts t _ (Nat.le_refl _)]
theorem bw_none {l : List Int} (h : ∀ t, nodes t ≤ 8 → wts t ≠ l) : bw l = none := by
  unfold bw
  split
  · next hc => exact absurd hc.2 (h _ (by have := (bld_nodes qI l.length l).1; omega))
  · rfl
theorem bw_big {l : List Int} (h : 8 < l.length) : bw l = none := by
  unfold bw
  rw [if_neg (by omega)]
/-- What the reference builds decides as well. -/
theorem bwS_yes {l : List Int} (h : l.length ≤ 8) (hw : wts (bld qS l.length l) = l) : bw l = some (bld qS l.length l) := by
  have hb := bld_nodes qS l.length l
  have := bw_wts (t := bld qS l.length l) (by omega)
  rw [hw, hb.2] at this
  exact this
theorem bwS_no {l : List Int} (hw : wts (bld qS l.length l) ≠ l) : bw l = none := by
  apply bw_none
  rintro t _ rfl
  apply hw
  rw [wts_len, bldS_wts t _ (Nat.le_refl _), wts_sh]
theorem bw_range {l : List Int} {i : Nat} {x : Int} (hi : l[i]? = some x) (hx : x < 0 ∨ (l.length : Int) - 1 - i < x) : bw l = none := by
  apply bw_none
  rintro t _ rfl
  have := wts_bd t i x hi
  rw [wts_len] at hx
  omega
theorem bw_some {l : List Int} {t : Tr} (h : bw l = some t) : wts t = l ∧ nodes t ≤ 8 ∧ sh t = t := by
  unfold bw at h
  split at h
  · next hc =>
    cases h
    have := bld_nodes qI l.length l
    exact ⟨hc.2, by omega, this.2⟩
  · cases h

end Go.Proofs.YtghfhkbncjgaeaaGreat
