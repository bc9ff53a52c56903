/- The path of a tree: u, the path of the left part, d and that of the right part. No program is named here. -/
import Derived.Test.YtiebaoglcdbopaaTreeL
import Derived.Test.YtiebaoglcdbopaaPathDefs
namespace Go.Proofs.Ytiebaoglcdbopaa
open Go.RowKit Go.Deep

def wd : Tr → List UInt8
  | .nil => []
  | .node _ _ _ l r => 117 :: (wd l ++ 100 :: wd r)
theorem wd_len (t : Tr) : (wd t).length = 2 * nodes t := by
  induction t with
  | nil => rfl
  | node b o a l r ihl ihr => simp [wd, nodes, ihl, ihr]; omega
theorem wd_sh (t : Tr) : wd (sh t) = wd t := by
  induction t with
  | nil => rfl
  | node b o a l r ihl ihr => simp [wd, sh, ihl, ihr]
theorem hat_cu (x : List UInt8) : ∀ k, hat (117 :: x) (k + 1) = hat x k + 1
  | 0 => by simp [hat]
  | k + 1 => by
    rw [hat, hat_cu x k, hat, List.getElem?_cons_succ]
    split <;> omega
theorem hat_cd (x : List UInt8) : ∀ k, hat (100 :: x) (k + 1) = hat x k - 1
  | 0 => by simp [hat]
  | k + 1 => by
    rw [hat, hat_cd x k, hat, List.getElem?_cons_succ]
    split <;> omega
theorem hat_left {x y : List UInt8} : ∀ k, k ≤ x.length → hat (x ++ y) k = hat x k
  | 0, _ => rfl
  | k + 1, h => by rw [hat, hat, hat_left k (by omega), List.getElem?_append_left (by omega)]
theorem hat_right {x y : List UInt8} : ∀ k, hat (x ++ y) (x.length + k) = hat x x.length + hat y k
  | 0 => by rw [Nat.add_zero, hat_left _ (Nat.le_refl _)]; simp [hat]
  | k + 1 => by
    rw [← Nat.add_assoc, hat, hat, hat_right k, List.getElem?_append_right (by omega), Nat.add_sub_cancel_left]
    split <;> omega
theorem wd_let (t : Tr) : ∀ c ∈ wd t, c = 117 ∨ c = 100 := by
  induction t with
  | nil => intro c h; cases h
  | node b o a l r ihl ihr =>
    intro c h
    simp only [wd, List.mem_cons, List.mem_append] at h
    rcases h with h | h | h | h
    · exact Or.inl h
    · exact ihl c h
    · exact Or.inr h
    · exact ihr c h
theorem wd_end (t : Tr) : hat (wd t) (wd t).length = 0 := by
  induction t with
  | nil => rfl
  | node b o a l r ihl ihr =>
    have e : (wd (.node b o a l r)).length = (wd l).length + ((wd r).length + 1) + 1 := by simp [wd]
    rw [e]
    show hat (117 :: _) _ = 0
    rw [hat_cu, hat_right, hat_cd, ihl, ihr]; rfl
theorem wd_in {b o : Nat} {a : Unit} {l r : Tr} (hl : ∀ k, k ≤ (wd l).length → 0 ≤ hat (wd l) k) {k : Nat} (h1 : 1 ≤ k) (h2 : k ≤ (wd l).length + 1) : 1 ≤ hat (wd (.node b o a l r)) k := by
  obtain ⟨j, rfl⟩ : ∃ j, k = j + 1 := ⟨k - 1, by omega⟩
  show 1 ≤ hat (117 :: _) _
  rw [hat_cu, hat_left _ (by omega)]
  have := hl j (by omega)
  omega
theorem wd_nn (t : Tr) : ∀ k, k ≤ (wd t).length → 0 ≤ hat (wd t) k := by
  induction t with
  | nil => intro k h; obtain rfl : k = 0 := by simpa [wd] using h
           exact Int.le_refl _
  | node b o a l r ihl ihr =>
    intro k h
    have e : (wd (.node b o a l r)).length = (wd l).length + ((wd r).length + 1) + 1 := by simp [wd]
    rw [e] at h
    rcases Nat.eq_zero_or_pos k with h0 | h0
    · subst h0; exact Int.le_refl _
    · rcases Nat.lt_or_ge ((wd l).length + 1) k with h1 | h1
      · obtain ⟨i, rfl⟩ : ∃ i, k = (wd l).length + (i + 1) + 1 := ⟨k - (wd l).length - 2, by omega⟩
        show 0 ≤ hat (117 :: _) _
        rw [hat_cu, hat_right, hat_cd, wd_end]
        have := ihr i (by omega)
        omega
      · have := wd_in (b := b) (o := o) (a := a) (r := r) ihl (show 1 ≤ k by omega) h1
        omega
theorem okB_of {l : List UInt8} (hc : ∀ c ∈ l, c = 117 ∨ c = 100) : ∀ n, n ≤ l.length → (∀ k, k ≤ n → 0 ≤ hat l k) → okB l n = true
  | 0, _, _ => rfl
  | n + 1, h, hk => by
    have hn : n < l.length := by omega
    rw [okB, okB_of hc n (by omega) (fun k h => hk k (by omega)), decide_eq_true (hk (n + 1) (Nat.le_refl _)), List.getElem?_eq_getElem hn]
    rcases hc l[n] (List.getElem_mem hn) with e | e <;> rw [e] <;> rfl
theorem dyck_wd {t : Tr} (h : nodes t ≤ 8) : dyck (wd t) = true := by
  unfold dyck pathB
  rw [okB_of (wd_let t) _ (Nat.le_refl _) (wd_nn t), wd_end, wd_len, decide_eq_true (by omega)]
  rfl

/-- Where the path of a node is cut. -/
structure CutW (L : List UInt8) (x : Nat) (l r : Tr) : Prop where
  left : List.take (x - 1) (List.drop 1 L) = wd l
  right : List.drop (x + 1) L = wd r
  len : L.length = 2 * (nodes l + nodes r + 1)
  xn : x = 2 * nodes l + 1
  hz : hat L (x + 1) = 0
  hp : ∀ k, 1 ≤ k → k ≤ x → 1 ≤ hat L k
theorem cutW_of (b o : Nat) (a : Unit) (l r : Tr) : ∃ L x, L = wd (.node b o a l r) ∧ CutW L x l r := by
  refine ⟨_, (wd l).length + 1, rfl, ?_, ?_, wd_len _, by rw [wd_len], ?_, fun k h1 h2 => wd_in (wd_nn l) h1 (by omega)⟩
  · show List.take _ (List.drop 1 (117 :: _)) = _
    rw [Nat.add_sub_cancel, List.drop_one, List.tail_cons, List.take_left]
  · show List.drop ((wd l).length + 1 + 1) (117 :: (wd l ++ 100 :: wd r)) = _
    rw [List.drop_succ_cons, ← List.drop_drop, List.drop_left]; rfl
  · show hat (117 :: _) ((wd l).length + 1 + 1) = 0
    rw [hat_cu, hat_right, hat_cd, wd_end]; rfl

/-- The tree of a path; f is fuel. -/
def rdw : Nat → List UInt8 → Tr × List UInt8
  | 0, l => (.nil, l)
  | f + 1, l => match l with
    | [] => (.nil, [])
    | c :: s => if c = 117 then match rdw f s with
        | (a, s1) => match s1 with
          | [] => (.nil, c :: s)
          | _ :: s2 => match rdw f s2 with
            | (b, s3) => (.node 0 0 () a b, s3)
      else (.nil, c :: s)
def tw (l : List UInt8) : Tr := (rdw l.length l).1
theorem tw_sh : ∀ (f : Nat) (l : List UInt8), sh (rdw f l).1 = (rdw f l).1
  | 0, l => rfl
  | f + 1, l => by
    unfold rdw
    split
    · rfl
    · next c s =>
      by_cases h : c = 117
      · rw [if_pos h]
        have h1 := tw_sh f s
        rcases he : rdw f s with ⟨a, s1⟩
        rw [he] at h1
        dsimp only
        cases s1 with
        | nil => rfl
        | cons d s2 =>
          have h2 := tw_sh f s2
          show BT.node 0 0 () (sh a) (sh (rdw f s2).fst) = BT.node 0 0 () a (rdw f s2).fst
          simp only at h1
          rw [h1, h2]
      · rw [if_neg h]; rfl

end Go.Proofs.Ytiebaoglcdbopaa
