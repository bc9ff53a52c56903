/- All paths of a size, u ahead of d. No program is named here. -/
import Derived.Test.YteiffomekjadgaaLib
namespace Go.Proofs.Yteiffomekjadgaa

/-- The ways to go on with so many letters u and d; f is fuel. -/
def pth : Nat → List UInt8 → Nat → Nat → List (List UInt8)
  | 0, l, _, _ => [l]
  | f + 1, l, u, d => if d = 0 then [l] else (if 0 < u then pth f (l ++ [117]) (u - 1) d else []) ++ (if u < d then pth f (l ++ [100]) u (d - 1) else [])
def paths (n : Nat) : List (List UInt8) := pth (2 * n) [] n n
theorem pth_done {f : Nat} {l : List UInt8} {u : Nat} : pth f l u 0 = [l] := by cases f <;> simp [pth]
theorem pth_go {f : Nat} {l : List UInt8} {u d : Nat} (hd : 0 < d) : pth (f + 1) l u d = (if 0 < u then pth f (l ++ [117]) (u - 1) d else []) ++ (if u < d then pth f (l ++ [100]) u (d - 1) else []) := by
  rw [pth, if_neg (by omega)]
theorem pth_len : ∀ (f : Nat) (l : List UInt8) (u d : Nat), (pth f l u d).length ≤ 2 ^ f
  | 0, _, _, _ => by simp [pth]
  | f + 1, l, u, d => by
    have h1 := pth_len f (l ++ [117]) (u - 1) d
    have h2 := pth_len f (l ++ [100]) u (d - 1)
    have h3 : 0 < 2 ^ f := Nat.two_pow_pos f
    rw [Nat.pow_succ]
    unfold pth
    split
    · simp; omega
    · rw [List.length_append]
      split <;> split <;> simp <;> omega
theorem pth_mem : ∀ (f : Nat) (l : List UInt8) (u d : Nat), ∀ x ∈ pth f l u d, x.length ≤ l.length + f
  | 0, l, u, d, x, hx => by simp [pth] at hx; subst hx; omega
  | f + 1, l, u, d, x, hx => by
    unfold pth at hx
    split at hx
    · simp at hx; subst hx; omega
    · rw [List.mem_append] at hx
      rcases hx with hx | hx
      · split at hx
        · have := pth_mem f _ _ _ x hx; simp at this; omega
        · cases hx
      · split at hx
        · have := pth_mem f _ _ _ x hx; simp at this; omega
        · cases hx
theorem pow16 {f : Nat} (h : f ≤ 16) : 2 ^ f ≤ 65536 := Nat.pow_le_pow_right (by omega) h
theorem paths_len {n : Nat} (h : n ≤ 8) : (paths n).length ≤ 65536 := Nat.le_trans (pth_len _ _ _ _) (pow16 (by omega))
theorem paths_mem {n : Nat} {x : List UInt8} (hx : x ∈ paths n) : x.length ≤ 2 * n := by have := pth_mem _ _ _ _ x hx; simpa using this

end Go.Proofs.Yteiffomekjadgaa
