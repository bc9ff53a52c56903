/- Areas of paths; how many paths have which area: by all paths, and by the first return. No program is named here. -/
import Derived.Test.YtlpabdpaolmpfaaPathsL
import Derived.Test.YtlpabdpaolmpfaaPathDefs
import Derived.Test.YtlpabdpaolmpfaaTimes
namespace Go.Proofs.Ytlpabdpaolmpfaa
set_option linter.unusedVariables false
open Go.RowKit

/-! All paths are Dyck paths. -/
theorem hat_ap {x y : List UInt8} : ∀ k, k ≤ x.length → hat (x ++ y) k = hat x k
  | 0, _ => rfl
  | k + 1, h => by rw [hat, hat, hat_ap k (by omega), List.getElem?_append_left (by omega)]
theorem okB_ap {x y : List UInt8} : ∀ k, k ≤ x.length → okB (x ++ y) k = okB x k
  | 0, _ => rfl
  | k + 1, h => by rw [okB, okB, okB_ap k (by omega), List.getElem?_append_left (by omega), hat_ap (k + 1) (by omega)]
theorem pth_ok : ∀ (f : Nat) (l : List UInt8) (u d : Nat), okB l l.length = true → hat l l.length = (d : Int) - u → u ≤ d → u + d ≤ f → ∀ x ∈ pth f l u d, okB x x.length = true ∧ hat x x.length = 0 ∧ x.length = l.length + u + d
  | 0, l, u, d, h1, h2, h3, h4, x, hx => by
    simp [pth] at hx
    subst hx
    exact ⟨h1, by omega, by omega⟩
  | f + 1, l, u, d, h1, h2, h3, h4, x, hx => by
    unfold pth at hx
    split at hx
    · simp at hx
      subst hx
      exact ⟨h1, by omega, by omega⟩
    · have hl (c : UInt8) : (l ++ [c]).length = l.length + 1 := by simp
      have hc (c : UInt8) : (l ++ [c])[l.length]? = some c := by rw [List.getElem?_append_right (Nat.le_refl _), Nat.sub_self]; rfl
      have ho (c : UInt8) : okB (l ++ [c]) l.length = true := by rw [okB_ap _ (Nat.le_refl _)]; exact h1
      have hh (c : UInt8) : hat (l ++ [c]) l.length = (d : Int) - u := by rw [hat_ap _ (Nat.le_refl _)]; exact h2
      rw [List.mem_append] at hx
      rcases hx with hx | hx
      · split at hx
        · next hu =>
          obtain ⟨a, b, c⟩ := pth_ok f (l ++ [117]) (u - 1) d (by rw [hl]; exact okB_u (ho _) (hc _)) (by rw [hl, hat_u (hc _), hh]; omega) (by omega) (by omega) x hx
          exact ⟨a, b, by rw [c, hl]; omega⟩
        · cases hx
      · split at hx
        · next hu =>
          obtain ⟨a, b, c⟩ := pth_ok f (l ++ [100]) u (d - 1) (by rw [hl]; exact okB_d (ho _) (hc _) (by rw [hh]; omega)) (by rw [hl, hat_d (hc _) (by decide), hh]; omega) (by omega) (by omega) x hx
          exact ⟨a, b, by rw [c, hl]; omega⟩
        · cases hx
theorem paths_dyck {n : Nat} (hn : n ≤ 8) {x : List UInt8} (hx : x ∈ paths n) : dyck x = true ∧ x.length = 2 * n := by
  obtain ⟨a, b, c⟩ := pth_ok (2 * n) [] n n rfl (by simp [hat]) (Nat.le_refl _) (by omega) x hx
  have c' : x.length = 2 * n := by rw [c]; simp; omega
  refine ⟨?_, c'⟩
  unfold dyck pathB
  rw [a, b, c', decide_eq_true (by omega)]; rfl

/-! The area. -/
def arTo (l : List UInt8) : Nat → Int
  | 0 => 0
  | k + 1 => if l[k]? = some 117 then arTo l k + hat l k else arTo l k
theorem arTo_u {l : List UInt8} {k : Nat} (h : l[k]? = some 117) : arTo l (k + 1) = arTo l k + hat l k := by rw [arTo, if_pos h]
theorem arTo_d {l : List UInt8} {k : Nat} {c : UInt8} (h : l[k]? = some c) (hc : c ≠ 117) : arTo l (k + 1) = arTo l k := by
  rw [arTo, if_neg]; rw [h]; intro e; injection e with e; exact hc e
theorem arTo_bd {l : List UInt8} {n : Nat} (h : okB l n = true) (hn : n ≤ 16) : ∀ k, k ≤ n → 0 ≤ arTo l k ∧ arTo l k ≤ k * 16
  | 0, _ => by simp [arTo]
  | k + 1, hk => by
    have h1 := arTo_bd h hn k (by omega)
    have h2 := okB_nn (okB_mono h (show k ≤ n by omega))
    have h3 := hat_bd l k
    rw [arTo]
    split <;> omega
def areaB (l : List UInt8) : Int := if dyck l then arTo l l.length else -1

/-! Counting. -/
def padTo (l : List Int) (n : Nat) : List Int := l ++ List.replicate (n - l.length) 0
def incA (l : List Int) (k : Nat) : List Int := (padTo l (k + 1)).set k ((padTo l (k + 1)).getD k 0 + 1)
def histA (ws : List (List UInt8)) (j : Nat) : List Int := (ws.take j).foldl (fun out w => incA out (arTo w w.length).toNat) []
theorem histA_step {ws : List (List UInt8)} {j : Nat} {w : List UInt8} (h : ws[j]? = some w) : histA ws (j + 1) = incA (histA ws j) (arTo w w.length).toNat := by
  obtain ⟨h1, h2⟩ := List.getElem?_eq_some_iff.1 h
  unfold histA
  rw [List.take_succ_eq_append_getElem h1, h2, List.foldl_append]; rfl
theorem padTo_len (l : List Int) (n : Nat) : (padTo l n).length = max l.length n := by
  unfold padTo; rw [List.length_append, List.length_replicate]; omega

/-! By the first return. -/
def sumA (T : List (List Int)) (m : Nat) : Nat → List Int
  | 0 => []
  | k + 1 => upd (padTo (sumA T m k) ((timesL (T.getD k []) (T.getD (m - 1 - k) [])).length + k)) (fun i => (timesL (T.getD k []) (T.getD (m - 1 - k) [])).getD i 0) k (timesL (T.getD k []) (T.getD (m - 1 - k) [])).length
def tabA : Nat → List (List Int)
  | 0 => [[1]]
  | m + 1 => tabA m ++ [sumA (tabA m) (m + 1) (m + 1)]
theorem tabA_len : ∀ m, (tabA m).length = m + 1
  | 0 => rfl
  | m + 1 => by rw [tabA, List.length_append, tabA_len m]; rfl
def smallT (T : List (List Int)) : Bool := T.all fun r => decide (r.length ≤ 40) && r.all fun x => decide (0 ≤ x) && decide (x ≤ 2000)
theorem tabA_small : smallT (tabA 8) = true := by decide +kernel
theorem tabA_pre (m : Nat) : ∀ j, ∃ u, tabA (m + j) = tabA m ++ u
  | 0 => ⟨[], by simp⟩
  | j + 1 => by
    obtain ⟨u, hu⟩ := tabA_pre m j
    exact ⟨u ++ [sumA (tabA (m + j)) (m + j + 1) (m + j + 1)], by rw [← Nat.add_assoc, tabA, hu, List.append_assoc]⟩
theorem tabA_bd {m : Nat} (hm : m ≤ 8) {r : List Int} (hr : r ∈ tabA m) : r.length ≤ 40 ∧ ∀ x ∈ r, 0 ≤ x ∧ x ≤ 2000 := by
  obtain ⟨u, hu⟩ := tabA_pre m (8 - m)
  rw [show m + (8 - m) = 8 by omega] at hu
  have h := List.all_eq_true.1 tabA_small r (by rw [hu]; exact List.mem_append_left _ hr)
  rw [Bool.and_eq_true, decide_eq_true_eq, List.all_eq_true] at h
  refine ⟨h.1, fun x hx => ?_⟩
  have := h.2 x hx
  rw [Bool.and_eq_true, decide_eq_true_eq, decide_eq_true_eq] at this
  exact this
/-! The two counts are one. -/
theorem getD_pad (l : List Int) (n k : Nat) : (padTo l n).getD k 0 = l.getD k 0 := by
  unfold padTo
  rw [List.getD_eq_getElem?_getD, List.getD_eq_getElem?_getD]
  rcases Nat.lt_or_ge k l.length with h | h
  · rw [List.getElem?_append_left h]
  · rw [List.getElem?_append_right h, List.getElem?_eq_none h, List.getElem?_replicate]
    split <;> rfl
theorem incA_len (l : List Int) (k : Nat) : (incA l k).length = max l.length (k + 1) := by unfold incA; rw [List.length_set, padTo_len]
theorem incA_get (l : List Int) (k j : Nat) : (incA l k).getD j 0 = l.getD j 0 + if j = k then 1 else 0 := by
  unfold incA
  rw [getD_set _ _ _ _ (by rw [padTo_len]; omega), getD_pad]
  by_cases h : k = j
  · subst h; rw [if_pos rfl, if_pos rfl]
  · rw [if_neg h, if_neg (fun e => h e.symm), getD_pad]; omega
abbrev arN (w : List UInt8) : Nat := (arTo w w.length).toNat
def cntA (ws : List (List UInt8)) (k : Nat) : Int := ws.foldr (fun w c => c + if k = arN w then 1 else 0) 0
def lenA (ws : List (List UInt8)) : Nat := ws.foldr (fun w c => max c (arN w + 1)) 0
theorem fold_get : ∀ (ws : List (List UInt8)) (l : List Int) (k : Nat), (ws.foldl (fun out w => incA out (arN w)) l).getD k 0 = l.getD k 0 + cntA ws k
  | [], l, k => by simp [cntA]
  | w :: ws, l, k => by
    rw [List.foldl_cons, fold_get ws, incA_get]
    show _ = _ + (cntA ws k + if k = arN w then 1 else 0)
    omega
theorem fold_len : ∀ (ws : List (List UInt8)) (l : List Int), (ws.foldl (fun out w => incA out (arN w)) l).length = max l.length (lenA ws)
  | [], l => by simp [lenA]
  | w :: ws, l => by
    rw [List.foldl_cons, fold_len ws, incA_len]
    show _ = max l.length (max (lenA ws) (arN w + 1))
    omega
theorem cntA_app (a b : List (List UInt8)) (k : Nat) : cntA (a ++ b) k = cntA a k + cntA b k := by
  induction a with
  | nil => simp [cntA]
  | cons w a ih =>
    show cntA (a ++ b) k + (if k = arN w then 1 else 0) = cntA a k + (if k = arN w then 1 else 0) + cntA b k
    rw [ih]; omega
theorem lenA_app (a b : List (List UInt8)) : lenA (a ++ b) = max (lenA a) (lenA b) := by
  induction a with
  | nil => simp [lenA]
  | cons w a ih =>
    show max (lenA (a ++ b)) (arN w + 1) = max (max (lenA a) (arN w + 1)) (lenA b)
    rw [ih]; omega
def addL : List Int → List Int → List Int
  | [], b => b
  | x :: a, [] => x :: a
  | x :: a, y :: b => (x + y) :: addL a b
theorem addL_len : ∀ a b : List Int, (addL a b).length = max a.length b.length
  | [], b => by simp [addL]
  | x :: a, [] => by simp [addL]
  | x :: a, y :: b => by simp only [addL, List.length_cons, addL_len a b]; omega
theorem addL_get : ∀ (a b : List Int) (k : Nat), (addL a b).getD k 0 = a.getD k 0 + b.getD k 0
  | [], b, k => by simp [addL]
  | x :: a, [], k => by simp [addL]
  | x :: a, y :: b, 0 => by simp [addL]
  | x :: a, y :: b, k + 1 => by
    have := addL_get a b k
    simp only [addL, List.getD_cons_succ]
    exact this
theorem ext_getD {a b : List Int} (hl : a.length = b.length) (h : ∀ k, a.getD k 0 = b.getD k 0) : a = b := by
  apply List.ext_getElem?
  intro k
  rcases Nat.lt_or_ge k a.length with hk | hk
  · have := h k
    rw [List.getD_eq_getElem?_getD, List.getD_eq_getElem?_getD, List.getElem?_eq_getElem hk, List.getElem?_eq_getElem (by omega)] at this
    rw [List.getElem?_eq_getElem hk, List.getElem?_eq_getElem (by omega)]
    exact congrArg some this
  · rw [List.getElem?_eq_none hk, List.getElem?_eq_none (by omega)]
def hisF (ws : List (List UInt8)) : List Int := ws.foldl (fun out w => incA out (arN w)) []
theorem hisF_app (a b : List (List UInt8)) : hisF (a ++ b) = addL (hisF a) (hisF b) := by
  apply ext_getD
  · unfold hisF; rw [fold_len, addL_len, fold_len, fold_len, lenA_app]; simp
  · intro k
    unfold hisF
    rw [fold_get, addL_get, fold_get, fold_get, cntA_app]; simp
/-- The count by the letters to come: the height, the area so far. -/
def HA : Nat → Nat → Nat → Nat → Nat → List Int
  | 0, _, ar, _, _ => incA [] ar
  | f + 1, h, ar, u, d => if d = 0 then incA [] ar else addL (if 0 < u then HA f (h + 1) (ar + h) (u - 1) d else []) (if u < d then HA f (h - 1) ar u (d - 1) else [])
theorem HA_eq : ∀ (f : Nat) (l : List UInt8) (u d h ar : Nat), hat l l.length = (h : Int) → arTo l l.length = (ar : Int) → d = h + u → hisF (pth f l u d) = HA f h ar u d
  | 0, l, u, d, h, ar, h1, h2, h3 => by
    show incA [] (arTo l l.length).toNat = _
    rw [h2]; rfl
  | f + 1, l, u, d, h, ar, h1, h2, h3 => by
    have hl (c : UInt8) : (l ++ [c]).length = l.length + 1 := by simp
    have hc (c : UInt8) : (l ++ [c])[l.length]? = some c := by rw [List.getElem?_append_right (Nat.le_refl _), Nat.sub_self]; rfl
    have hh (c : UInt8) : hat (l ++ [c]) l.length = (h : Int) := by rw [hat_ap _ (Nat.le_refl _)]; exact h1
    have hr : ∀ (c : UInt8) (k : Nat), k ≤ l.length → arTo (l ++ [c]) k = arTo l k := by
      intro c k
      induction k with
      | zero => intro _; rfl
      | succ k ih => intro hk; rw [arTo, arTo, ih (by omega), List.getElem?_append_left (by omega), hat_ap _ (by omega)]
    unfold pth HA
    by_cases hd : d = 0
    · rw [if_pos hd, if_pos hd]
      show incA [] (arTo l l.length).toNat = _
      rw [h2]; rfl
    · rw [if_neg hd, if_neg hd, hisF_app]
      congr 1
      · by_cases hu : 0 < u
        · rw [if_pos hu, if_pos hu]
          exact HA_eq f _ _ _ (h + 1) (ar + h) (by rw [hl, hat_u (hc _), hh]; omega) (by rw [hl, arTo_u (hc _), hr _ _ (Nat.le_refl _), h2, hh]; omega) (by omega)
        · rw [if_neg hu, if_neg hu]; rfl
      · by_cases hu : u < d
        · rw [if_pos hu, if_pos hu]
          exact HA_eq f _ _ _ (h - 1) ar (by rw [hl, hat_d (hc _) (by decide), hh]; omega) (by rw [hl, arTo_d (hc _) (by decide), hr _ _ (Nat.le_refl _), h2]) (by omega)
        · rw [if_neg hu, if_neg hu]; rfl
def sameA (n : Nat) : Bool := decide ((tabA n).getD n [] = HA (2 * n) 0 0 n n)
theorem sameA_8 : ∀ n, n ≤ 8 → sameA n = true := by
  have h : (List.range 9).all sameA = true := by decide +kernel
  intro n hn
  exact List.all_eq_true.1 h n (List.mem_range.2 (by omega))
theorem area_eq {n : Nat} (hn : n ≤ 8) : histA (paths n) (paths n).length = (tabA n).getD n [] := by
  have h := of_decide_eq_true (sameA_8 n hn)
  rw [h]
  have := HA_eq (2 * n) [] n n 0 0 rfl rfl (by omega)
  unfold histA
  rw [List.take_length]
  exact this

end Go.Proofs.Ytlpabdpaolmpfaa
