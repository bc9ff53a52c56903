/- Merged: SieL SieT SieU ObjL FixL. -/
import Derived.Test.YtghfhkbncjgaeaaGreatMg15
import Derived.Test.YtghfhkbncjgaeaaGreatMg17
import Derived.Test.YtghfhkbncjgaeaaGreatMg12

namespace Go.Proofs.YtghfhkbncjgaeaaGreat
set_option linter.unusedVariables false
open Go.RowKit Go.Deep

/-- Matchings: the texts of the arcs, the path, crossings. -/
def tsM (m : List Int) : Nat → List (List UInt8)
  | 0 => []
  | k + 1 => if (k : Int) < m.getD k 0 then tsM m k ++ [fmtI k ++ [45] ++ fmtI (m.getD k 0)] else tsM m k
def fmtM (m : List Int) : List UInt8 := gluTo [32] (tsM m m.length) (tsM m m.length).length
def pthM (m : List Int) : Nat → List UInt8
  | 0 => []
  | k + 1 => pthM m k ++ [if (k : Int) < m.getD k 0 then 117 else 100]
def crM (m : List Int) (a b : Nat) : Bool := decide (a < b) && (decide ((b : Int) < m.getD a 0) && decide (m.getD a 0 < m.getD b 0))
def ncM (m : List Int) : Bool := isMat m && (List.range m.length).all fun a => (List.range m.length).all fun b => !crM m a b

/-- Partitions: a turn, the text, the path. -/
def turnP (p : List Int) : List Int := renL (p.getD (p.length - 1) 0 :: p.take (p.length - 1))
def rowT (r : List Int) : Nat → List UInt8
  | 0 => []
  | k + 1 => rowT r k ++ fmtI (r.getD k 0 + 1)
def tsP (bs : List (List Int)) : Nat → List (List UInt8)
  | 0 => []
  | k + 1 => tsP bs k ++ [rowT (bs.getD k []) (bs.getD k []).length]
def fmtP (p : List Int) : List UInt8 := gluTo [124] (tsP (blocksB p) (blocksB p).length) (blocksB p).length
def rwP (p : List Int) (i : Nat) : List Int := (blocksB p).getD (p.getD i 0).toNat []
def pthP (p : List Int) : Nat → List UInt8
  | 0 => []
  | i + 1 => (pthP p i ++ [117]) ++ (if (rwP p i).getD ((rwP p i).length - 1) 0 = (i : Int) then List.replicate (rwP p i).length 100 else [])

/-- Triangulations: rows of two corners. -/
def befD (a b : List Int) : Bool := decide (a.getD 0 0 < b.getD 0 0) || (decide (a.getD 0 0 = b.getD 0 0) && decide (a.getD 1 0 < b.getD 1 0))
def putK (l : List (List Int)) (x : List Int) : Nat → Nat
  | 0 => 0
  | k + 1 => if befD x (l.getD k []) then putK l x k else k + 1
def putD (l : List (List Int)) (x : List Int) : List (List Int) := l.take (putK l x l.length) ++ x :: l.drop (putK l x l.length)
def insD (l : List (List Int)) : List (List Int) := l.foldl putD []
def cutD (n : Nat) : Tr → Nat → Nat → List (List Int) → List (List Int)
  | .nil, _, _, d => d
  | .node _ _ _ l r, f, t, d => cutD n r (f + 1 + nodes l) t (cutD n l f (f + 1 + nodes l) (if f + 1 < t ∧ ¬ (f = 0 ∧ t + 1 = n) then putD d [(f : Int), (t : Int)] else d))
def specD (t : Tr) : List (List Int) := cutD (nodes t + 2) t 0 (nodes t + 1) []
def lfB : Tr → Bool
  | .nil => true
  | .node _ _ _ _ _ => false
def sdI : Tr → Nat → Nat → List (List Int) → List (List Int)
  | .nil, _, _, s => s
  | .node _ _ _ L R, l, r, s => sdI R (l + nodes L + 1) r (sdI L l (l + nodes L + 1) (s ++ (if lfB L then [] else [[(l : Int), ((l + nodes L + 1 : Nat) : Int)]]) ++ (if lfB R then [] else [[((l + nodes L + 1 : Nat) : Int), (r : Int)]])))
def dgB (n : Int) (x : List Int) : Bool := decide (x.length = 2) && (inB (x.getD 0 0) 0 (n - 1) && (inB (x.getD 1 0) (x.getD 0 0 + 2) (n - 1) && !(decide (x.getD 0 0 = 0) && decide (x.getD 1 0 = n - 1))))
def xsD (a b : List Int) : Bool := (decide (a.getD 0 0 < b.getD 0 0) && (decide (b.getD 0 0 < a.getD 1 0) && decide (a.getD 1 0 < b.getD 1 0))) || (decide (b.getD 0 0 < a.getD 0 0) && (decide (a.getD 0 0 < b.getD 1 0) && decide (b.getD 1 0 < a.getD 1 0)))
def triB (n : Nat) (d : List (List Int)) : Bool := decide (2 ≤ n ∧ n ≤ 10) && (decide (d.length + 3 = max 3 n) && (List.range d.length).all fun i => dgB n (d.getD i []) && ((decide (i = 0) || befD (d.getD (i - 1) []) (d.getD i [])) && (List.range i).all fun k => !xsD (d.getD k []) (d.getD i [])))
def rowD (n k : Int) (x : List Int) : List Int := [min ((x.getD 0 0 + k) % n) ((x.getD 1 0 + k) % n), max ((x.getD 0 0 + k) % n) ((x.getD 1 0 + k) % n)]
def turnD (n : Nat) (d : List (List Int)) (k : Nat) : List (List Int) := insD (d.map (rowD n k))
def fmtD (d : List (List Int)) : List UInt8 := if d.isEmpty then [110, 111, 110, 101] else gluTo [32] (d.map fun x => fmtI (x.getD 0 0) ++ fmtI (x.getD 1 0)) d.length
def sideB (n : Nat) (d : List (List Int)) (a b : Nat) : Bool := decide (b = a + 1) || ((decide (a = 0) && decide (b + 1 = n)) || d.any fun x => decide (x.getD 0 0 = (a : Int)) && decide (x.getD 1 0 = (b : Int)))
def midD (n : Nat) (d : List (List Int)) (a b : Nat) : Option Nat := (List.range (b - a - 1)).find? fun j => sideB n d a (a + 1 + j) && sideB n d (a + 1 + j) b
def treeD (n : Nat) (d : List (List Int)) : Nat → Nat → Nat → List UInt8
  | 0, _, _ => [46]
  | f + 1, a, b => if b = a + 1 then [46] else match midD n d a b with
    | none => [46]
    | some j => 40 :: (treeD n d f a (a + 1 + j) ++ (treeD n d f (a + 1 + j) b ++ [41]))

/-- Indices that a turn leads to. -/
def itN (nx : List Nat) (i : Nat) : Nat → Nat
  | 0 => i
  | k + 1 => nx.getD (itN nx i k) 0
/-- The path that the turned object has. -/
def pathT (f : List UInt8) (l : List UInt8) (k : Nat) : List UInt8 :=
  if f = nmM then pthM (tuS (prI l l.length) k l.length) l.length
  else if f = nmP then pthP (Nat.repeat turnP k (renL (liI l l.length))) (l.length / 2)
  else treeD (l.length / 2 + 2) (turnD (l.length / 2 + 2) (specD (tw l)) k) (l.length / 2 + 2) 0 (l.length / 2 + 1)
def nxC (f : List UInt8) (n : Nat) : List Nat := (paths n).map fun l => ((paths n).map fun x => if f = nmM ∨ f = nmP then x else tx (tw x)).idxOf (pathT f l 1)

end Go.Proofs.YtghfhkbncjgaeaaGreat

namespace Go.Proofs.YtghfhkbncjgaeaaGreat
set_option linter.unusedVariables false
open Go.RowKit Go.Deep

def nxMs : List (List Nat) := [[0], [0], [1, 0], [2, 4, 3, 0, 1], [3, 6, 8, 7, 11, 13, 12, 9, 10, 0, 1, 2, 4, 5],
  [4, 8, 11, 13, 12, 17, 20, 22, 21, 25, 27, 26, 23, 24, 31, 34, 36, 35, 39, 41, 40, 37, 38, 28, 29, 30, 32, 33, 0, 1, 2, 3, 5, 6, 7, 9, 10, 14, 15, 16, 18, 19]]
def nxPs : List (List Nat) := [[0], [0], [0, 1], [0, 2, 3, 1, 4], [0, 3, 7, 9, 1, 8, 10, 2, 11, 4, 6, 12, 5, 13],
  [0, 4, 12, 23, 28, 1, 13, 24, 29, 2, 25, 30, 3, 31, 5, 8, 26, 32, 6, 27, 33, 7, 34, 9, 11, 35, 10, 36, 14, 17, 21, 37, 15, 22, 38, 16, 39, 18, 20, 40, 19, 41]]
def nxTs : List (List Nat) := [[0], [0], [1, 0], [3, 4, 1, 2, 0], [9, 10, 11, 4, 12, 13, 5, 6, 1, 7, 8, 2, 3, 0],
  [28, 29, 30, 31, 14, 32, 33, 34, 15, 35, 36, 16, 17, 5, 37, 38, 39, 18, 40, 41, 19, 20, 6, 21, 22, 7, 8, 1, 23, 24, 25, 9, 26, 27, 10, 11, 2, 12, 13, 3, 4, 0]]
/-- Where a turn leads, as places in the list of paths. -/
def nxT (f : List UInt8) (n : Nat) : List Nat := if f = nmM then nxMs.getD n [] else if f = nmP then nxPs.getD n [] else nxTs.getD n []
def P (n i : Nat) : List UInt8 := (paths n).getD i []
def mO (l : List UInt8) : List Int := prI l l.length
def pO (l : List UInt8) : List Int := renL (liI l l.length)
def dO (l : List UInt8) : List (List Int) := specD (tw l)
/-- How many turns lead back. -/
def ordN (f : List UInt8) (n : Nat) : Nat := if f = nmM then 2 * n else if f = nmP then n else n + 2

def bdB (n : Nat) (nx : List Nat) : Bool := decide (nx.length = (paths n).length) && nx.all fun j => decide (j < (paths n).length)
theorem bdB_5 : ((List.range 6).all fun n => bdB n (nxMs.getD n []) && (bdB n (nxPs.getD n []) && bdB n (nxTs.getD n []))) = true := by decide +kernel
def chM (n : Nat) : Bool := (List.range (paths n).length).all fun i => ncM (mO (P n i)) && (decide (pthM (mO (P n i)) (2 * n) = P n i) && (List.range (2 * n)).all fun k => decide (tuS (mO (P n i)) (k : Int) (2 * n) = mO (P n (itN (nxMs.getD n []) i k))))
theorem chM_5 : ((List.range 6).all chM) = true := by decide +kernel
def chP (n : Nat) : Bool := (List.range (paths n).length).all fun i => nonc (pO (P n i)) && (decide (pthP (pO (P n i)) n = P n i) && decide (n = 0 ∨ turnP (pO (P n i)) = pO (P n ((nxPs.getD n []).getD i 0))))
theorem chP_5 : ((List.range 6).all chP) = true := by decide +kernel
def chT (n : Nat) : Bool := (List.range (paths n).length).all fun i => triB (n + 2) (dO (P n i)) && (decide (insD (sdI (tw (P n i)) 0 (n + 1) []) = dO (P n i)) && (decide (treeD (n + 2) (dO (P n i)) (n + 2) 0 (n + 1) = tx (tw (P n i))) && (decide (wd (tw (P n i)) = P n i ∧ nodes (tw (P n i)) = n) && (List.range (n + 2)).all fun k => decide (turnD (n + 2) (dO (P n i)) k = dO (P n (itN (nxTs.getD n []) i k))))))
theorem chT_5 : ((List.range 6).all chT) = true := by decide +kernel

end Go.Proofs.YtghfhkbncjgaeaaGreat

namespace Go.Proofs.YtghfhkbncjgaeaaGreat
set_option linter.unusedVariables false
open Go.RowKit Go.Deep

theorem P_at {n i : Nat} (hi : i < (paths n).length) : (paths n)[i]? = some (P n i) := by
  unfold P; rw [List.getD_eq_getElem?_getD, List.getElem?_eq_getElem hi]; rfl
theorem P_mem {n i : Nat} (hi : i < (paths n).length) : P n i ∈ paths n := List.mem_of_getElem? (P_at hi)
theorem bd_all {n : Nat} (hn : n ≤ 5) : bdB n (nxMs.getD n []) = true ∧ bdB n (nxPs.getD n []) = true ∧ bdB n (nxTs.getD n []) = true := by
  have := List.all_eq_true.1 bdB_5 n (List.mem_range.2 (by omega))
  rwa [Bool.and_eq_true, Bool.and_eq_true] at this
theorem bd_lt {n : Nat} {nx : List Nat} (h : bdB n nx = true) {i : Nat} (hi : i < (paths n).length) : nx.getD i 0 < (paths n).length := by
  unfold bdB at h
  rw [Bool.and_eq_true, decide_eq_true_eq, List.all_eq_true] at h
  have h2 : i < nx.length := by omega
  rw [List.getD_eq_getElem?_getD, List.getElem?_eq_getElem h2]
  simpa using h.2 _ (List.getElem_mem h2)
theorem bd_len {n : Nat} {nx : List Nat} (h : bdB n nx = true) : nx.length = (paths n).length := by
  unfold bdB at h
  rw [Bool.and_eq_true, decide_eq_true_eq] at h
  exact h.1
theorem it_lt {n : Nat} {nx : List Nat} (h : bdB n nx = true) {i : Nat} (hi : i < (paths n).length) : ∀ k, itN nx i k < (paths n).length
  | 0 => hi
  | k + 1 => bd_lt h (it_lt h hi k)
theorem chM_at {n i : Nat} (hn : n ≤ 5) (hi : i < (paths n).length) : ncM (mO (P n i)) = true ∧ pthM (mO (P n i)) (2 * n) = P n i ∧ ∀ k, k < 2 * n → tuS (mO (P n i)) (k : Int) (2 * n) = mO (P n (itN (nxMs.getD n []) i k)) := by
  have h := List.all_eq_true.1 chM_5 n (List.mem_range.2 (by omega))
  have h1 := List.all_eq_true.1 h i (List.mem_range.2 hi)
  rw [Bool.and_eq_true, Bool.and_eq_true, decide_eq_true_eq, List.all_eq_true] at h1
  exact ⟨h1.1, h1.2.1, fun k hk => of_decide_eq_true (h1.2.2 k (List.mem_range.2 hk))⟩
theorem chP_at {n i : Nat} (hn : n ≤ 5) (hi : i < (paths n).length) : nonc (pO (P n i)) = true ∧ pthP (pO (P n i)) n = P n i ∧ (n = 0 ∨ turnP (pO (P n i)) = pO (P n ((nxPs.getD n []).getD i 0))) := by
  have h := List.all_eq_true.1 chP_5 n (List.mem_range.2 (by omega))
  have h1 := List.all_eq_true.1 h i (List.mem_range.2 hi)
  rw [Bool.and_eq_true, Bool.and_eq_true, decide_eq_true_eq, decide_eq_true_eq] at h1
  exact ⟨h1.1, h1.2.1, h1.2.2⟩
theorem chT_at {n i : Nat} (hn : n ≤ 5) (hi : i < (paths n).length) : triB (n + 2) (dO (P n i)) = true ∧ insD (sdI (tw (P n i)) 0 (n + 1) []) = dO (P n i) ∧ treeD (n + 2) (dO (P n i)) (n + 2) 0 (n + 1) = tx (tw (P n i)) ∧ wd (tw (P n i)) = P n i ∧ nodes (tw (P n i)) = n ∧ ∀ k, k < n + 2 → turnD (n + 2) (dO (P n i)) k = dO (P n (itN (nxTs.getD n []) i k)) := by
  have h := List.all_eq_true.1 chT_5 n (List.mem_range.2 (by omega))
  have h1 := List.all_eq_true.1 h i (List.mem_range.2 hi)
  rw [Bool.and_eq_true, Bool.and_eq_true, Bool.and_eq_true, Bool.and_eq_true, decide_eq_true_eq, decide_eq_true_eq, decide_eq_true_eq, List.all_eq_true] at h1
  exact ⟨h1.1, h1.2.1, h1.2.2.1, h1.2.2.2.1.1, h1.2.2.2.1.2, fun k hk => of_decide_eq_true (h1.2.2.2.2 k (List.mem_range.2 hk))⟩
theorem P_len {n i : Nat} (hn : n ≤ 5) (hi : i < (paths n).length) : (P n i).length = 2 * n := by
  obtain ⟨_, _, _, h1, h2, _⟩ := chT_at hn hi
  have := wd_len (tw (P n i))
  rw [h1, h2] at this; exact this
theorem mO_len {n i : Nat} (hn : n ≤ 5) (hi : i < (paths n).length) : (mO (P n i)).length = 2 * n := by
  unfold mO; rw [prI_len, P_len hn hi]
theorem P_ok {n i : Nat} (hn : n ≤ 5) (hi : i < (paths n).length) : mtOk (P n i) = true := mt_ok hn (P_mem hi)
theorem P_dyck {n i : Nat} (hn : n ≤ 5) (hi : i < (paths n).length) : dyck (P n i) = true := mt_dyck (P_ok hn hi)
theorem pO_len {n i : Nat} (hn : n ≤ 5) (hi : i < (paths n).length) : (pO (P n i)).length = n := by
  unfold pO renL
  rw [renO_len, liI_len]
  have h1 := ups_hat (P n i) (P n i).length
  have h2 := P_len hn hi
  obtain ⟨_, _, h3⟩ := dyck_pathB (P_dyck hn hi)
  rw [h3] at h1
  omega

end Go.Proofs.YtghfhkbncjgaeaaGreat

namespace Go.Proofs.YtghfhkbncjgaeaaGreat
set_option linter.unusedVariables false
open Go.RowKit

def txM (n i : Nat) : List UInt8 := fmtM (mO (P n i))
def txP (n i : Nat) : List UInt8 := fmtP (pO (P n i))
def txD (n i : Nat) : List UInt8 := fmtD (dO (P n i))
def chX (tx : Nat → List UInt8) (len : Nat) : Bool := (List.range len).all fun i => decide ((tx i).length ≤ 100) && (List.range i).all fun j => decide (tx j ≠ tx i)
theorem chXM : ((List.range 6).all fun n => chX (txM n) (paths n).length) = true := by decide +kernel
theorem chXP : ((List.range 6).all fun n => chX (txP n) (paths n).length) = true := by decide +kernel
theorem chXD : ((List.range 6).all fun n => chX (txD n) (paths n).length) = true := by decide +kernel
structure TxOk (tx : Nat → List UInt8) (len : Nat) : Prop where
  short : ∀ i, i < len → (tx i).length ≤ 100
  ne : ∀ i j, i < len → j < i → tx j ≠ tx i
theorem txOk {tx : Nat → List UInt8} {len : Nat} (h : chX tx len = true) : TxOk tx len := by
  unfold chX at h
  rw [List.all_eq_true] at h
  have h1 : ∀ i, i < len → (tx i).length ≤ 100 ∧ ∀ j, j < i → tx j ≠ tx i := by
    intro i hi
    have h2 := h i (List.mem_range.2 hi)
    rw [Bool.and_eq_true, decide_eq_true_eq, List.all_eq_true] at h2
    exact ⟨h2.1, fun j hj => of_decide_eq_true (h2.2 j (List.mem_range.2 hj))⟩
  exact ⟨fun i hi => (h1 i hi).1, fun i j hi hj => (h1 i hi).2 j hj⟩
theorem txM_ok {n : Nat} (hn : n ≤ 5) : TxOk (txM n) (paths n).length := txOk (List.all_eq_true.1 chXM n (List.mem_range.2 (by omega)))
theorem txP_ok {n : Nat} (hn : n ≤ 5) : TxOk (txP n) (paths n).length := txOk (List.all_eq_true.1 chXP n (List.mem_range.2 (by omega)))
theorem txD_ok {n : Nat} (hn : n ≤ 5) : TxOk (txD n) (paths n).length := txOk (List.all_eq_true.1 chXD n (List.mem_range.2 (by omega)))
theorem TxOk.inj {tx : Nat → List UInt8} {len : Nat} (h : TxOk tx len) {i j : Nat} (hi : i < len) (hj : j < len) (e : tx i = tx j) : i = j := by
  rcases Nat.lt_trichotomy i j with h1 | h1 | h1
  · exact absurd e (h.ne j i hj h1)
  · exact h1
  · exact absurd e.symm (h.ne i j hi h1)
/-- What the map answers behind k stores. -/
def plc (tx : Nat → List UInt8) (k : Nat) (z : List UInt8) : Option Int := ((List.range k).find? fun j => decide (tx j = z)).map fun j => (j : Int)
theorem plc_0 (tx : Nat → List UInt8) (z : List UInt8) : plc tx 0 z = none := rfl
theorem plc_step {tx : Nat → List UInt8} {len k : Nat} (h : TxOk tx len) (hk : k < len) (z : List UInt8) : (if z = tx k then some (k : Int) else plc tx k z) = plc tx (k + 1) z := by
  unfold plc
  rw [List.range_succ, List.find?_append]
  by_cases hz : z = tx k
  · rw [if_pos hz]
    have : (List.range k).find? (fun j => decide (tx j = z)) = none := by
      rw [List.find?_eq_none]
      intro j hj
      have := h.ne k j hk (List.mem_range.1 hj)
      rw [← hz] at this
      simpa using this
    rw [this]
    simp [hz]
  · rw [if_neg hz]
    have : [k].find? (fun j => decide (tx j = z)) = none := by
      rw [List.find?_eq_none]
      intro j hj
      simp at hj
      subst hj
      simpa using fun e => hz e.symm
    rw [this, Option.or_none]
theorem plc_at {tx : Nat → List UInt8} {len k j : Nat} (h : TxOk tx len) (hk : k ≤ len) (hj : j < k) : plc tx k (tx j) = some (j : Int) := by
  unfold plc
  have h1 : (List.range k).find? (fun i => decide (tx i = tx j)) = some j := by
    rcases hf : (List.range k).find? (fun i => decide (tx i = tx j)) with _ | i
    · rw [List.find?_eq_none] at hf
      have := hf j (List.mem_range.2 hj)
      simp at this
    · have h2 := List.find?_some hf
      have h3 := List.mem_range.1 (List.mem_of_find?_eq_some hf)
      rw [decide_eq_true_eq] at h2
      rw [h.inj (by omega) (by omega) h2]
  rw [h1]; rfl
/-- The texts of the turned objects, so far. -/
def tuL (tx : Nat → List UInt8) (nx : List Nat) (k : Nat) : List (List UInt8) := (List.range k).map fun i => tx (nx.getD i 0)
theorem tuL_step (tx : Nat → List UInt8) (nx : List Nat) (k : Nat) : tuL tx nx (k + 1) = tuL tx nx k ++ [tx (nx.getD k 0)] := by
  unfold tuL; rw [List.range_succ, List.map_append]; rfl
theorem tuL_at (tx : Nat → List UInt8) (nx : List Nat) {k i : Nat} {x : List UInt8} (h : (tuL tx nx k)[i]? = some x) : x = tx (nx.getD i 0) ∧ i < k := by
  unfold tuL at h
  rw [List.getElem?_map, Option.map_eq_some_iff] at h
  obtain ⟨j, hj, rfl⟩ := h
  obtain ⟨h1, h2⟩ := List.getElem?_eq_some_iff.1 hj
  simp at h1 h2
  subst h2
  exact ⟨rfl, h1⟩
/-- The places that the turns lead to, so far. -/
def plL (nx : List Nat) (k : Nat) : List Int := (List.range k).map fun i => ((nx.getD i 0 : Nat) : Int)
theorem plL_step (nx : List Nat) (k : Nat) : plL nx (k + 1) = plL nx k ++ [((nx.getD k 0 : Nat) : Int)] := by
  unfold plL; rw [List.range_succ, List.map_append]; rfl
theorem plL_len (nx : List Nat) (k : Nat) : (plL nx k).length = k := by simp [plL]
theorem paths_5 {n : Nat} (hn : n ≤ 5) : (paths n).length ≤ 42 := by
  have : ((List.range 6).all fun n => decide ((paths n).length ≤ 42)) = true := by decide +kernel
  exact of_decide_eq_true (List.all_eq_true.1 this n (List.mem_range.2 (by omega)))

end Go.Proofs.YtghfhkbncjgaeaaGreat

namespace Go.Proofs.YtghfhkbncjgaeaaGreat
set_option linter.unusedVariables false
open Go.RowKit

def famB (f : List UInt8) : Prop := f = nmM ∨ f = nmP ∨ f = nmT
theorem chPP : ((List.range 6).all fun n => chX (P n) (paths n).length) = true := by decide +kernel
theorem P_ok2 {n : Nat} (hn : n ≤ 5) : TxOk (P n) (paths n).length := txOk (List.all_eq_true.1 chPP n (List.mem_range.2 (by omega)))
theorem nxT_M (n : Nat) : nxT nmM n = nxMs.getD n [] := by unfold nxT; rw [if_pos rfl]
theorem nxT_P (n : Nat) : nxT nmP n = nxPs.getD n [] := by unfold nxT; rw [if_neg (by decide), if_pos rfl]
theorem nxT_T (n : Nat) : nxT nmT n = nxTs.getD n [] := by unfold nxT; rw [if_neg (by decide), if_neg (by decide)]
theorem nxT_bd {f : List UInt8} {n : Nat} (hf : famB f) (hn : n ≤ 5) : bdB n (nxT f n) = true := by
  rcases hf with rfl | rfl | rfl
  · rw [nxT_M]; exact (bd_all hn).1
  · rw [nxT_P]; exact (bd_all hn).2.1
  · rw [nxT_T]; exact (bd_all hn).2.2
theorem ordT_cases (f : List UInt8) (n : Int) : ordT f n = -1 ∨ ∃ N : Nat, n = (N : Int) ∧ 1 ≤ N ∧ N ≤ 5 ∧ famB f ∧ ordT f n = (ordN f N : Int) ∧ 1 ≤ ordN f N ∧ ordN f N ≤ 10 := by
  unfold ordT
  rcases hb : inB n 1 5 with _ | _
  · left; rfl
  · obtain ⟨h1, h2⟩ := inB_iff.1 hb
    obtain ⟨N, rfl⟩ := Int.eq_ofNat_of_zero_le (show 0 ≤ n by omega)
    by_cases hM : f = nmM
    · right
      refine ⟨N, rfl, by omega, by omega, Or.inl hM, ?_, ?_, ?_⟩
      · unfold ordN; rw [if_pos hM, if_pos rfl, if_pos (by simp [hM])]; omega
      · unfold ordN; rw [if_pos hM]; omega
      · unfold ordN; rw [if_pos hM]; omega
    · by_cases hP : f = nmP
      · right
        refine ⟨N, rfl, by omega, by omega, Or.inr (Or.inl hP), ?_, ?_, ?_⟩
        · unfold ordN; rw [if_neg hM, if_pos hP, if_pos rfl, if_neg (by simpa using hM), if_pos (by simp [hP])]
        · unfold ordN; rw [if_neg hM, if_pos hP]; omega
        · unfold ordN; rw [if_neg hM, if_pos hP]; omega
      · by_cases hT : f = nmT
        · right
          refine ⟨N, rfl, by omega, by omega, Or.inr (Or.inr hT), ?_, ?_, ?_⟩
          · unfold ordN; rw [if_neg hM, if_neg hP, if_pos rfl, if_neg (by simpa using hM), if_neg (by simpa using hP), if_pos (by simp [hT])]; omega
          · unfold ordN; rw [if_neg hM, if_neg hP]; omega
          · unfold ordN; rw [if_neg hM, if_neg hP]; omega
        · left
          rw [if_pos rfl, if_neg (by simpa using hM), if_neg (by simpa using hP), if_neg (by simpa using hT)]
def fixTo (nx : List Nat) (k : Nat) : Nat → Nat
  | 0 => 0
  | i + 1 => fixTo nx k i + if itN nx i k = i then 1 else 0
theorem fixTo_le (nx : List Nat) (k : Nat) : ∀ i, fixTo nx k i ≤ i
  | 0 => Nat.le_refl _
  | i + 1 => by
    have := fixTo_le nx k i
    rw [fixTo]
    split <;> omega
def fixT (f : List UInt8) (n k : Int) : Int := if inB k 0 (ordT f n - 1) then (fixTo (nxT f n.toNat) k.toNat (paths n.toNat).length : Int) else -1
theorem fixT_no {f : List UInt8} {n k : Int} (h : ordT f n = -1) : fixT f n k = -1 := by
  unfold fixT
  rw [h, inB_false (by omega)]; rfl
theorem plL_at (nx : List Nat) {m i : Nat} {x : Int} (h : (plL nx m)[i]? = some x) : x = ((nx.getD i 0 : Nat) : Int) := by
  unfold plL at h
  rw [List.getElem?_map, Option.map_eq_some_iff] at h
  obtain ⟨j, hj, rfl⟩ := h
  obtain ⟨h1, h2⟩ := List.getElem?_eq_some_iff.1 hj
  simp at h2
  rw [h2]

end Go.Proofs.YtghfhkbncjgaeaaGreat
