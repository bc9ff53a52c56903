/- Merged: WdL Glue Fmt OrderOfTurn. -/
import Derived.Test.YtghfhkbncjgaeaaGreatMg16
import Derived.Test.YtghfhkbncjgaeaaGreatMg3
import Derived.Test.YtghfhkbncjgaeaaGreatMg8
import Derived.Test.YtghfhkbncjgaeaaGreatProg

namespace Go.Proofs.YtghfhkbncjgaeaaGreat
open Go.RowKit Go.Deep

def wd : Tr → List UInt8
  | .nil => []
  | .node _ _ _ l r => 117 :: (wd l ++ 100 :: wd r)
theorem wd_len (t : Tr) : (wd t).length = 2 * nodes t := by
  induction t with
  | nil => rfl
  | node b o a l r ihl ihr => simp [wd, nodes, ihl, ihr]; omega
theorem wd_sh (t : Tr) : wd (sh t) = wd t := by
  induction t with
  | nil => rfl
  | node b o a l r ihl ihr => simp [wd, sh, ihl, ihr]
theorem hat_cu (x : List UInt8) : ∀ k, hat (117 :: x) (k + 1) = hat x k + 1
  | 0 => by simp [hat]
  | k + 1 => by
    rw [hat, hat_cu x k, hat, List.getElem?_cons_succ]
    split <;> omega
theorem hat_cd (x : List UInt8) : ∀ k, hat (100 :: x) (k + 1) = hat x k - 1
  | 0 => by simp [hat]
  | k + 1 => by
    rw [hat, hat_cd x k, hat, List.getElem?_cons_succ]
    split <;> omega
theorem hat_left {x y : List UInt8} : ∀ k, k ≤ x.length → hat (x ++ y) k = hat x k
  | 0, _ => rfl
  | k + 1, h => by rw [hat, hat, hat_left k (by omega), List.getElem?_append_left (by omega)]
theorem hat_right {x y : List UInt8} : ∀ k, hat (x ++ y) (x.length + k) = hat x x.length + hat y k
  | 0 => by rw [Nat.add_zero, hat_left _ (Nat.le_refl _)]; simp [hat]
  | k + 1 => by
    rw [← Nat.add_assoc, hat, hat, hat_right k, List.getElem?_append_right (by omega), Nat.add_sub_cancel_left]
    split <;> omega
theorem wd_let (t : Tr) : ∀ c ∈ wd t, c = 117 ∨ c = 100 := by
  induction t with
  | nil => intro c h; cases h
  | node b o a l r ihl ihr =>
    intro c h
    simp only [wd, List.mem_cons, List.mem_append] at h
    rcases h with h | h | h | h
    · exact Or.inl h
    · exact ihl c h
    · exact Or.inr h
    · exact ihr c h
theorem wd_end (t : Tr) : hat (wd t) (wd t).length = 0 := by
  induction t with
  | nil => rfl
  | node b o a l r ihl ihr =>
    have e : (wd (.node b o a l r)).length = (wd l).length + ((wd r).length + 1) + 1 := by simp [wd]
    rw [e]
    show hat (117 :: _) _ = 0
    rw [hat_cu, hat_right, hat_cd, ihl, ihr]; rfl
theorem wd_in {b o : Nat} {a : Unit} {l r : Tr} (hl : ∀ k, k ≤ (wd l).length → 0 ≤ hat (wd l) k) {k : Nat} (h1 : 1 ≤ k) (h2 : k ≤ (wd l).length + 1) : 1 ≤ hat (wd (.node b o a l r)) k := by
  obtain ⟨j, rfl⟩ : ∃ j, k = j + 1 := ⟨k - 1, by omega⟩
  show 1 ≤ hat (117 :: _) _
  rw [hat_cu, hat_left _ (by omega)]
  have := hl j (by omega)
  omega
theorem wd_nn (t : Tr) : ∀ k, k ≤ (wd t).length → 0 ≤ hat (wd t) k := by
  induction t with
  | nil => intro k h; obtain rfl : k = 0 := by simpa [wd] using h
           exact Int.le_refl _
  | node b o a l r ihl ihr =>
    intro k h
    have e : (wd (.node b o a l r)).length = (wd l).length + ((wd r).length + 1) + 1 := by simp [wd]
    rw [e] at h
    rcases Nat.eq_zero_or_pos k with h0 | h0
    · subst h0; exact Int.le_refl _
    · rcases Nat.lt_or_ge ((wd l).length + 1) k with h1 | h1
      · obtain ⟨i, rfl⟩ : ∃ i, k = (wd l).length + (i + 1) + 1 := ⟨k - (wd l).length - 2, by omega⟩
        show 0 ≤ hat (117 :: _) _
        rw [hat_cu, hat_right, hat_cd, wd_end]
        have := ihr i (by omega)
        omega
      · have := wd_in (b := b) (o := o) (a := a) (r := r) ihl (show 1 ≤ k by omega) h1
        omega
theorem okB_of {l : List UInt8} (hc : ∀ c ∈ l, c = 117 ∨ c = 100) : ∀ n, n ≤ l.length → (∀ k, k ≤ n → 0 ≤ hat l k) → okB l n = true
  | 0, _, _ => rfl
  | n + 1, h, hk => by
    have hn : n < l.length := by omega
    rw [okB, okB_of hc n (by omega) (fun k h => hk k (by omega)), decide_eq_true (hk (n + 1) (Nat.le_refl _)), List.getElem?_eq_getElem hn]
    rcases hc l[n] (List.getElem_mem hn) with e | e <;> rw [e] <;> rfl
theorem dyck_wd {t : Tr} (h : nodes t ≤ 8) : dyck (wd t) = true := by
  unfold dyck pathB
  rw [okB_of (wd_let t) _ (Nat.le_refl _) (wd_nn t), wd_end, wd_len, decide_eq_true (by omega)]
  rfl

/-- Where the path of a node is cut. -/
structure CutW (L : List UInt8) (x : Nat) (l r : Tr) : Prop where
  left : List.take (x - 1) (List.drop 1 L) = wd l
  right : List.drop (x + 1) L = wd r
  len : L.length = 2 * (nodes l + nodes r + 1)
  xn : x = 2 * nodes l + 1
  hz : hat L (x + 1) = 0
  hp : ∀ k, 1 ≤ k → k ≤ x → 1 ≤ hat L k
theorem cutW_of (b o : Nat) (a : Unit) (l r : Tr) : ∃ L x, L = wd (.node b o a l r) ∧ CutW L x l r := by
  refine ⟨_, (wd l).length + 1, rfl, ?_, ?_, wd_len _, by rw [wd_len], ?_, fun k h1 h2 => wd_in (wd_nn l) h1 (by omega)⟩
  · show List.take _ (List.drop 1 (117 :: _)) = _
    rw [Nat.add_sub_cancel, List.drop_one, List.tail_cons, List.take_left]
  · show List.drop ((wd l).length + 1 + 1) (117 :: (wd l ++ 100 :: wd r)) = _
    rw [List.drop_succ_cons, ← List.drop_drop, List.drop_left]; rfl
  · show hat (117 :: _) ((wd l).length + 1 + 1) = 0
    rw [hat_cu, hat_right, hat_cd, wd_end]; rfl

/-- The tree of a path; f is fuel. -/
def rdw : Nat → List UInt8 → Tr × List UInt8
  | 0, l => (.nil, l)
  | f + 1, l => match l with
    | [] => (.nil, [])
    | c :: s => if c = 117 then match rdw f s with
        | (a, s1) => match s1 with
          | [] => (.nil, c :: s)
          | _ :: s2 => match rdw f s2 with
            | (b, s3) => (.node 0 0 () a b, s3)
      else (.nil, c :: s)
def tw (l : List UInt8) : Tr := (rdw l.length l).1
theorem tw_sh : ∀ (f : Nat) (l : List UInt8), sh (rdw f l).1 = (rdw f l).1
  | 0, l => rfl
  | f + 1, l => by
    unfold rdw
    split
    · rfl
    · next c s =>
      by_cases h : c = 117
      · rw [if_pos h]
        have h1 := tw_sh f s
        rcases he : rdw f s with ⟨a, s1⟩
        rw [he] at h1
        dsimp only
        cases s1 with
        | nil => rfl
        | cons d s2 =>
          have h2 := tw_sh f s2
          show BT.node 0 0 () (sh a) (sh (rdw f s2).fst) = BT.node 0 0 () a (rdw f s2).fst
          simp only at h1
          rw [h1, h2]
      · rw [if_neg h]; rfl

end Go.Proofs.YtghfhkbncjgaeaaGreat

namespace Go.Proofs.YtghfhkbncjgaeaaGreat
open Go.RowKit

def gluTo (s : List UInt8) (ts : List (List UInt8)) : Nat → List UInt8
  | 0 => []
  | k + 1 => gluTo s ts k ++ (if 0 < k then s else []) ++ ts.getD k []
theorem gluTo_len {s : List UInt8} {ts : List (List UInt8)} {b : Nat} (h : ∀ t ∈ ts, t.length ≤ b) : ∀ k, (gluTo s ts k).length ≤ k * (b + s.length)
  | 0 => Nat.zero_le _
  | k + 1 => by
    have h1 := gluTo_len (s := s) h k
    rw [gluTo, List.length_append, List.length_append, Nat.add_mul, Nat.one_mul]
    have h2 : (if 0 < k then s else []).length ≤ s.length := by split <;> simp
    have h3 : (ts.getD k []).length ≤ b := by
      rw [List.getD_eq_getElem?_getD]
      rcases hg : ts[k]? with _ | t
      · simp
      · exact h t (List.mem_of_getElem? hg)
    omega
theorem getDs_of {ts : List (List UInt8)} {k : Nat} {x : List UInt8} (h : ts[k]? = some x) : ts.getD k [] = x := by
  rw [List.getD_eq_getElem?_getD, h]; rfl

set_option maxHeartbeats 1000000 in
theorem glued_any (A : Option Addr) (n c : Nat) (s : List UInt8) (ts : List (List UInt8)) (b : Nat) (w : World) (h : Rd w A n (sv ts)) (hb : ∀ t ∈ ts, t.length ≤ b) (hs : s.length ≤ 100) (hbb : b ≤ 1000) (hn : n ≤ 10000) :
    Calls Tryz.prog 97 #[.slice A n c, .string (bs s)] w fun e w' => e = .returned (.string (bs (gluTo s ts n))) ∧ w = w' := by
  have HR := Lib.hid h
  have HG := Lib.hid (gluTo_len (s := s) hb)
  have HB := Lib.hid hb
  have hs1 : (bs s).size ≤ 100 := by rw [size_bs]; exact hs
  clear h hb
  go_enter Tryz.func97, Tryz.ntmps97
  go_wp2_with fail
  go_loop [5, 6, 7, 10] (fun r _ _ i => ∃ k : Nat, k ≤ n ∧ i = .int .i64 k ∧ r = .string (bs (gluTo s ts k))) (fun _ _ _ i => n - (intOf i).toNat)
  case atStart => exact ⟨0, Nat.zero_le _, rfl, rfl⟩
  case round =>
    obtain ⟨k, hk, rfl, rfl⟩ := hrel
    by_cases hlt : k < n
    · obtain ⟨bl, off, x, rfl, hx, hc⟩ := HR.out.ats hlt
      have z1 : (gluTo s ts k).length ≤ 11000000 := by
        have h1 := HG.out k
        have h2 := Nat.mul_le_mul (show k ≤ 10000 by omega) (show b + s.length ≤ 1100 by omega)
        omega
      have z2 : x.length ≤ 1000 := by have := HB.out x (List.mem_of_getElem? hx); omega
      have z3 : (bs (gluTo s ts k)).size ≤ 11000000 := by rw [size_bs]; exact z1
      have z4 : (bs x).size ≤ 1000 := by rw [size_bs]; exact z2
      by_cases h0 : k = 0
      · subst h0
        have HS := Lib.hid (show gluTo s ts (0 + 1) = gluTo s ts 0 ++ x by show gluTo s ts 0 ++ (if 0 < 0 then s else []) ++ ts.getD 0 [] = _; rw [getDs_of hx]; simp)
        rw [Nat.add_zero] at hc
        clear hx
        go_wp2_with fail
        go_round
        case rel => exact ⟨0 + 1, by omega, by go_num, by rw [HS.out]⟩
        case measure => simp [intOf]; omega
      · have k1 : (0 : Int) < (k : Int) := by omega
        have k2 : 0 < k := by omega
        have HS := Lib.hid (show gluTo s ts (k + 1) = gluTo s ts k ++ s ++ x by rw [gluTo, getDs_of hx, if_pos k2])
        clear hx
        have z5 : (bs (gluTo s ts k ++ s)).size ≤ 11000100 := by rw [size_bs, List.length_append]; omega
        clear h0
        go_wp2_with fail
        go_round
        case rel => exact ⟨k + 1, by omega, by go_num, by rw [HS.out, List.append_assoc]⟩
        case measure => simp [intOf]; omega
    · have hkn : k = n := by omega
      have HK := Lib.hid hkn
      clear hkn
      go_wp2_with fail
      go_ret
      exact ⟨by rw [HK.out]; rfl, rfl⟩

end Go.Proofs.YtghfhkbncjgaeaaGreat

namespace Go.Proofs.YtghfhkbncjgaeaaGreat
open Go.RowKit

/-- The digits, the last one first; f is fuel. -/
def lsd : Nat → Nat → List UInt8
  | 0, _ => []
  | f + 1, m => if m = 0 then [] else b1 (48 + ((m % 10 : Nat) : Int)) ++ lsd f (m / 10)
def fmtI (x : Int) : List UInt8 := if x = 0 then [48] else if x < 0 then 45 :: (lsd x.natAbs x.natAbs).reverse else (lsd x.natAbs x.natAbs).reverse
theorem lsd_0 (f : Nat) : lsd f 0 = [] := by cases f <;> simp [lsd]
theorem lsd_len : ∀ (f m k : Nat), m < 10 ^ k → (lsd f m).length ≤ k
  | 0, _, _, _ => Nat.zero_le _
  | f + 1, m, 0, h => by obtain rfl : m = 0 := by omega
                         simp [lsd]
  | f + 1, m, k + 1, h => by
    unfold lsd
    split
    · simp
    · have := lsd_len f (m / 10) k (by rw [Nat.pow_succ] at h; omega)
      rw [List.length_append]
      have e : (b1 (48 + ((m % 10 : Nat) : Int))).length = 1 := rfl
      omega
theorem fmtI_len {x : Int} (h : -1000000000 ≤ x ∧ x ≤ 1000000000) : (fmtI x).length ≤ 12 := by
  have := lsd_len x.natAbs x.natAbs 10 (by omega)
  unfold fmtI
  split
  · simp
  · split
    · simp; omega
    · simp; omega
theorem fmtI_ne (x : Int) : fmtI x ≠ [] := by
  unfold fmtI
  split
  · simp
  · split
    · simp
    · next h1 h2 =>
      obtain ⟨f, hf⟩ : ∃ f, x.natAbs = f + 1 := ⟨x.natAbs - 1, by omega⟩
      rw [hf, lsd, if_neg (by omega)]
      simp [b1]
theorem fmtI_pos {m : Nat} (h : 0 < m) : fmtI (m : Int) = (lsd m m).reverse := by
  unfold fmtI
  rw [if_neg (by omega), if_neg (by omega), show ((m : Int)).natAbs = m by omega]
theorem fmtI_neg {m : Nat} (h : 0 < m) : fmtI (-(m : Int)) = 45 :: (lsd m m).reverse := by
  unfold fmtI
  rw [if_neg (by omega), if_pos (by omega), show (-(m : Int)).natAbs = m by omega]


end Go.Proofs.YtghfhkbncjgaeaaGreat

namespace Go.Proofs.YtghfhkbncjgaeaaGreat
open Go.RowKit

def nmM : List UInt8 := [109, 97, 116, 99, 104, 105, 110, 103, 115]
def nmP : List UInt8 := [112, 97, 114, 116, 105, 116, 105, 111, 110, 115]
def nmT : List UInt8 := [116, 114, 105, 97, 110, 103, 117, 108, 97, 116, 105, 111, 110, 115]
def ordT (l : List UInt8) (n : Int) : Int :=
  if inB n 1 5 then (if l == nmM then 2 * n else if l == nmP then n else if l == nmT then n + 2 else -1) else -1


theorem specOrderOfTurn_any (l : List UInt8) (n : Int) (w : World) :
    Calls Tryz.prog 9 #[.string (bs l), .int .i64 n] w fun e w' => e = .returned (.int .i64 (ordT l n)) ∧ w = w' := by
  rcases hin : inB n 1 5 with _ | _
  · have HB := Lib.hid hin
    have hf := Lib.hid (show ordT l n = -1 by simp [ordT, hin])
    clear hin
    go_enter Tryz.func9, Tryz.ntmps9
    go_wp2_with (go_at_call 34; refine (l1In_any _ _ _ _).mono ?_; rintro e w' ⟨rfl, rfl⟩; rw [HB.out])
    go_ret
    exact ⟨by rw [hf.out]; rfl, rfl⟩
  · have HB := Lib.hid hin
    obtain ⟨h1, h2⟩ := inB_iff.1 hin
    have hf := Lib.hid (show ordT l n = (if l == nmM then 2 * n else if l == nmP then n else if l == nmT then n + 2 else -1) by simp [ordT, hin])
    clear hin
    go_enter Tryz.func9, Tryz.ntmps9
    go_wp2_with (go_at_call 34; refine (l1In_any _ _ _ _).mono ?_; rintro e w' ⟨rfl, rfl⟩; rw [HB.out])
    all_goals (go_ret; refine ⟨?_, rfl⟩; rw [hf.out]; simp [nmM, nmP, nmT, *])

theorem implOrderOfTurn_any (l : List UInt8) (n : Int) (w : World) :
    Calls Tryz.prog 8 #[.string (bs l), .int .i64 n] w fun e w' => e = .returned (.int .i64 (ordT l n)) ∧ w = w' := by
  rcases hin : inB n 1 5 with _ | _
  · have HB := Lib.hid hin
    have hf := Lib.hid (show ordT l n = -1 by simp [ordT, hin])
    clear hin
    go_enter Tryz.func8, Tryz.ntmps8
    go_wp2_with (go_at_call 33; refine (within_any _ _ _ _).mono ?_; rintro e w' ⟨rfl, rfl⟩; rw [HB.out])
    go_ret
    exact ⟨by rw [hf.out]; rfl, rfl⟩
  · have HB := Lib.hid hin
    obtain ⟨h1, h2⟩ := inB_iff.1 hin
    have hf := Lib.hid (show ordT l n = (if l == nmM then 2 * n else if l == nmP then n else if l == nmT then n + 2 else -1) by simp [ordT, hin])
    clear hin
    go_enter Tryz.func8, Tryz.ntmps8
    go_wp2_with (go_at_call 33; refine (within_any _ _ _ _).mono ?_; rintro e w' ⟨rfl, rfl⟩; rw [HB.out])
    all_goals (go_ret; refine ⟨?_, rfl⟩; rw [hf.out]; simp [nmM, nmP, nmT, *])

end Go.Proofs.YtghfhkbncjgaeaaGreat
