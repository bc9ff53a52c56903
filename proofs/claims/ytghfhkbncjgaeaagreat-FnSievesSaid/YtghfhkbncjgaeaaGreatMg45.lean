/- Merged: Binomial Factor Times Pair Divide. -/
import Derived.Test.YtghfhkbncjgaeaaGreatMg44
import Derived.Test.YtghfhkbncjgaeaaGreatMg3
import Derived.Test.YtghfhkbncjgaeaaGreatMg42
import Derived.BigRegion
import Derived.Test.YtghfhkbncjgaeaaGreatMg25

namespace Go.Proofs.YtghfhkbncjgaeaaGreat
open Go.RowKit

def binP (n k : Int) : List Int × Bool := if inB n 0 14 && inB k 0 n then (gau n.toNat k.toNat, true) else ([], false)
theorem binP_len (n k : Int) : (binP n k).1.length ≤ 1048576 := by
  unfold binP
  split
  · next h =>
    simp only [Bool.and_eq_true] at h
    have g1 := inB_iff.1 h.1
    have g2 := inB_iff.1 h.2
    have := gau_len14 (n := n.toNat) (k := k.toNat) (by omega) (by omega)
    show (gau n.toNat k.toNat).length ≤ _
    omega
  · simp

set_option maxHeartbeats 800000 in
theorem implBinomialPolynomial_any (n k : Int) (w : World) : Calls Tryz.prog 55 #[.int .i64 n, .int .i64 k] w (RetIB w (binP n k).1 (binP n k).2) := by
  unfold RetIB
  rcases h1 : inB n 0 14 with _ | _
  · have HF := Lib.hid (show binP n k = ([], false) by simp [binP, h1])
    have H1 := Lib.hid h1
    clear h1
    go_enter Tryz.func55, Tryz.ntmps55
    go_wp2_with fail
    refine (within_any _ _ _ _).mono ?_
    rintro e w' ⟨rfl, rfl⟩
    rw [H1.out]
    go_wp2_with fail
    go_ret2
    rw [HF.out]
    exact ⟨_, 0, 0, rfl, rfl, own_empty w, (Below.refl _ _).alloc (Nat.le_refl _) _⟩
  rcases h2 : inB k 0 n with _ | _
  · have HF := Lib.hid (show binP n k = ([], false) by simp [binP, h2])
    have H1 := Lib.hid h1
    have H2 := Lib.hid h2
    clear h1 h2
    go_enter Tryz.func55, Tryz.ntmps55
    go_wp2_with fail
    refine (within_any _ _ _ _).mono ?_
    rintro e w' ⟨rfl, rfl⟩
    rw [H1.out]
    go_wp2_with fail
    refine (within_any _ _ _ _).mono ?_
    rintro e w' ⟨rfl, rfl⟩
    rw [H2.out]
    go_wp2_with fail
    go_ret2
    rw [HF.out]
    exact ⟨_, 0, 0, rfl, rfl, own_empty w, (Below.refl _ _).alloc (Nat.le_refl _) _⟩
  have g1 := inB_iff.1 h1
  have g2 := inB_iff.1 h2
  obtain ⟨N, rfl⟩ := Int.eq_ofNat_of_zero_le g1.1
  obtain ⟨K, rfl⟩ := Int.eq_ofNat_of_zero_le g2.1
  have HF := Lib.hid (show binP N K = (gau N K, true) by simp [binP, h1, h2])
  have H1 := Lib.hid h1
  have H2 := Lib.hid h2
  clear h1 h2
  go_enter Tryz.func55, Tryz.ntmps55
  go_wp2_with fail
  refine (within_any _ _ _ _).mono ?_
  rintro e w' ⟨rfl, rfl⟩
  rw [H1.out]
  go_wp2_with fail
  refine (within_any _ _ _ _).mono ?_
  rintro e w' ⟨rfl, rfl⟩
  rw [H2.out]
  go_wp2_with fail
  refine (gauss_any N K _ _ _ rfl rfl (by omega) (by omega)).mono ?_
  rintro e w1 ⟨A, m, c, hm, rfl, ho, hb⟩
  have HM := Lib.hid hm
  have HO := Lib.hid ho
  clear hm ho
  go_wp2_with fail
  go_ret2
  rw [HF.out]
  exact ⟨A, m, c, HM.out, rfl, HO.out, hb⟩

end Go.Proofs.YtghfhkbncjgaeaaGreat

namespace Go.Proofs.YtghfhkbncjgaeaaGreat
open Go.RowKit

def inF (x : Int) : Bool := inB x (-100000) 100000
def isFac (xs : List Int) : Bool := xs.all inF && isPol xs

theorem l14Small_any (A : Option Addr) (n c : Nat) (xs : List Int) (w : World) (h : Rd w A n (iv xs)) (hn : n ≤ 1000000000) :
    Calls Tryz.prog 53 #[.slice A n c] w fun e w' => e = .returned (.bool (isFac xs)) ∧ w = w' := by
  have HR := Lib.hid h
  have HL := Lib.hid (show xs.length = n by have := h.len; rw [iv_len] at this; exact this)
  clear h
  go_enter Tryz.func53, Tryz.ntmps53
  go_wp2_with fail
  go_loop [3] (fun i => ∃ k : Nat, k ≤ n ∧ i = .int .i64 k ∧ Hid ((xs.take k).all inF = true)) (fun i => n - (intOf i).toNat)
  case atStart => exact ⟨0, Nat.zero_le _, rfl, Lib.hid rfl⟩
  case round =>
    obtain ⟨k, hk, rfl, HA⟩ := hrel
    by_cases hlt : k < n
    · obtain ⟨b, off, x, rfl, hx, hc⟩ := HR.out.ati hlt
      have HX := Lib.hid hx
      clear hx
      rcases hP : inF x with _ | _
      · have HP := Lib.hid hP
        have HF := Lib.hid (show isFac xs = false by unfold isFac; rw [not_all HX.out hP]; rfl)
        clear hP
        go_wp2_with fail
        refine (l1In_any _ _ _ _).mono ?_
        rintro e w' ⟨rfl, rfl⟩
        rw [show inB x (-100000) 100000 = false from HP.out]
        go_wp2_with fail
        go_ret
        exact ⟨ret_bool (by rw [HF.out]), rfl⟩
      · have HP := Lib.hid hP
        clear hP
        go_wp2_with fail
        refine (l1In_any _ _ _ _).mono ?_
        rintro e w' ⟨rfl, rfl⟩
        rw [show inB x (-100000) 100000 = true from HP.out]
        go_wp2_with fail
        go_round
        case rel => exact ⟨k + 1, by omega, by go_num, Lib.hid (take_all HA.out HX.out HP.out)⟩
        case measure => simp [intOf]; omega
    · have hkn : k = n := by omega
      subst hkn
      have HF := Lib.hid (show isFac xs = isPol xs by unfold isFac; rw [all_of_take HA.out (by rw [HL.out]; omega)]; rfl)
      go_wp2_with fail
      refine (specIsPolynomial_any _ _ _ _ _ HR.out hn).mono ?_
      rintro e w' ⟨rfl, rfl⟩
      go_wp2_with fail
      go_ret
      exact ⟨ret_bool (by rw [HF.out]), rfl⟩

theorem isFactor_any (A : Option Addr) (n c : Nat) (xs : List Int) (w : World) (h : Rd w A n (iv xs)) (hn : n ≤ 1000000000) :
    Calls Tryz.prog 49 #[.slice A n c] w fun e w' => e = .returned (.bool (isFac xs)) ∧ w = w' := by
  have HR := Lib.hid h
  have HL := Lib.hid (show xs.length = n by have := h.len; rw [iv_len] at this; exact this)
  clear h
  go_enter Tryz.func49, Tryz.ntmps49
  go_wp2_with fail
  go_loop [4, 7] (fun _ i => ∃ k : Nat, k ≤ n ∧ i = .int .i64 k ∧ Hid ((xs.take k).all inF = true)) (fun _ i => n - (intOf i).toNat)
  case atStart => exact ⟨0, Nat.zero_le _, rfl, Lib.hid rfl⟩
  case round =>
    obtain ⟨k, hk, rfl, HA⟩ := hrel
    by_cases hlt : k < n
    · obtain ⟨b, off, x, rfl, hx, hc⟩ := HR.out.ati hlt
      have HX := Lib.hid hx
      clear hx
      rcases hP : inF x with _ | _
      · have HP := Lib.hid hP
        have HF := Lib.hid (show isFac xs = false by unfold isFac; rw [not_all HX.out hP]; rfl)
        clear hP
        go_wp2_with fail
        refine (within_any _ _ _ _).mono ?_
        rintro e w' ⟨rfl, rfl⟩
        rw [show inB x (-100000) 100000 = false from HP.out]
        go_wp2_with fail
        go_ret
        exact ⟨ret_bool (by rw [HF.out]), rfl⟩
      · have HP := Lib.hid hP
        clear hP
        go_wp2_with fail
        refine (within_any _ _ _ _).mono ?_
        rintro e w' ⟨rfl, rfl⟩
        rw [show inB x (-100000) 100000 = true from HP.out]
        go_wp2_with fail
        go_round
        case rel => exact ⟨k + 1, by omega, by go_num, Lib.hid (take_all HA.out HX.out HP.out)⟩
        case measure => simp [intOf]; omega
    · have hkn : k = n := by omega
      subst hkn
      have HF := Lib.hid (show isFac xs = isPol xs by unfold isFac; rw [all_of_take HA.out (by rw [HL.out]; omega)]; rfl)
      go_wp2_with fail
      refine (implIsPolynomial_any _ _ _ _ _ HR.out hn).mono ?_
      rintro e w' ⟨rfl, rfl⟩
      go_wp2_with fail
      go_ret
      exact ⟨ret_bool (by rw [HF.out]), rfl⟩


end Go.Proofs.YtghfhkbncjgaeaaGreat

namespace Go.Proofs.YtghfhkbncjgaeaaGreat
open Go.RowKit

/-- Into a list: the products of the first k coefficients of the one with all of the other. -/
def mulK (base xs ys : List Int) : Nat → List Int
  | 0 => base
  | k + 1 => upd (mulK base xs ys k) (fun j => xs.getD k 0 * ys.getD j 0) k ys.length
theorem mulK_len (base xs ys : List Int) : ∀ k : Nat, (mulK base xs ys k).length = base.length
  | 0 => rfl
  | k + 1 => by rw [mulK, upd_len, mulK_len base xs ys k]
def timesL (xs ys : List Int) : List Int := if xs = [] ∨ ys = [] then [] else trimL (mulK (List.replicate (xs.length + ys.length - 1) 0) xs ys xs.length)

theorem mul_le {a b : Int} (ha : -100000 ≤ a ∧ a ≤ 100000) (hb : -100000 ≤ b ∧ b ≤ 100000) : -10000000000 ≤ a * b ∧ a * b ≤ 10000000000 := by
  have h : (a * b).natAbs ≤ 100000 * 100000 := by
    rw [Int.natAbs_mul]
    exact Nat.mul_le_mul (by omega) (by omega)
  omega
theorem getD_bdQ {xs : List Int} (h : ∀ x ∈ xs, -100000 ≤ x ∧ x ≤ 100000) (k : Nat) : -100000 ≤ xs.getD k 0 ∧ xs.getD k 0 ≤ 100000 := by
  rw [List.getD_eq_getElem?_getD]
  rcases hg : xs[k]? with _ | x
  · simp
  · exact h x (List.mem_of_getElem? hg)
theorem mulK_bd {base xs ys : List Int} (h0 : ∀ j : Nat, base.getD j 0 = 0) (hx : ∀ x ∈ xs, -100000 ≤ x ∧ x ≤ 100000) (hy : ∀ x ∈ ys, -100000 ≤ x ∧ x ≤ 100000) :
    ∀ (k j : Nat), k + ys.length ≤ base.length + 1 → -((k : Int) * 10000000000) ≤ (mulK base xs ys k).getD j 0 ∧ (mulK base xs ys k).getD j 0 ≤ (k : Int) * 10000000000
  | 0, j, _ => by rw [mulK, h0]; omega
  | k + 1, j, h => by
    have ih := mulK_bd h0 hx hy k j (by omega)
    have hm := mul_le (getD_bdQ hx k) (getD_bdQ hy (j - k))
    rw [mulK, upd_get _ _ _ _ _ (by rw [mulK_len]; omega)]
    split <;> omega
/-- One more nought at the end. -/
theorem upd_snoc (xs : List Int) (f : Nat → Int) (off : Nat) : ∀ k : Nat, off + k ≤ xs.length → upd (xs ++ [0]) f off k = upd xs f off k ++ [0]
  | 0, _ => rfl
  | k + 1, h => by
    have hl : off + k < (upd xs f off k).length := by rw [upd_len]; omega
    rw [upd, upd, upd_snoc xs f off k (by omega), List.set_append_left _ _ hl]
    congr 3
    rw [List.getD_eq_getElem?_getD, List.getD_eq_getElem?_getD, List.getElem?_append_left hl]
theorem mulK_snoc (base xs ys : List Int) : ∀ k : Nat, k + ys.length ≤ base.length + 1 → mulK (base ++ [0]) xs ys k = mulK base xs ys k ++ [0]
  | 0, _ => rfl
  | k + 1, h => by rw [mulK, mulK, mulK_snoc base xs ys k (by omega), upd_snoc _ _ _ _ (by rw [mulK_len]; omega)]
theorem tz_snoc (xs : List Int) : ∀ n : Nat, n ≤ xs.length → tz (xs ++ [0]) n = tz xs n
  | 0, _ => rfl
  | n + 1, h => by
    unfold tz
    rw [tz_snoc xs n (by omega), show List.getD (xs ++ [(0 : Int)]) n 0 = xs.getD n 0 by rw [List.getD_eq_getElem?_getD, List.getD_eq_getElem?_getD, List.getElem?_append_left (by omega)]]
theorem trimL_snoc (xs : List Int) : trimL (xs ++ [0]) = trimL xs := by
  have e : tz (xs ++ [0]) (xs ++ [0]).length = tz xs xs.length := by
    rw [show List.length (xs ++ [(0 : Int)]) = xs.length + 1 by simp, tz, if_pos (by rw [List.getD_eq_getElem?_getD]; simp), tz_snoc xs _ (Nat.le_refl _)]
  unfold trimL
  rw [e, List.take_append_of_le_length (tz_le _ _)]
theorem trimL_rep : ∀ n : Nat, trimL (List.replicate n 0) = []
  | 0 => rfl
  | n + 1 => by rw [List.replicate_succ', trimL_snoc, trimL_rep n]
/-- What the implementation reckons with one place more. -/
theorem timesL_eq (xs ys : List Int) : trimL (mulK (List.replicate (xs.length + ys.length) 0) xs ys xs.length) = timesL xs ys := by
  unfold timesL
  split
  · next h =>
    rcases h with rfl | rfl
    · exact trimL_rep _
    · have : ∀ k : Nat, mulK (List.replicate (xs.length + ([] : List Int).length) 0) xs [] k = List.replicate (xs.length + ([] : List Int).length) 0 := by
        intro k
        induction k with
        | zero => rfl
        | succ k ih => rw [mulK, ih]; rfl
      rw [this, trimL_rep]
  · next h =>
    have h1 : 0 < xs.length := List.length_pos_iff.2 (fun e => h (Or.inl e))
    have h2 : 0 < ys.length := List.length_pos_iff.2 (fun e => h (Or.inr e))
    rw [show xs.length + ys.length = (xs.length + ys.length - 1) + 1 by omega, List.replicate_succ', mulK_snoc _ _ _ _ (by simp; omega), trimL_snoc]
    simp
theorem isFac_iff {xs : List Int} (h : isFac xs = true) : xs.length ≤ 61 ∧ ∀ x ∈ xs, -100000 ≤ x ∧ x ≤ 100000 := by
  unfold isFac at h
  simp only [Bool.and_eq_true, List.all_eq_true] at h
  exact ⟨(isPol_iff h.2).1, fun x hx => inB_iff.1 (h.1 x hx)⟩
def mulP (xs ys : List Int) : List Int × Bool := if isFac xs && isFac ys && decide (xs.length + ys.length ≤ 62) && isPol (timesL xs ys) then (timesL xs ys, true) else ([], false)
theorem mulP_len (xs ys : List Int) : (mulP xs ys).1.length ≤ 1048576 := by
  unfold mulP
  split
  · next h =>
    simp only [Bool.and_eq_true] at h
    have := (isPol_iff h.2).1
    show (timesL xs ys).length ≤ 1048576
    omega
  · simp
theorem isFac_iff7 {p : List Int} (h : isFac p = true) : p.length ≤ 61 ∧ ∀ x ∈ p, -10000000 ≤ x ∧ x ≤ 10000000 :=
  ⟨(isFac_iff h).1, fun x hx => by have := (isFac_iff h).2 x hx; omega⟩
theorem getD_bd7 {xs : List Int} (h : ∀ x ∈ xs, -10000000 ≤ x ∧ x ≤ 10000000) (k : Nat) : -10000000 ≤ xs.getD k 0 ∧ xs.getD k 0 ≤ 10000000 := by
  rw [List.getD_eq_getElem?_getD]
  rcases hg : xs[k]? with _ | x
  · simp
  · exact h x (List.mem_of_getElem? hg)

end Go.Proofs.YtghfhkbncjgaeaaGreat

namespace Go.Proofs.YtghfhkbncjgaeaaGreat
open Go.RowKit

/-- The call hands back two new slices of ints that lie apart, and a bool. -/
def RetIIB (w : World) (xs ys : List Int) (b : Bool) (e : Ending) (w' : World) : Prop :=
  ∃ R0 m0 d0 R1 m1 d1 p0 q0 p1 q1, m0 = xs.length ∧ m1 = ys.length ∧ e = .returned (.tuple #[.slice R0 m0 d0, .slice R1 m1 d1, .bool b]) ∧ OSeg w' 3 p0 q0 R0 m0 d0 (iv xs) ∧ OSeg w' 3 p1 q1 R1 m1 d1 (iv ys) ∧
    (w.heap.size ≤ p0 ∧ q0 ≤ w'.heap.size ∧ w.heap.size ≤ p1 ∧ q1 ≤ w'.heap.size ∧ (q0 ≤ p1 ∨ q1 ≤ p0)) ∧ Below w.heap.size w w'
theorem Own.tight {w : World} {e : TypeId} {B : Nat} {A : Option Addr} {n c : Nat} {vs : List Value} (h : Own w e B A n c vs) (hB : B ≤ w.heap.size) : ∃ p q, OSeg w e p q A n c vs ∧ B ≤ p ∧ q ≤ w.heap.size ∧ (∀ k, Value.ownBlock (.slice A n c) = some k → p = k ∧ q = k + 1) ∧ (Value.ownBlock (.slice A n c) = none → p = B ∧ q = B) := by
  rcases h.form with ⟨rfl, rfl, rfl⟩ | ⟨g, rfl, hg, hs, _⟩
  · exact ⟨B, B, ⟨h, by intro k hk; cases hk⟩, Nat.le_refl _, hB, (by intro k hk; cases hk), fun _ => ⟨rfl, rfl⟩⟩
  · refine ⟨g, g + 1, ⟨?_, ?_⟩, hg, by omega, ?_, by intro hk; cases hk⟩
    · refine ⟨h.1, ?_⟩
      rcases h.2 with ⟨h1, _⟩ | ⟨g1, cap, cur, h1, h2, h3⟩
      · cases h1
      · cases h1
        exact Or.inr ⟨g, c, cur, rfl, Nat.le_refl _, h3⟩
    · intro k hk
      have : g = k := by simpa [Value.ownBlock] using hk
      omega
    · intro k hk
      have : g = k := by simpa [Value.ownBlock] using hk
      omega
theorem RetIIB.mk {w w' : World} {xs ys : List Int} {b : Bool} {e : Ending} {R0 R1 : Option Addr} {m0 d0 m1 d1 : Nat} (h0 : m0 = xs.length) (h1 : m1 = ys.length) (he : e = .returned (.tuple #[.slice R0 m0 d0, .slice R1 m1 d1, .bool b]))
    (ho0 : Own w' 3 w.heap.size R0 m0 d0 (iv xs)) (ho1 : Own w' 3 w.heap.size R1 m1 d1 (iv ys)) (hne : ∀ k, Value.ownBlock (.slice R0 m0 d0) = some k → Value.ownBlock (.slice R1 m1 d1) ≠ some k) (hb : Below w.heap.size w w') : RetIIB w xs ys b e w' := by
  obtain ⟨p0, q0, s0, a0, b0, c0, e0⟩ := ho0.tight hb.size
  obtain ⟨p1, q1, s1, a1, b1, c1, e1⟩ := ho1.tight hb.size
  refine ⟨R0, m0, d0, R1, m1, d1, p0, q0, p1, q1, h0, h1, he, s0, s1, ⟨a0, b0, a1, b1, ?_⟩, hb⟩
  rcases h2 : Value.ownBlock (.slice R0 m0 d0) with _ | k0
  · obtain ⟨rfl, rfl⟩ := e0 h2; exact Or.inl a1
  · obtain ⟨rfl, rfl⟩ := c0 _ h2
    rcases h3 : Value.ownBlock (.slice R1 m1 d1) with _ | k1
    · obtain ⟨rfl, rfl⟩ := e1 h3; exact Or.inr a0
    · obtain ⟨rfl, rfl⟩ := c1 _ h3
      have : p0 ≠ p1 := fun e => hne p0 h2 (by rw [h3, e])
      omega
/-- Two empty slices, made one after the other. -/
theorem RetIIB.empty {w W : World} {b : Bool} (hb : Below w.heap.size w W) : RetIIB w [] [] b (.returned (.tuple #[.slice (some ⟨W.heap.size, 0, none⟩) 0 0, .slice (some ⟨W.heap.size + 1, 0, none⟩) 0 0, .bool b])) ((W.alloc (.cells #[] 3)).alloc (.cells #[] 3)) := by
  have hs := hb.size
  have h2 := (own_empty (W.alloc (.cells #[] 3))).mono (B' := w.heap.size) (by simp; omega)
  have e : (W.alloc (.cells #[] 3)).heap.size = W.heap.size + 1 := by simp
  rw [e] at h2
  exact RetIIB.mk rfl rfl rfl (((own_empty W).mono hs).alloc _) h2 (by intro k hk; simp [Value.ownBlock] at hk ⊢; omega) ((hb.alloc hs _).alloc (by simp; omega) _)

end Go.Proofs.YtghfhkbncjgaeaaGreat

namespace Go.Proofs.YtghfhkbncjgaeaaGreat
open Go.RowKit

def inU (x : Int) : Bool := inB x (-1) 1
def isDiv (ys : List Int) : Bool := inB ys.length 1 13 && (ys.getLastD 0 == 1) && ys.all inU
/-- The rounds z - 1, .., 0. -/
def divR (ys : List Int) : Nat → List Int → List Int → Option (List Int × List Int)
  | 0, q, r => some (q, r)
  | z + 1, q, r => if inM (r.getD (z + ys.length - 1) 0) then divR ys z (q.set z (r.getD (z + ys.length - 1) 0)) (upd r (fun k => -(r.getD (z + ys.length - 1) 0 * ys.getD k 0)) z ys.length) else none
def divQ (xs ys : List Int) : Option (List Int × List Int) := divR ys (xs.length + 1 - ys.length) (List.replicate (xs.length + 1 - ys.length) 0) xs
def divP (xs ys : List Int) : List Int × List Int × Bool :=
  if isFac xs && isDiv ys then
    match divQ xs ys with
    | none => ([], [], false)
    | some (q, r) => if isPol (trimL q) && isPol (trimL r) then (trimL q, trimL r, true) else ([], [], false)
  else ([], [], false)
theorem isDiv_iff {ys : List Int} (h : isDiv ys = true) : 1 ≤ ys.length ∧ ys.length ≤ 13 ∧ ys.getLastD 0 = 1 ∧ ∀ y ∈ ys, -1 ≤ y ∧ y ≤ 1 := by
  unfold isDiv at h
  simp only [Bool.and_eq_true, List.all_eq_true, beq_iff_eq] at h
  obtain ⟨⟨h1, h2⟩, h3⟩ := h
  have := inB_iff.1 h1
  exact ⟨by omega, by omega, h2, fun y hy => inB_iff.1 (h3 y hy)⟩
theorem lastD_01 {ys : List Int} (h : 1 ≤ ys.length) : ys.getLastD 0 = ys.getLastD 1 := by
  cases ys with
  | nil => simp at h
  | cons a l => simp [List.getLastD]
theorem isDiv_pol {ys : List Int} (h : isDiv ys = true) : isPol ys = true := by
  obtain ⟨h1, h2, h3, h4⟩ := isDiv_iff h
  unfold isPol
  rw [← lastD_01 h1, h3]
  simp only [Bool.and_eq_true, List.all_eq_true, decide_eq_true_eq]
  refine ⟨fun y hy => ?_, by omega, by decide⟩
  have := h4 y hy
  exact inB_iff.2 (by omega)
theorem unit_mul {f y : Int} (hf : -1000000000 ≤ f ∧ f ≤ 1000000000) (hy : -1 ≤ y ∧ y ≤ 1) : -1000000000 ≤ f * y ∧ f * y ≤ 1000000000 := by
  rcases (show y = -1 ∨ y = 0 ∨ y = 1 by omega) with rfl | rfl | rfl <;> omega
theorem getD_unit {ys : List Int} (h : ∀ y ∈ ys, -1 ≤ y ∧ y ≤ 1) (k : Nat) : -1 ≤ ys.getD k 0 ∧ ys.getD k 0 ≤ 1 := by
  rw [List.getD_eq_getElem?_getD]
  rcases hg : ys[k]? with _ | x
  · simp
  · exact h x (List.mem_of_getElem? hg)
/-- A round moves a coefficient by no more than 1000000000. -/
theorem upd_div_bd {r ys : List Int} {f b : Int} {z : Nat} (hr : ∀ j : Nat, -b ≤ r.getD j 0 ∧ r.getD j 0 ≤ b) (hf : -1000000000 ≤ f ∧ f ≤ 1000000000) (hy : ∀ y ∈ ys, -1 ≤ y ∧ y ≤ 1) (k : Nat) (hz : z + k ≤ r.length) (j : Nat) :
    -(b + 1000000000) ≤ (upd r (fun k => -(f * ys.getD k 0)) z k).getD j 0 ∧ (upd r (fun k => -(f * ys.getD k 0)) z k).getD j 0 ≤ b + 1000000000 := by
  rw [upd_get _ _ _ _ _ hz]
  have h1 := hr j
  have h2 := unit_mul hf (getD_unit hy (j - z))
  split <;> omega
theorem last_of0 {xs : List Int} {n : Nat} {x : Int} (hx : xs[n]? = some x) (hl : xs.length = n + 1) : xs.getLastD 0 = x := by
  rw [List.getLastD_eq_getLast?, List.getLast?_eq_getElem?, hl]; simp [hx]
theorem divP_len (xs ys : List Int) : (divP xs ys).1.length ≤ 1048576 ∧ (divP xs ys).2.1.length ≤ 1048576 := by
  unfold divP
  split
  · split
    · simp
    · next q r _ =>
      split
      · next h =>
        simp only [Bool.and_eq_true] at h
        have h1 := (isPol_iff h.1).1
        have h2 := (isPol_iff h.2).1
        exact ⟨by show (trimL q).length ≤ _; omega, by show (trimL r).length ≤ _; omega⟩
      · simp
  · simp

theorem own_cap {w : World} {e : TypeId} {B : Nat} {A : Option Addr} {n c : Nat} {vs : List Value} (h : Own w e B A n c vs) : n ≤ c ∧ c ≤ 9223372036854775807 ∧ (A = none → c = 0) := by
  rcases h.2 with ⟨h1, h2⟩ | ⟨g, cap, cur, h1, _, _, h2, h3, _⟩
  · cases h1; exact ⟨by omega, by omega, fun _ => rfl⟩
  · cases h1; unfold maxLen at h3; exact ⟨h2, by omega, by simp⟩

/-- make([]int, max(0, n1 - n2 + 1)). -/
theorem mkDiv (n1 n2 : Nat) (h1 : n1 ≤ 1000000) (W : World) : ∃ m : Nat, n1 + 1 - n2 = m ∧
    ((0 < (n1 : Int) - (n2 : Int) + 1 ∧ (m : Int) = (n1 : Int) - (n2 : Int) + 1 ∧ (Instr.makeSlice 28 (.int .i64 ((n1 : Int) - (n2 : Int) + 1)) (.int .i64 ((n1 : Int) - (n2 : Int) + 1))).run Tryz.prog W = .ok (.slice (some ⟨W.heap.size, 0, none⟩) m m) (W.alloc (.cells (madeCells #[.int .i64 0] m) 3))) ∨
     (¬ 0 < (n1 : Int) - (n2 : Int) + 1 ∧ m = 0 ∧ (Instr.makeSlice 28 (.int .i64 0) (.int .i64 0)).run Tryz.prog W = .ok (.slice (some ⟨W.heap.size, 0, none⟩) m m) (W.alloc (.cells (madeCells #[.int .i64 0] m) 3)))) := by
  rcases Nat.lt_or_ge n1 n2 with h | h
  · exact ⟨0, by omega, Or.inr ⟨by omega, rfl, mkI 0 (by omega) W⟩⟩
  · refine ⟨n1 + 1 - n2, rfl, Or.inl ⟨by omega, by omega, ?_⟩⟩
    have := mkI (n1 + 1 - n2) (by omega) W
    rwa [show ((n1 + 1 - n2 : Nat) : Int) = (n1 : Int) - (n2 : Int) + 1 by omega] at this

end Go.Proofs.YtghfhkbncjgaeaaGreat
