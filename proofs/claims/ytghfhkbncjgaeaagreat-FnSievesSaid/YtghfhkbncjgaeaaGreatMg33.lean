/- Merged: FdI SortI. -/
import Derived.Test.YtghfhkbncjgaeaaGreatMg26
import Derived.Test.YtghfhkbncjgaeaaGreatMg24
import Derived.Test.YtghfhkbncjgaeaaGreatMg27
import Derived.Test.YtghfhkbncjgaeaaGreatMg30
import Derived.BigRegion

namespace Go.Proofs.YtghfhkbncjgaeaaGreat
set_option linter.unusedVariables false
open Go.RowKit

def fdT (x : List Int) : List UInt8 := fmtI (x.getD 0 0) ++ fmtI (x.getD 1 0)
structure FdOk (x : List Int) : Prop where
  two : x.length = 2
  a0 : 0 ≤ x.getD 0 0
  a9 : x.getD 0 0 ≤ 9
  b0 : 0 ≤ x.getD 1 0
  b9 : x.getD 1 0 ≤ 9
  ne : x.getD 0 0 ≠ x.getD 1 0
theorem fdT_len {x : List Int} (h : FdOk x) : (fdT x).length ≤ 30 := by
  have h1 := fmtI_len (x := x.getD 0 0) (by have := h.a0; have := h.a9; omega)
  have h2 := fmtI_len (x := x.getD 1 0) (by have := h.b0; have := h.b9; omega)
  unfold fdT
  rw [List.length_append]
  omega
def fdL (d : List (List Int)) (k : Nat) : List (List UInt8) := (d.take k).map fdT
theorem fdL_step {d : List (List Int)} {i : Nat} {x : List Int} (h : d[i]? = some x) : fdL d (i + 1) = fdL d i ++ [fdT x] := by
  obtain ⟨h1, h2⟩ := List.getElem?_eq_some_iff.1 h
  unfold fdL
  rw [List.take_succ_eq_append_getElem h1, h2, List.map_append]; rfl
theorem fdL_text {d : List (List Int)} (h : ∀ x ∈ d, FdOk x) (k : Nat) : ∀ t ∈ fdL d k, t.length ≤ 30 := by
  intro t ht
  obtain ⟨x, hx, rfl⟩ := List.mem_map.1 ht
  exact fdT_len (h x (List.mem_of_mem_take hx))

set_option maxRecDepth 20000 in
set_option maxHeartbeats 4000000 in
theorem implFormatDiagonals_any (A : Option Addr) (m c : Nat) (vs : List Value) (d : List (List Int)) (w : World) (h : R2 w A m vs d) (hd : ∀ x ∈ d, FdOk x) (hm : m ≤ 20) :
    Calls Tryz.prog 70 #[.slice A m c] w fun e w' => e = .returned (.string (bs (fmtD d))) ∧ Below w.heap.size w w' := by
  have hml := h.n_eq
  have HR := Lib.hid h
  have HD := Lib.hid hd
  have HM := Lib.hid hml
  have HTX := Lib.hid (fdL_text hd)
  by_cases h0 : m = 0
  · have HF := Lib.hid (show fmtD d = [110, 111, 110, 101] by
      have : d = [] := List.eq_nil_of_length_eq_zero (by omega)
      rw [this]; rfl)
    obtain rfl : m = 0 := h0
    clear h hd hml
    go_enter Tryz.func70, Tryz.ntmps70
    go_wp2_with fail
    go_ret
    exact ⟨by rw [HF.out]; rfl, Below.refl _ _⟩
  have HF := Lib.hid (show fmtD d = gluTo [32] (fdL d m) m by
    unfold fmtD
    rw [if_neg (by cases d with
      | nil => simp at hml; omega
      | cons a l => simp)]
    unfold fdL
    rw [List.take_of_length_le (by omega), hml]; rfl)
  have n0 : ((m : Int) == 0) = false := by rw [beq_eq_false_iff_ne]; omega
  have n1 : ¬ (20 : Int) < (m : Int) := by omega
  clear h hd hml
  go_enter Tryz.func70, Tryz.ntmps70
  go_wp2_with fail
  go_loopw [3, 5, 15] (fun s _ iv' wr => ∃ (i : Nat) (A1 : Option Addr) (c1 : Nat), i ≤ m ∧ iv' = .int .i64 i ∧ s = .slice A1 i c1 ∧ Own wr 9 w.heap.size A1 i c1 (sv (fdL d i)) ∧ Below w.heap.size w wr) (fun _ _ iv' _ => m - (intOf iv').toNat)
  case atStart => exact ⟨0, _, _, Nat.zero_le _, rfl, rfl, own_emptyS w, (Below.refl _ _).alloc (Nat.le_refl _) _⟩
  case round =>
    obtain ⟨i, A1, c1, hi, rfl, rfl, ho, hb⟩ := hrel
    have O := Lib.hid ho
    have hbs := hb.size
    clear ho
    by_cases hlt : i < m
    · obtain ⟨x, hx⟩ : ∃ x, d[i]? = some x := ⟨_, List.getElem?_eq_getElem (by have := HM.out; omega)⟩
      have hok := HD.out x (List.mem_of_getElem? hx)
      have hx2 := hok.two
      obtain ⟨b, off, Ai, ci, rfl, hc, hrd⟩ := (HR.out.below hb).at_ hx
      rw [hx2] at hc hrd
      obtain ⟨b1, o1, rfl, p1, p2⟩ := getD2 hrd
      have HS := Lib.hid (fdL_step hx)
      have a0 := hok.a0
      have a9 := hok.a9
      have b0 := hok.b0
      have b9 := hok.b9
      have hne := hok.ne
      have HT := Lib.hid (show fdT x = fmtI (x.getD 0 0) ++ fmtI (x.getD 1 0) from rfl)
      obtain ⟨X0, hX0⟩ : ∃ z, z = x.getD 0 0 := ⟨_, rfl⟩
      obtain ⟨X1, hX1⟩ : ∃ z, z = x.getD 1 0 := ⟨_, rfl⟩
      rw [← hX0] at p1 a0 a9 hne HT
      rw [← hX1] at p2 b0 b9 hne HT
      have q1 : inB X0 0 9 = true := inB_true a0 a9
      have q2 : inB X1 0 9 = true := inB_true b0 b9
      have f1 := fmtI_len (x := X0) (by omega)
      have f2 := fmtI_len (x := X1) (by omega)
      obtain ⟨t1, ht1⟩ : ∃ t, t = fmtI X0 := ⟨_, rfl⟩
      obtain ⟨t2, ht2⟩ : ∃ t, t = fmtI X1 := ⟨_, rfl⟩
      rw [← ht1] at f1 HT
      rw [← ht2] at f2 HT
      have HC1 := Lib.hid (show ∀ w, Calls Tryz.prog 96 #[.int .i64 X0] w fun e w' => e = .returned (.string (bs t1)) ∧ Below w.heap.size w w' from fun w => by rw [ht1]; exact implFormatInt_any X0 (by omega) w)
      have HC2 := Lib.hid (show ∀ w, Calls Tryz.prog 96 #[.int .i64 X1] w fun e w' => e = .returned (.string (bs t2)) ∧ Below w.heap.size w w' from fun w => by rw [ht2]; exact implFormatInt_any X1 (by omega) w)
      have z1 : (bs t1).size ≤ 12 := f1
      have z3 : ¬ 9223372036854775807 < t1.length + t2.length := by omega
      have z2 : (bs t2).size ≤ 12 := f2
      have hb1l : b1 < wr.heap.size := World.block_lt_of_cell? _ _ p1
      have hb1w : b1 < w.heap.size := by
        obtain ⟨b', off', Aj, cj, hA, hc', hrd'⟩ := HR.out.at_ hx
        cases hA
        have e1 := (hb.cell (p := ⟨b, off + i, none⟩) (World.block_lt_of_cell? _ _ hc')).trans hc'
        rw [hc] at e1
        injection e1 with e1
        injection e1 with e2 e3 e4
        rw [← e2, ← e3] at hrd'
        obtain ⟨b2, o2, e5, p5, _⟩ := getD2 hrd'
        injection e5 with e5
        injection e5 with e6
        rw [e6]
        exact World.block_lt_of_cell? _ _ p5
      clear hx hok hx2 hrd hX0 hX1 ht1 ht2
      go_wp2_with fail
      refine (within_any _ _ _ _).mono ?_
      rintro e w' ⟨rfl, rfl⟩
      rw [q1]
      go_wp2_with fail
      refine (within_any _ _ _ _).mono ?_
      rintro e w' ⟨rfl, rfl⟩
      rw [q2]
      go_wp2_with fail
      go_region_held3 (fun w' => w'.cell? ⟨b1, o1, none⟩ = some (.int .i64 X0) ∧ w'.cell? ⟨b1, o1 + 1, none⟩ = some (.int .i64 X1)) (first | go_keep | exact ⟨by assumption, by assumption⟩)
        (first | (go_at_call_of 96 (Value.int IntKind.i64 X0); refine (HC1.out _).mono ?_; rintro e w2 ⟨rfl, hb2⟩; have k1 := (hb2.cell (p := ⟨b1, o1, none⟩) hb1l).trans p1; have k2 := (hb2.cell (p := ⟨b1, o1 + 1, none⟩) hb1l).trans p2; have hs2 : wr.heap.size ≤ w2.heap.size := hb2.size) | (go_at_call_of 96 (Value.int IntKind.i64 X1); refine (HC2.out _).mono ?_; rintro e w3 ⟨rfl, hb3⟩; have k3 := (hb3.cell (p := ⟨b1, o1, none⟩) (show b1 < w2.heap.size by omega)).trans k1; have k4 := (hb3.cell (p := ⟨b1, o1 + 1, none⟩) (show b1 < w2.heap.size by omega)).trans k2; have hs3 : w2.heap.size ≤ w3.heap.size := hb3.size; have hb4 : Below wr.heap.size wr w3 := ((show Below wr.heap.size wr w2 from ⟨hb2.os, hb2.tape, hb2.output, hb2.size, hb2.block⟩).trans (hb3.mono hs2)); have hb5 := hb.trans (hb4.mono hbs); have O3 := Lib.hid (O.out.below hb4)) | (refine stepS _ (by rfl) _ _ (by rfl) w.heap.size A1 i c1 _ (by rfl) (O3.out.alloc _) w3.heap.size (bs (t1 ++ t2)) (by rfl) (by simp) (by omega) (by omega) ?_; intro A4 c4 w4 hown4 hgr4 hb6; have k5 := (hb6.cell (p := ⟨b1, o1, none⟩) hb1w).trans ((World.cell?_alloc_lt w3 _ _ (show b1 < w3.heap.size by omega)).trans k3); have k6 := (hb6.cell (p := ⟨b1, o1 + 1, none⟩) hb1w).trans ((World.cell?_alloc_lt w3 _ _ (show b1 < w3.heap.size by omega)).trans k4)))
      have O4 := Lib.hid hown4
      have hb7 := (hb5.alloc (by omega) _).trans hb6
      clear hown4 hgr4 hb6 hb4 hb3 hb2
      go_wp2_with fail
      go_roundw
      case rel => exact ⟨i + 1, A4, c4, by omega, by go_num, rfl, by rw [HS.out, sv_snoc, HT.out]; exact O4.out, hb7⟩
      case measure => simp [intOf]; omega
    · have HK := Lib.hid (show gluTo [32] (fdL d i) i = fmtD d by rw [HF.out, show m = i by omega])
      have HT := Lib.hid (HTX.out i)
      go_wp2_with fail
      refine (glued_any _ _ _ [32] (fdL d i) 30 _ O.out.rd HT.out (by simp) (by omega) (by omega)).mono ?_
      rintro e w1 ⟨rfl, rfl⟩
      go_wp2_with fail
      go_ret
      exact ⟨ret_str (by rw [HK.out]), hb⟩

end Go.Proofs.YtghfhkbncjgaeaaGreat

namespace Go.Proofs.YtghfhkbncjgaeaaGreat
set_option linter.unusedVariables false
open Go.RowKit

def cmpI (x y : Int) : Int := if x < y then -1 else if y < x then 1 else 0
def cmpD (a b : List Int) : Int := if cmpI (a.getD 0 0) (b.getD 0 0) ≠ 0 then cmpI (a.getD 0 0) (b.getD 0 0) else cmpI (a.getD 1 0) (b.getD 1 0)
theorem cmpI_cases (x y : Int) : (x < y ∧ cmpI x y = -1) ∨ (x = y ∧ cmpI x y = 0) ∨ (y < x ∧ cmpI x y = 1) := by
  unfold cmpI
  rcases Int.lt_trichotomy x y with h | h | h
  · exact Or.inl ⟨h, by rw [if_pos h]⟩
  · exact Or.inr (Or.inl ⟨h, by rw [if_neg (by omega), if_neg (by omega)]⟩)
  · exact Or.inr (Or.inr ⟨h, by rw [if_neg (by omega), if_pos h]⟩)
theorem cmpD_bef (a b : List Int) : decide (cmpD a b < 0) = befD a b := by
  unfold cmpD befD
  rcases cmpI_cases (a.getD 0 0) (b.getD 0 0) with ⟨h1, e1⟩ | ⟨h1, e1⟩ | ⟨h1, e1⟩
  · rw [e1, if_pos (by decide), decide_eq_true h1]; rfl
  · rw [e1, if_neg (by decide), decide_eq_false (show ¬ a.getD 0 0 < b.getD 0 0 by omega), decide_eq_true h1, Bool.false_or, Bool.true_and]
    rcases cmpI_cases (a.getD 1 0) (b.getD 1 0) with ⟨h2, e2⟩ | ⟨h2, e2⟩ | ⟨h2, e2⟩
    · rw [e2, decide_eq_true h2]; rfl
    · rw [e2, decide_eq_false (show ¬ a.getD 1 0 < b.getD 1 0 by omega)]; rfl
    · rw [e2, decide_eq_false (show ¬ a.getD 1 0 < b.getD 1 0 by omega)]; rfl
  · rw [e1, if_pos (by decide), decide_eq_false (show ¬ a.getD 0 0 < b.getD 0 0 by omega), decide_eq_false (show ¬ a.getD 0 0 = b.getD 0 0 by omega)]; rfl

theorem isNaN_any (x : Int) (w : World) : Calls Tryz.prog 150 #[.int .i64 x] w fun e w' => e = .returned (.bool false) ∧ w = w' := by
  have e1 : (x != x) = false := by simp
  go_enter Tryz.func150, Tryz.ntmps150
  go_wp2_with fail
  go_ret
  exact ⟨rfl, rfl⟩
theorem cmpCompare_any (x y : Int) (w : World) : Calls Tryz.prog 131 #[.int .i64 x, .int .i64 y] w fun e w' => e = .returned (.int .i64 (cmpI x y)) ∧ w = w' := by
  rcases cmpI_cases x y with ⟨h1, e1⟩ | ⟨h1, e1⟩ | ⟨h1, e1⟩
  case' inr.inl =>
    have h2 : ¬ x < y := by omega
    have h3 : ¬ y < x := by omega
    clear h1
  case' inr.inr =>
    have h2 : ¬ x < y := by omega
  all_goals
    have HE := Lib.hid e1
    clear e1
    go_enter Tryz.func131, Tryz.ntmps131
    go_wp2_with fail
    refine (isNaN_any _ _).mono ?_
    rintro e w' ⟨rfl, rfl⟩
    go_wp2_with fail
    refine (isNaN_any _ _).mono ?_
    rintro e w' ⟨rfl, rfl⟩
    go_wp2_with fail
    go_ret
    exact ⟨ret_int (by rw [HE.out]), rfl⟩
set_option maxRecDepth 20000 in
set_option maxHeartbeats 1000000 in
theorem slicesCompare_any (A1 : Option Addr) (c1 : Nat) (a : List Int) (A2 : Option Addr) (c2 : Nat) (b : List Int) (w : World) (ha : Rd w A1 2 (iv a)) (hb : Rd w A2 2 (iv b)) :
    Calls Tryz.prog 107 #[.slice A1 2 c1, .slice A2 2 c2] w fun e w' => e = .returned (.int .i64 (cmpD a b)) ∧ w = w' := by
  obtain ⟨b1, o1, rfl, p1, p2⟩ := getD2 ha
  obtain ⟨b2, o2, rfl, p3, p4⟩ := getD2 hb
  have hcd : cmpD a b = if cmpI (a.getD 0 0) (b.getD 0 0) ≠ 0 then cmpI (a.getD 0 0) (b.getD 0 0) else cmpI (a.getD 1 0) (b.getD 1 0) := rfl
  obtain ⟨x0, hx0⟩ : ∃ x, x = a.getD 0 0 := ⟨_, rfl⟩
  obtain ⟨x1, hx1⟩ : ∃ x, x = a.getD 1 0 := ⟨_, rfl⟩
  obtain ⟨y0, hy0⟩ : ∃ x, x = b.getD 0 0 := ⟨_, rfl⟩
  obtain ⟨y1, hy1⟩ : ∃ x, x = b.getD 1 0 := ⟨_, rfl⟩
  rw [← hx0, ← hx1, ← hy0, ← hy1] at hcd
  rw [← hx0] at p1
  rw [← hx1] at p2
  rw [← hy0] at p3
  rw [← hy1] at p4
  obtain ⟨r0, hr0⟩ : ∃ r, r = cmpI x0 y0 := ⟨_, rfl⟩
  obtain ⟨r1, hr1⟩ : ∃ r, r = cmpI x1 y1 := ⟨_, rfl⟩
  rw [← hr0, ← hr1] at hcd
  have H0 := Lib.hid hr0
  have H1 := Lib.hid hr1
  have HC := Lib.hid hcd
  clear ha hb hx0 hx1 hy0 hy1 hr0 hr1 hcd
  go_enter Tryz.func107, Tryz.ntmps107
  go_wp2_with fail
  go_loop [5, 6, 7, 8, 11] (fun _ _ _ _ iv => ∃ k : Nat, k ≤ 2 ∧ iv = .int .i64 k ∧ Hid (1 ≤ k → r0 = 0) ∧ Hid (2 ≤ k → r1 = 0)) (fun _ _ _ _ iv => 2 - (intOf iv).toNat)
  case atStart => exact ⟨0, by omega, rfl, Lib.hid fun h => by omega, Lib.hid fun h => by omega⟩
  case round =>
    obtain ⟨k, hk, rfl, K0, K1⟩ := hrel
    by_cases h0 : k = 0
    · obtain rfl : k = 0 := h0
      by_cases hz : r0 = 0
      · have e1 : (r0 != 0) = false := by simp [hz]
        have HZ := Lib.hid hz
        clear hz
        go_wp2_with fail
        refine (cmpCompare_any _ _ _).mono ?_
        rintro e w' ⟨rfl, rfl⟩
        rw [← H0.out]
        go_wp2_with fail
        go_round
        case rel => exact ⟨1, by omega, by go_num, Lib.hid fun _ => HZ.out, Lib.hid fun h => by omega⟩
        case measure => simp [intOf]
      · have e1 : (r0 != 0) = true := by simp [hz]
        have HF := Lib.hid (show cmpD a b = r0 by rw [HC.out, if_pos hz])
        clear hz
        go_wp2_with fail
        refine (cmpCompare_any _ _ _).mono ?_
        rintro e w' ⟨rfl, rfl⟩
        rw [← H0.out]
        go_wp2_with fail
        go_ret
        exact ⟨ret_int (by rw [HF.out]), rfl⟩
    · by_cases h1 : k = 1
      · obtain rfl : k = 1 := h1
        have HZ := Lib.hid (K0.out (by omega))
        by_cases hz : r1 = 0
        · have e1 : (r1 != 0) = false := by simp [hz]
          have HZ1 := Lib.hid hz
          clear hz
          go_wp2_with fail
          refine (cmpCompare_any _ _ _).mono ?_
          rintro e w' ⟨rfl, rfl⟩
          rw [← H1.out]
          go_wp2_with fail
          go_round
          case rel => exact ⟨2, by omega, by go_num, Lib.hid fun _ => HZ.out, Lib.hid fun _ => HZ1.out⟩
          case measure => simp [intOf]
        · have e1 : (r1 != 0) = true := by simp [hz]
          have HF := Lib.hid (show cmpD a b = r1 by rw [HC.out, if_neg (by simp [HZ.out])])
          clear hz
          go_wp2_with fail
          refine (cmpCompare_any _ _ _).mono ?_
          rintro e w' ⟨rfl, rfl⟩
          rw [← H1.out]
          go_wp2_with fail
          go_ret
          exact ⟨ret_int (by rw [HF.out]), rfl⟩
      · obtain rfl : k = 2 := by omega
        have HF := Lib.hid (show cmpD a b = 0 by rw [HC.out, if_neg (by simp [K0.out (by omega)])]; exact K1.out (by omega))
        go_wp2_with fail
        go_ret
        exact ⟨ret_int (by rw [HF.out]), rfl⟩

end Go.Proofs.YtghfhkbncjgaeaaGreat
