/- Merged: TjI WdI. -/
import Derived.Test.YtghfhkbncjgaeaaGreatMg25
import Derived.Test.YtghfhkbncjgaeaaGreatMg33
import Derived.Test.YtghfhkbncjgaeaaGreatMg26
import Derived.Test.YtghfhkbncjgaeaaGreatMg17
import Derived.Test.YtghfhkbncjgaeaaGreatMg36
import Derived.Test.YtghfhkbncjgaeaaGreatMg6

namespace Go.Proofs.YtghfhkbncjgaeaaGreat
set_option linter.unusedVariables false
open Go.RowKit

set_option maxRecDepth 20000 in
set_option maxHeartbeats 2000000 in
theorem isDiagonal_yes (n : Nat) (A : Option Addr) (c : Nat) (x : List Int) (w : World) (h : Rd w A 2 (iv x)) (hn2 : 2 ≤ n) (hn : n ≤ 10) (h0 : 0 ≤ x.getD 0 0) (h1 : x.getD 0 0 + 2 ≤ x.getD 1 0) (h2 : x.getD 1 0 ≤ (n : Int) - 1) (h3 : ¬ (x.getD 0 0 = 0 ∧ x.getD 1 0 = (n : Int) - 1)) :
    Calls Tryz.prog 132 #[.int .i64 n, .slice A 2 c] w fun e w' => e = .returned (.bool true) ∧ ∃ q, w' = w.drewN q := by
  obtain ⟨b1, o1, rfl, p1, p2⟩ := getD2 h
  obtain ⟨X0, hX0⟩ : ∃ z, z = x.getD 0 0 := ⟨_, rfl⟩
  obtain ⟨X1, hX1⟩ : ∃ z, z = x.getD 1 0 := ⟨_, rfl⟩
  rw [← hX0] at p1 h0 h1 h3
  rw [← hX1] at p2 h1 h2 h3
  have Y1 := Lib.hid (show inB X0 0 ((n : Int) - 1) = true from inB_true (by omega) (by omega))
  have Y2 := Lib.hid (show inB X1 0 ((n : Int) - 1) = true from inB_true (by omega) (by omega))
  have u2 : IntKind.i64.wrap ((n : Int) - 1) = (n : Int) - 1 := IntWalk.i64_in _ (by omega)
  have u3 : IntKind.i64.wrap (X1 - X0) = X1 - X0 := IntWalk.i64_in _ (by omega)
  have q1 : 2 ≤ X1 - X0 := by omega
  have q2 : decide (2 ≤ X1 - X0) = true := decide_eq_true q1
  by_cases c1 : X0 = 0
  case' pos =>
    have c2 : (X0 != 0) = false := by simp [c1]
    have c3 : (X1 != (n : Int) - 1) = true := by rw [bne_iff_ne]; intro hh; exact h3 ⟨c1, hh⟩
  case' neg =>
    have c2 : (X0 != 0) = true := by simp [c1]
  all_goals
    clear c1 h3 hX0 hX1 h
    go_enter Tryz.func132, Tryz.ntmps132
    go_wp2_with fail
    go_quiet (first | (go_at_call_of 33 (Value.int IntKind.i64 X0); exact Calls.quiet_of (within_q _ _ _ true Y1.out _)) | (go_at_call_of 33 (Value.int IntKind.i64 X1); exact Calls.quiet_of (within_q _ _ _ true Y2.out _)))
    go_wp2_with fail
    go_ret
    exact ⟨rfl, _, rfl⟩
set_option maxRecDepth 20000 in
set_option maxHeartbeats 4000000 in
theorem implIsTriangulation_yes (A : Option Addr) (n m c : Nat) (vs : List Value) (d : List (List Int)) (w : World) (h : R2 w A m vs d) (ht : triB n d = true) (hmc : m ≤ c) :
    Calls Tryz.prog 108 #[.int .i64 n, .slice A m c] w fun e w' => e = .returned (.bool true) ∧ ∃ q, w' = w.drewN q := by
  have H := triOk ht
  have hml := h.n_eq
  have hm7 : m ≤ 7 := by rw [hml]; exact H.len7
  have hn2 := H.n2
  have hn10 := H.n10
  have hlen := H.len
  rw [← hml] at hlen
  have HT := Lib.hid H
  have HR := Lib.hid h
  have HM := Lib.hid hml
  have q1 : inB (n : Int) 2 10 = true := inB_true (by omega) (by omega)
  have u1 : IntKind.i64.wrap ((n : Int) - 3) = (n : Int) - 3 := IntWalk.i64_in _ (by omega)
  by_cases h3 : (0 : Int) < (n : Int) - 3
  case' pos => have q2 : ((m : Int) != (n : Int) - 3) = false := by simp; omega
  case' neg => have q2 : ((m : Int) != 0) = false := by simp; omega
  all_goals
    clear h ht H hml hlen
    go_enter Tryz.func108, Tryz.ntmps108
    go_wp2_with fail
    refine (within_any _ _ _ _).mono ?_
    rintro e w' ⟨rfl, rfl⟩
    rw [q1]
    go_wp2_with fail
    go_loopw [5, 6, 8, 22] (fun _ _ _ iv wr => ∃ i q : Nat, i ≤ m ∧ iv = .int .i64 i ∧ wr = w.drewN q) (fun _ _ _ i _ => m - (intOf i).toNat)
    case atStart => exact ⟨0, 0, Nat.zero_le _, rfl, rfl⟩
    case round =>
      obtain ⟨i, q, hi, rfl, rfl⟩ := hrel
      by_cases hlt : i < m
      · obtain ⟨x, hx⟩ : ∃ x, d[i]? = some x := ⟨_, List.getElem?_eq_getElem (by have := HM.out; omega)⟩
        have hx2 := HT.out.two i x hx
        obtain ⟨b, off, Ai, ci, rfl, hc, hrd⟩ := HR.out.at_ hx
        rw [hx2] at hc hrd
        have HRD := Lib.hid hrd
        have HDG := Lib.hid (fun (w : World) (h : Rd w Ai 2 (iv x)) => isDiagonal_yes n Ai ci x w h hn2 hn10 (HT.out.nums hx).1 (HT.out.nums hx).2.1 (HT.out.nums hx).2.2.1 (HT.out.ne i x hx))
        obtain ⟨b1, o1, rfl, p1, p2⟩ := getD2 hrd
        have yb := HT.out.nums hx
        have i0 : (0 : Int) ≤ (i : Int) := by omega
        have i1 : (i : Int) < (m : Int) := by omega
        have i9 : (i : Int) ≤ (c : Int) := by omega
        have HBW : Hid (i = 0 ∨ ∃ y Ay cy, cmpD y x < 0 ∧ Rd w Ay 2 (iv y) ∧ 1 ≤ i ∧ w.cell? ⟨b, off + (i - 1), none⟩ = some (.slice Ay 2 cy)) := by
          refine Lib.hid ?_
          rcases Nat.eq_zero_or_pos i with h0 | h0
          · exact Or.inl h0
          · obtain ⟨y, hy⟩ : ∃ y, d[i - 1]? = some y := ⟨_, List.getElem?_eq_getElem (by have := HM.out; omega)⟩
            obtain ⟨b', off', Ay, cy, hA, hcy, hry⟩ := HR.out.at_ hy
            cases hA
            have hy2 := HT.out.two _ y hy
            rw [hy2] at hcy hry
            have hbf := HT.out.bef (i - 1) y x hy (by rw [Nat.sub_add_cancel h0]; exact hx)
            rw [← cmpD_bef] at hbf
            exact Or.inr ⟨y, Ay, cy, of_decide_eq_true hbf, hry, h0, hcy⟩
        have HXS : Hid (∀ k, k < i → ∃ y Ay cy, xsD y x = false ∧ Rd w Ay 2 (iv y) ∧ w.cell? ⟨b, off + k, none⟩ = some (.slice Ay 2 cy)) := by
          refine Lib.hid fun k hk => ?_
          obtain ⟨y, hy⟩ : ∃ y, d[k]? = some y := ⟨_, List.getElem?_eq_getElem (by have := HM.out; omega)⟩
          obtain ⟨b', off', Ay, cy, hA, hcy, hry⟩ := HR.out.at_ hy
          cases hA
          have hy2 := HT.out.two _ y hy
          rw [hy2] at hcy hry
          exact ⟨y, Ay, cy, HT.out.crs i k x y hk hx hy, hry, hcy⟩
        obtain ⟨x0, hX0⟩ : ∃ z, z = x.getD 0 0 := ⟨_, rfl⟩
        obtain ⟨x1, hX1⟩ : ∃ z, z = x.getD 1 0 := ⟨_, rfl⟩
        rw [← hX0] at p1 yb
        rw [← hX1] at p2 yb
        have HX0 := Lib.hid hX0
        have HX1 := Lib.hid hX1
        clear hx hx2 hrd hX0 hX1
        rcases HBW.out with h0 | ⟨y, Ay, cy, hby, hry, h0, hcy⟩
        case' inl =>
          have z0 : ¬ (0 : Int) < (i : Int) := by omega
          have z5 : ¬ 0 < i := by omega
          have z6 : decide (0 < i) = false := decide_eq_false z5
          have z7 : decide ((0 : Int) < (i : Int)) = false := decide_eq_false z0
          clear HBW h0
          go_wp2_with fail
          refine (HDG.out _ (HRD.out.drewN _)).mono ?_
          rintro e w1 ⟨rfl, qd, hw1⟩
          have HQ := Lib.hid (show ∃ qq, w1 = w.drewN qq from ⟨q + qd, by rw [hw1, World.drewN_drewN]⟩)
          clear hw1
          go_wp2_with fail
        case' inr =>
          have z0 : (0 : Int) < (i : Int) := by omega
          have z5 : 0 < i := h0
          have z6 : decide (0 < i) = true := decide_eq_true h0
          have z7 : decide ((0 : Int) < (i : Int)) = true := decide_eq_true z0
          have z1 : (0 : Int) ≤ (i : Int) - 1 := by omega
          have z2 : (i : Int) - 1 < (m : Int) := by omega
          have z3 : ((i : Int) - 1).toNat = i - 1 := by omega
          have z4 : IntKind.i64.wrap ((i : Int) - 1) = (i : Int) - 1 := IntWalk.i64_in _ (by omega)
          obtain ⟨r, hr⟩ : ∃ r, r = cmpD y x := ⟨_, rfl⟩
          rw [← hr] at hby
          have hr1 : ¬ 0 ≤ r := by omega
          have hr2 : decide (0 ≤ r) = false := decide_eq_false hr1
          have HR0 := Lib.hid hr
          have HRY := Lib.hid hry
          clear HBW hry hr
          go_wp2_with fail
          refine (HDG.out _ (HRD.out.drewN _)).mono ?_
          rintro e w1 ⟨rfl, qd, hw1⟩
          have HQ := Lib.hid (show ∃ qq, w1 = w.drewN qq from ⟨q + qd, by rw [hw1, World.drewN_drewN]⟩)
          have hcy1 : w1.cell? ⟨b, off + (i - 1), none⟩ = some (.slice Ay 2 cy) := by rw [hw1]; exact hcy
          have HRY1 := Lib.hid (show Rd w1 Ay 2 (iv y) by rw [hw1]; exact (HRY.out.drewN _).drewN _)
          have HRD1 := Lib.hid (show Rd w1 (some ⟨b1, o1, none⟩) 2 (iv x) by rw [hw1]; exact (HRD.out.drewN _).drewN _)
          clear hw1
          go_wp2_with fail
          refine (slicesCompare_any _ _ _ _ _ _ _ HRY1.out HRD1.out).mono ?_
          rintro e w' ⟨rfl, rfl⟩
          rw [← HR0.out]
          clear hcy1
          go_wp2_with fail
        all_goals
          obtain ⟨w2, rfl⟩ : ∃ W, W = w1 := ⟨w1, rfl⟩
          go_loopw [8, 49] (fun _ kv wr => ∃ k q : Nat, k ≤ i ∧ kv = .int .i64 k ∧ wr = w.drewN q) (fun _ kv _ => i - (intOf kv).toNat)
          case atStart =>
            obtain ⟨qq, hqq⟩ := HQ.out
            exact ⟨0, qq, Nat.zero_le _, rfl, hqq⟩
          case round =>
            obtain ⟨k, qk, hk, rfl, rfl⟩ := hrel
            by_cases hlk : k < i
            · obtain ⟨v, Av, cv, hxs, hrv, hcv⟩ := HXS.out k hlk
              obtain ⟨b2, o2, rfl, p3, p4⟩ := getD2 hrv
              obtain ⟨y0, hy0⟩ : ∃ z, z = v.getD 0 0 := ⟨_, rfl⟩
              obtain ⟨y1, hy1⟩ : ∃ z, z = v.getD 1 0 := ⟨_, rfl⟩
              unfold xsD at hxs
              rw [← HX0.out, ← HX1.out, ← hy0, ← hy1] at hxs
              rw [← hy0] at p3
              rw [← hy1] at p4
              have k0 : (0 : Int) ≤ (k : Int) := by omega
              have k1 : (k : Int) < (m : Int) := by omega
              have k2 : (k : Int) < (i : Int) := by omega
              clear hrv hy0 hy1
              by_cases g1 : y0 < x0
              · have t1 : decide (y0 < x0) = true := decide_eq_true g1
                have t4 : decide (x0 < y0) = false := decide_eq_false (by omega)
                have g4 : ¬ x0 < y0 := by omega
                by_cases g2 : x0 < y1
                · have t2 : decide (x0 < y1) = true := decide_eq_true g2
                  have g3 : ¬ y1 < x1 := by intro h; rw [t1, t2, decide_eq_true h] at hxs; cases hxs
                  have t3 : decide (y1 < x1) = false := decide_eq_false g3
                  clear hxs
                  go_wp2_with fail
                  go_quiet (fail)
                  go_wp2_with fail
                  go_roundw
                  case rel => exact ⟨k + 1, _, by omega, by go_num, rfl⟩
                  case measure => simp [intOf]; omega
                · have t2 : decide (x0 < y1) = false := decide_eq_false g2
                  clear hxs
                  go_wp2_with fail
                  go_quiet (fail)
                  go_wp2_with fail
                  go_roundw
                  case rel => exact ⟨k + 1, _, by omega, by go_num, rfl⟩
                  case measure => simp [intOf]; omega
              · have t1 : decide (y0 < x0) = false := decide_eq_false g1
                by_cases g4 : x0 < y0
                · have t4 : decide (x0 < y0) = true := decide_eq_true g4
                  by_cases g5 : y0 < x1
                  · have t5 : decide (y0 < x1) = true := decide_eq_true g5
                    have g6 : ¬ x1 < y1 := by intro h; rw [t4, t5, decide_eq_true h] at hxs; simp at hxs
                    have t6 : decide (x1 < y1) = false := decide_eq_false g6
                    clear hxs
                    go_wp2_with fail
                    go_quiet (fail)
                    go_wp2_with fail
                    go_roundw
                    case rel => exact ⟨k + 1, _, by omega, by go_num, rfl⟩
                    case measure => simp [intOf]; omega
                  · have t5 : decide (y0 < x1) = false := decide_eq_false g5
                    clear hxs
                    go_wp2_with fail
                    go_quiet (fail)
                    go_wp2_with fail
                    go_roundw
                    case rel => exact ⟨k + 1, _, by omega, by go_num, rfl⟩
                    case measure => simp [intOf]; omega
                · have t4 : decide (x0 < y0) = false := decide_eq_false g4
                  clear hxs
                  go_wp2_with fail
                  go_quiet (fail)
                  go_wp2_with fail
                  go_roundw
                  case rel => exact ⟨k + 1, _, by omega, by go_num, rfl⟩
                  case measure => simp [intOf]; omega
            · go_wp2_with fail
              go_roundw
              case rel => exact ⟨i + 1, _, by omega, by go_num, rfl⟩
              case measure => simp [intOf]; omega
      · go_wp2_with fail
        go_ret
        exact ⟨rfl, _, rfl⟩

end Go.Proofs.YtghfhkbncjgaeaaGreat

namespace Go.Proofs.YtghfhkbncjgaeaaGreat
set_option linter.unusedVariables false
open Go.RowKit Go.Deep

set_option maxHeartbeats 1000000 in
theorem implFirstReturn_nil (w : World) :
    Calls Tryz.prog 127 #[.string (bs [])] w fun e w' => e = .returned (.tuple #[.string (bs []), .string (bs []), .bool false]) ∧ Below w.heap.size w w' := by
  have HD := Lib.hid (show dyck [] = true by decide)
  go_enter Tryz.func127, Tryz.ntmps127
  go_wp2_with fail
  refine (implIsDyck_any [] _ (by simp)).mono ?_
  rintro e w1 ⟨rfl, hb1⟩
  rw [HD.out]
  go_wp2_with fail
  go_ret3
  exact ⟨rfl, hb1⟩

theorem hts_atW {l : List UInt8} {k : Nat} (h : k ≤ l.length) : (hts l)[k]? = some (hat l k) := by
  unfold hts htsTo
  rw [List.getElem?_map, List.getElem?_range (by omega)]; rfl

set_option maxHeartbeats 1000000 in
theorem implFirstReturn_node (b o : Nat) (a : Unit) (l r : Tr) (w : World) (hn : nodes l + nodes r + 1 ≤ 8) :
    Calls Tryz.prog 127 #[.string (bs (wd (.node b o a l r)))] w fun e w' => e = .returned (.tuple #[.string (bs (wd l)), .string (bs (wd r)), .bool true]) ∧ Below w.heap.size w w' := by
  have HD := Lib.hid (dyck_wd (t := .node b o a l r) hn)
  obtain ⟨L, x, hL, hc⟩ := cutW_of b o a l r
  rw [← hL] at HD ⊢
  have HC := Lib.hid hc
  have hlen := hc.len
  have hxn := hc.xn
  obtain ⟨X, hX⟩ : ∃ X, X = wd l := ⟨_, rfl⟩
  obtain ⟨Y, hY⟩ : ∃ Y, Y = wd r := ⟨_, rfl⟩
  have s1 : List.take (x - 1) L.tail = X := by rw [hX, ← List.drop_one]; exact hc.left
  have s1' : List.take (x - 1) (List.drop 1 L) = X := by rw [hX]; exact hc.left
  have s3 : List.take (L.length - (x + 1)) Y = Y := by rw [List.take_of_length_le]; rw [hY, wd_len]; omega
  have s2 : List.drop (x + 1) L = Y := by rw [hY]; exact hc.right
  rw [← hX, ← hY]
  have HF := Lib.hid (show htsD L = hts L by unfold htsD; rw [if_pos HD.out])
  have hl9 : L.length ≤ 1000000000 := by omega
  have hl16 : L.length ≤ 16 := by omega
  have hx16 : x + 1 ≤ L.length := by omega
  obtain ⟨I, hI⟩ : ∃ I, I = x + 1 := ⟨_, rfl⟩
  have hxI : x = I - 1 := by omega
  have hI1 : 2 ≤ I := by omega
  have hI2 : I ≤ L.length := by omega
  have HZ := Lib.hid (show hat L I = 0 by rw [hI]; exact hc.hz)
  have HP := Lib.hid (show ∀ k, 1 ≤ k → k < I → 1 ≤ hat L k from fun k h1 h2 => hc.hp k h1 (by omega))
  rw [← hI] at s2 s3
  rw [hxI] at s1 s1'
  have f2 : 0 < L.length := by omega
  have f3 : ¬ L = [] := by intro h; rw [h] at f2; simp at f2
  have f4 : L.isEmpty = false := by cases hh : L with
    | nil => exact absurd hh f3
    | cons _ _ => rfl
  have e1 : IntKind.i64.wrap ((I : Int) - 1) = (I : Int) - 1 := IntWalk.i64_in _ (by omega)
  have e2 : ((I : Int) - 1).toNat = I - 1 := by omega
  have b1 : (0 : Int) ≤ (I : Int) - 1 := by omega
  have b1' : (1 : Int) ≤ (I : Int) - 1 := by omega
  have b2 : (I : Int) - 1 ≤ (L.length : Int) := by omega
  have b3 : (I : Int) ≤ (L.length : Int) := by omega
  have b4 : (0 : Int) ≤ (I : Int) := by omega
  clear hX hY hc hL hn hlen hxn hI hxI
  go_enter Tryz.func127, Tryz.ntmps127
  go_wp2_with fail
  refine (implIsDyck_any L _ hl9).mono ?_
  rintro e w1 ⟨rfl, hb1⟩
  rw [HD.out]
  go_wp2_with fail
  refine (implHeightsOf_any L _ hl9).mono ?_
  rintro e w2 ⟨A, m, c, hm, rfl, ho, hb2⟩
  rw [HF.out] at hm ho
  rw [hts_len] at hm
  have HR := Lib.hid ho.rd
  have hb3 := hb1.trans (hb2.mono hb1.size)
  have hm2 : L.length < m := by omega
  have hm3 : m ≤ 17 := by omega
  clear ho hb1 hb2 hm
  go_wp2_with fail
  go_loop [6] (fun i => ∃ k : Nat, 1 ≤ k ∧ k ≤ I ∧ i = .int .i64 k) (fun i => I - (intOf i).toNat)
  case atStart => exact ⟨1, Nat.le_refl _, by omega, rfl⟩
  case round =>
    obtain ⟨k, hk1, hk2, rfl⟩ := hrel
    obtain ⟨bl, off, y, rfl, hy, hcy⟩ := HR.out.ati (show k < m by omega)
    rw [hts_atW (by omega)] at hy
    injection hy with hy
    have HY2 := Lib.hid hy
    have k0 : (0 : Int) ≤ (k : Int) := by omega
    have k1 : (k : Int) < (m : Int) := by omega
    clear hy
    by_cases hkI : k = I
    · subst hkI
      have hy0 : (y != 0) = false := by rw [← HY2.out, HZ.out]; rfl
      go_wp2_with fail
      go_quiet (fail)
      go_wp2_with fail
      go_ret3
      exact ⟨rfl, below_drewN' hb3 _⟩
    · have hy0 : (y != 0) = true := by have := HP.out k hk1 (by omega); rw [HY2.out] at this; simp; omega
      go_wp2_with fail
      go_round
      case rel => exact ⟨k + 1, by omega, by omega, by go_num⟩
      case measure => simp [intOf]; omega

set_option maxHeartbeats 1000000 in
theorem treeOfPath_any (t : Tr) : ∀ w : World, nodes t ≤ 8 →
    Calls Tryz.prog 101 #[.string (bs (wd t))] w fun e w' => ∃ M p, sh M = sh t ∧ M.ptr = .pointer p ∧ e = .returned (.pointer p) ∧ TIn w' M ∧ Below w.heap.size w w' := by
  induction t with
  | nil =>
    intro w _
    show Calls _ _ #[.string (bs [])] _ _
    go_enter Tryz.func101, Tryz.ntmps101
    go_wp2_with fail
    refine (implFirstReturn_nil _).mono ?_
    rintro e w1 ⟨rfl, hb1⟩
    go_wp2_with fail
    go_ret
    exact ⟨.nil, none, rfl, rfl, rfl, trivial, hb1⟩
  | node b o a l r ihl ihr =>
    intro w hn
    have hnn : nodes l + nodes r + 1 ≤ 8 := hn
    have HC := Lib.hid (implFirstReturn_node b o a l r w hnn)
    have HL := Lib.hid (show ∀ w, _ from fun w => ihl w (by omega))
    have HR := Lib.hid (show ∀ w, _ from fun w => ihr w (by omega))
    obtain ⟨X, hX⟩ : ∃ X, X = wd l := ⟨_, rfl⟩
    obtain ⟨Y, hY⟩ : ∃ Y, Y = wd r := ⟨_, rfl⟩
    obtain ⟨L, hL⟩ : ∃ L, L = wd (.node b o a l r) := ⟨_, rfl⟩
    rw [← hX] at HL HC
    rw [← hY] at HR HC
    rw [← hL] at HC ⊢
    clear ihl ihr hX hY hL hn
    go_enter Tryz.func101, Tryz.ntmps101
    go_wp2_with fail
    refine HC.out.mono ?_
    rintro e w1 ⟨rfl, hb1⟩
    go_wp2_with fail
    refine (HL.out _).mono ?_
    rintro e w2 ⟨M1, p1, hs1, hq1, rfl, ht1, hb2⟩
    have HS1 := Lib.hid hs1
    have HQ1 := Lib.hid hq1
    have HT1 := Lib.hid ht1
    clear hs1 hq1 ht1
    go_wp2_with fail
    refine (HR.out _).mono ?_
    rintro e w3 ⟨M2, p2, hs2, hq2, rfl, ht2, hb3⟩
    have HS2 := Lib.hid hs2
    have HQ2 := Lib.hid hq2
    have HT2 := Lib.hid ht2
    clear hs2 hq2 ht2
    go_wp2_with fail
    go_ret
    have ht := TIn.new (HT1.out.below hb3) HT2.out 115
    rw [HQ1.out, HQ2.out] at ht
    have hb4 := hb1.trans (hb2.mono hb1.size)
    have hb5 := hb4.trans (hb3.mono hb4.size)
    exact ⟨.node w3.heap.size 0 () M1 M2, _, by simp [sh, HS1.out, HS2.out], rfl, rfl, ht, hb5.alloc hb5.size _⟩

end Go.Proofs.YtghfhkbncjgaeaaGreat
