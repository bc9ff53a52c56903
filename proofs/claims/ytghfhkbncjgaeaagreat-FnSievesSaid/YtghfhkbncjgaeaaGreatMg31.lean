/- Merged: WdS TtS. -/
import Derived.Test.YtghfhkbncjgaeaaGreatMg17
import Derived.Test.YtghfhkbncjgaeaaGreatMg28
import Derived.Test.YtghfhkbncjgaeaaGreatMg30
import Derived.Test.YtghfhkbncjgaeaaGreatMg26

namespace Go.Proofs.YtghfhkbncjgaeaaGreat
set_option linter.unusedVariables false
open Go.RowKit Go.Deep

set_option maxHeartbeats 1000000 in
theorem l2Cut_any (L : List UInt8) (x : Nat) (w : World) (hx : x + 1 ≤ L.length) (hl : L.length ≤ 1000000) (hz : hat L (x + 1) = 0) (hp : ∀ k, 1 ≤ k → k ≤ x → 1 ≤ hat L k) :
    Calls Tryz.prog 134 #[.string (bs L)] w fun e w' => e = .returned (.int .i64 x) ∧ w = w' := by
  have HZ := Lib.hid hz
  have HP := Lib.hid hp
  clear hz hp
  go_enter Tryz.func134, Tryz.ntmps134
  go_wp2_with fail
  go_loop [3, 4] (fun t i => ∃ k : Nat, k ≤ x ∧ i = .int .i64 k ∧ t = .int .i64 (hat L k)) (fun _ i => L.length - (intOf i).toNat)
  case atStart => exact ⟨0, Nat.zero_le _, rfl, rfl⟩
  case round =>
    obtain ⟨k, hk, rfl, rfl⟩ := hrel
    have hbd := hat_bd L k
    obtain ⟨H, hH⟩ : ∃ H, H = hat L k := ⟨_, rfl⟩
    rw [← hH] at hbd ⊢
    have HH := Lib.hid hH
    clear hH
    have hlt : k < L.length := by omega
    obtain ⟨c, hc⟩ : ∃ c, L[k] = c := ⟨_, rfl⟩
    have HC := Lib.hid (show L[k]? = some c by rw [List.getElem?_eq_getElem hlt, hc])
    by_cases hu : c = 117
    · subst hu
      have e1 : (((L[k]'hlt).toNat : Int) == 117) = true := by rw [hc]; rfl
      have HS := Lib.hid (show hat L (k + 1) = H + 1 by rw [hat_u HC.out, HH.out])
      clear hc
      by_cases hkx : k = x
      · subst hkx
        have e2 : (H + 1 == 0) = true := by have := HZ.out; rw [HS.out] at this; simp [this]
        go_wp2_with fail
        go_ret
        exact ⟨rfl, rfl⟩
      · have e2 : (H + 1 == 0) = false := by have := HP.out (k + 1) (by omega) (by omega); rw [HS.out] at this; rw [beq_eq_false_iff_ne]; omega
        go_wp2_with fail
        go_round
        case rel => exact ⟨k + 1, by omega, by go_num, by rw [HS.out]⟩
        case measure => simp [intOf]; omega
    · have e1 : (((L[k]'hlt).toNat : Int) == 117) = false := by rw [hc]; exact u8_ne hu
      have HS := Lib.hid (show hat L (k + 1) = H - 1 by rw [hat_d HC.out hu, HH.out])
      clear hc hu
      by_cases hkx : k = x
      · subst hkx
        have e2 : (H - 1 == 0) = true := by have := HZ.out; rw [HS.out] at this; simp [this]
        go_wp2_with fail
        go_ret
        exact ⟨rfl, rfl⟩
      · have e2 : (H - 1 == 0) = false := by have := HP.out (k + 1) (by omega) (by omega); rw [HS.out] at this; rw [beq_eq_false_iff_ne]; omega
        go_wp2_with fail
        go_round
        case rel => exact ⟨k + 1, by omega, by go_num, by rw [HS.out]⟩
        case measure => simp [intOf]; omega

set_option maxHeartbeats 1000000 in
theorem l6Binary_any (t : Tr) : ∀ w : World, nodes t ≤ 100000 →
    Calls Tryz.prog 117 #[.string (bs (wd t))] w fun e w' => e = .returned (.string (bs (tx t))) ∧ ∃ n, w' = w.drewN n := by
  induction t with
  | nil =>
    intro w _
    show Calls _ _ #[.string (bs [])] _ _
    go_enter Tryz.func117, Tryz.ntmps117
    go_wp2_with fail
    go_ret
    exact ⟨rfl, 0, rfl⟩
  | node b o a l r ihl ihr =>
    intro w hn
    have hnn : nodes l + nodes r + 1 ≤ 100000 := hn
    obtain ⟨L, x, hL, hc⟩ := cutW_of b o a l r
    rw [← hL]
    have HC := Lib.hid hc
    have hlen := hc.len
    have hxn := hc.xn
    have hL9 : L.length ≤ 1000000 := by omega
    obtain ⟨X, hX⟩ : ∃ X, X = wd l := ⟨_, rfl⟩
    obtain ⟨Y, hY⟩ : ∃ Y, Y = wd r := ⟨_, rfl⟩
    have s1 : List.take (x - 1) L.tail = X := by rw [hX, ← List.drop_one]; exact hc.left
    have s1' : List.take (x - 1) (List.drop 1 L) = X := by rw [hX]; exact hc.left
    have s3 : List.take (L.length - (x + 1)) Y = Y := by rw [List.take_of_length_le]; rw [hY, wd_len]; omega
    have s2 : List.drop (x + 1) L = Y := by rw [hY]; exact hc.right
    have HX := Lib.hid hX
    have HY := Lib.hid hY
    have ml := tx_len l
    have mr := tx_len r
    obtain ⟨P, hP⟩ : ∃ P, P = tx l := ⟨_, rfl⟩
    obtain ⟨Q, hQ⟩ : ∃ Q, Q = tx r := ⟨_, rfl⟩
    rw [← hP] at ml
    rw [← hQ] at mr
    have hP3 : P.length ≤ 3000001 := by omega
    have hQ3 : Q.length ≤ 3000001 := by omega
    have hil : ∀ w, Calls Tryz.prog 117 #[.string (bs X)] w fun e w' => e = .returned (.string (bs P)) ∧ ∃ n, w' = w.drewN n := by rw [hX, hP]; exact fun w => ihl w (by omega)
    have hir : ∀ w, Calls Tryz.prog 117 #[.string (bs Y)] w fun e w' => e = .returned (.string (bs Q)) ∧ ∃ n, w' = w.drewN n := by rw [hY, hQ]; exact fun w => ihr w (by omega)
    have HIL := Lib.hid hil
    have HIR := Lib.hid hir
    have HR := Lib.hid (show tx (.node b o a l r) = [40] ++ P ++ Q ++ [41] by rw [hP, hQ]; rfl)
    have e1 : IntKind.i64.wrap ((x : Int) + 1) = (x : Int) + 1 := IntWalk.i64_in _ (by omega)
    have e2 : ((x : Int) + 1).toNat = x + 1 := by omega
    have b1 : (0 : Int) ≤ (x : Int) + 1 := by omega
    have b2 : (x : Int) + 1 ≤ (L.length : Int) := by omega
    have b4 : (0 : Int) ≤ (x : Int) := by omega
    have b5 : (1 : Int) ≤ (x : Int) := by omega
    have b6 : (x : Int) ≤ (L.length : Int) := by omega
    have f2 : 0 < L.length := by omega
    have f3 : ¬ L = [] := by intro h; rw [h] at f2; simp at f2
    have f4 : L.isEmpty = false := by cases hh : L with
      | nil => exact absurd hh f3
      | cons _ _ => rfl
    have f6 : x ≤ L.length := by omega
    have f7 : (1 : Int) ≤ (L.length : Int) := by omega
    have f8 : x + 1 ≤ L.length := by omega
    have z1 : ¬ 9223372036854775807 < 1 + P.length := by omega
    have z2 : ¬ 9223372036854775807 < 1 + P.length + Q.length := by omega
    have z3 : ¬ 9223372036854775807 < 1 + P.length + Q.length + 1 := by omega
    have z4 : ¬ 9223372036854775807 < P.length + 1 := by omega
    have z5 : ¬ 9223372036854775807 < P.length + 1 + Q.length := by omega
    have z6 : ¬ 9223372036854775807 < P.length + 1 + Q.length + 1 := by omega
    clear hil hir hX hY hc hL ihl ihr hlen hxn hn hnn hP hQ ml mr
    go_enter Tryz.func117, Tryz.ntmps117
    go_wp2_with fail
    refine (l2Cut_any _ x _ f8 hL9 HC.out.hz HC.out.hp).mono ?_
    rintro e w' ⟨rfl, rfl⟩
    go_wp2_with fail
    go_quiet (first | (go_at_call_of 117 (Value.string (bs X)); exact Calls.quiet_of (HIL.out _)) | (go_at_call_of 117 (Value.string (bs Y)); exact Calls.quiet_of (HIR.out _)))
    go_wp2_with fail
    go_ret
    refine ⟨?_, _, rfl⟩
    rw [HR.out]
    show _ = _
    rw [bs_lit, bs_lit, bs_append, bs_append, bs_append]
    rfl

end Go.Proofs.YtghfhkbncjgaeaaGreat

namespace Go.Proofs.YtghfhkbncjgaeaaGreat
set_option linter.unusedVariables false
open Go.RowKit Go.Deep

set_option maxRecDepth 20000 in
set_option maxHeartbeats 2000000 in
theorem l7Side_any (n m c : Nat) (A : Option Addr) (vs : List Value) (d : List (List Int)) (a b : Nat) (ai bi : Int) (hai : ai = a) (hbi : bi = b) (w : World) (h : R2 w A m vs d) (h2 : ∀ r ∈ d, r.length = 2) (hn : n ≤ 10) (ha : a ≤ 100) (hb : b ≤ 100) (hm : m ≤ 100) (hn1 : 1 ≤ n) :
    Calls Tryz.prog 138 #[.int .i64 n, .slice A m c, .int .i64 ai, .int .i64 bi] w fun e w' => e = .returned (.bool (sideB n d a b)) ∧ w = w' := by
  subst hai hbi
  have HR := Lib.hid h
  have H2 := Lib.hid h2
  have HM := Lib.hid h.n_eq
  have u1 : IntKind.i64.wrap ((a : Int) + 1) = (a : Int) + 1 := IntWalk.i64_in _ (by omega)
  have u2 : IntKind.i64.wrap ((n : Int) - 1) = (n : Int) - 1 := IntWalk.i64_in _ (by omega)
  clear h h2
  by_cases c1 : b = a + 1
  · have HF := Lib.hid (show sideB n d a b = true by unfold sideB; rw [decide_eq_true c1]; rfl)
    have t1 : ((b : Int) == (a : Int) + 1) = true := by rw [beq_iff_eq]; omega
    clear c1
    go_enter Tryz.func138, Tryz.ntmps138
    go_wp2_with fail
    go_ret
    exact ⟨ret_bool (by rw [HF.out]), rfl⟩
  have t1 : ((b : Int) == (a : Int) + 1) = false := by rw [beq_eq_false_iff_ne]; omega
  by_cases c2 : a = 0 ∧ b + 1 = n
  · have HF := Lib.hid (show sideB n d a b = true by unfold sideB; rw [decide_eq_true c2.1, decide_eq_true c2.2]; simp)
    have t2 : ((a : Int) == 0) = true := by rw [beq_iff_eq]; omega
    have t3 : ((b : Int) == (n : Int) - 1) = true := by rw [beq_iff_eq]; omega
    clear c1 c2
    go_enter Tryz.func138, Tryz.ntmps138
    go_wp2_with fail
    go_ret
    exact ⟨ret_bool (by rw [HF.out]), rfl⟩
  have HSD := Lib.hid (show sideB n d a b = d.any (fun x => decide (x.getD 0 0 = (a : Int)) && decide (x.getD 1 0 = (b : Int))) by
    unfold sideB
    rw [decide_eq_false c1, Bool.false_or]
    have : (decide (a = 0) && decide (b + 1 = n)) = false := by
      rw [Bool.and_eq_false_iff, decide_eq_false_iff_not, decide_eq_false_iff_not]
      by_cases h : a = 0
      · exact Or.inr fun h' => c2 ⟨h, h'⟩
      · exact Or.inl h
    rw [this, Bool.false_or])
  by_cases c3 : a = 0
  case' pos =>
    have t2 : ((a : Int) == 0) = true := by rw [beq_iff_eq]; omega
    have t3 : ((b : Int) == (n : Int) - 1) = false := by rw [beq_eq_false_iff_ne]; intro hh; exact c2 ⟨c3, by omega⟩
  case' neg =>
    have t2 : ((a : Int) == 0) = false := by rw [beq_eq_false_iff_ne]; omega
  all_goals
    clear c1 c2 c3
    go_enter Tryz.func138, Tryz.ntmps138
    go_wp2_with fail
    go_loop [9] (fun iv => ∃ i : Nat, i ≤ m ∧ iv = .int .i64 i ∧ Hid ((d.take i).any (fun x => decide (x.getD 0 0 = (a : Int)) && decide (x.getD 1 0 = (b : Int))) = false)) (fun iv => m - (intOf iv).toNat)
    case atStart => exact ⟨0, Nat.zero_le _, rfl, Lib.hid rfl⟩
    case round =>
      obtain ⟨i, hi, rfl, HA⟩ := hrel
      by_cases hlt : i < m
      · obtain ⟨x, hx⟩ : ∃ x, d[i]? = some x := ⟨_, List.getElem?_eq_getElem (by have := HM.out; omega)⟩
        have hx2 := H2.out x (List.mem_of_getElem? hx)
        obtain ⟨bq, off, Ai, ci, rfl, hc, hrd⟩ := HR.out.at_ hx
        rw [hx2] at hc hrd
        obtain ⟨b1, o1, rfl, p1, p2⟩ := getD2 hrd
        have hxm := List.mem_of_getElem? hx
        have HTK := Lib.hid (show (d.take (i + 1)).any (fun x => decide (x.getD 0 0 = (a : Int)) && decide (x.getD 1 0 = (b : Int))) = (decide (x.getD 0 0 = (a : Int)) && decide (x.getD 1 0 = (b : Int))) by
          obtain ⟨h1, h2⟩ := List.getElem?_eq_some_iff.1 hx
          rw [List.take_succ_eq_append_getElem h1, h2, List.any_append, HA.out, Bool.false_or]; simp)
        have HAL := Lib.hid (fun (hp : (decide (x.getD 0 0 = (a : Int)) && decide (x.getD 1 0 = (b : Int))) = true) => (List.any_eq_true.2 ⟨x, hxm, hp⟩ : d.any (fun x => decide (x.getD 0 0 = (a : Int)) && decide (x.getD 1 0 = (b : Int))) = true))
        obtain ⟨X0, hX0⟩ : ∃ z, z = x.getD 0 0 := ⟨_, rfl⟩
        obtain ⟨X1, hX1⟩ : ∃ z, z = x.getD 1 0 := ⟨_, rfl⟩
        rw [← hX0] at p1 HTK HAL
        rw [← hX1] at p2 HTK HAL
        have i0 : (0 : Int) ≤ (i : Int) := by omega
        have i1 : (i : Int) < (m : Int) := by omega
        clear hx hx2 hrd hX0 hX1 hxm
        by_cases e1 : X0 = (a : Int)
        · have q1 : (X0 == (a : Int)) = true := by simp [e1]
          by_cases e2 : X1 = (b : Int)
          · have q2 : (X1 == (b : Int)) = true := by simp [e2]
            have HF := Lib.hid (show sideB n d a b = true by rw [HSD.out]; exact HAL.out (by rw [decide_eq_true e1, decide_eq_true e2]; rfl))
            clear e1 e2
            go_wp2_with fail
            go_ret
            exact ⟨ret_bool (by rw [HF.out]), rfl⟩
          · have q2 : (X1 == (b : Int)) = false := by simp [e2]
            have HN := Lib.hid (show (d.take (i + 1)).any (fun x => decide (x.getD 0 0 = (a : Int)) && decide (x.getD 1 0 = (b : Int))) = false by rw [HTK.out, decide_eq_false e2, Bool.and_false])
            clear e1 e2
            go_wp2_with fail
            go_round
            case rel => exact ⟨i + 1, by omega, by go_num, HN⟩
            case measure => simp [intOf]; omega
        · have q1 : (X0 == (a : Int)) = false := by simp [e1]
          have HN := Lib.hid (show (d.take (i + 1)).any (fun x => decide (x.getD 0 0 = (a : Int)) && decide (x.getD 1 0 = (b : Int))) = false by rw [HTK.out, decide_eq_false e1, Bool.false_and])
          clear e1
          go_wp2_with fail
          go_round
          case rel => exact ⟨i + 1, by omega, by go_num, HN⟩
          case measure => simp [intOf]; omega
      · have HF := Lib.hid (show sideB n d a b = false by rw [HSD.out, ← HA.out, List.take_of_length_le (by have := HM.out; omega)])
        go_wp2_with fail
        go_ret
        exact ⟨ret_bool (by rw [HF.out]), rfl⟩

theorem treeD_len (n : Nat) (d : List (List Int)) : ∀ (f a b : Nat), a < b → (treeD n d f a b).length + 2 ≤ 4 * (b - a)
  | 0, a, b, h => by simp [treeD]; omega
  | f + 1, a, b, h => by
    rw [treeD]
    split
    · simp; omega
    · next hb =>
      rcases hm : midD n d a b with _ | j
      · simp; omega
      · unfold midD at hm
        have hj := List.mem_range.1 (List.mem_of_find?_eq_some hm)
        have h1 := treeD_len n d f a (a + 1 + j) (by omega)
        have h2 := treeD_len n d f (a + 1 + j) b (by omega)
        simp only [List.length_cons, List.length_append, List.length_nil]
        omega

set_option maxRecDepth 20000 in
set_option maxHeartbeats 2000000 in
theorem l7Tree_any (n m c : Nat) (A : Option Addr) (vs : List Value) (d : List (List Int)) (w : World) (h : R2 w A m vs d) (h2 : ∀ r ∈ d, r.length = 2) (hn : n ≤ 10) (hm : m ≤ 100) (hn1 : 1 ≤ n) :
    ∀ (f a b : Nat) (ai bi : Int), ai = a → bi = b → a < b → b - a ≤ f → b ≤ 100 → Calls Tryz.prog 123 #[.int .i64 n, .slice A m c, .int .i64 ai, .int .i64 bi] w fun e w' => e = .returned (.string (bs (treeD n d f a b))) ∧ w = w' := by
  intro f
  induction f with
  | zero => intro a b ai bi _ _ hab hf; omega
  | succ f ih =>
    intro a b ai bi hai hbi hab hf hb
    subst hai hbi
    have IH := Lib.hid ih
    have HS := Lib.hid (fun (x y : Nat) (xi yi : Int) (hx : xi = x) (hy : yi = y) (w : World) (hh : R2 w A m vs d) (hx1 : x ≤ 100) (hy1 : y ≤ 100) => l7Side_any n m c A vs d x y xi yi hx hy w hh h2 hn hx1 hy1 hm hn1)
    have HR := Lib.hid h
    have u1 : IntKind.i64.wrap ((a : Int) + 1) = (a : Int) + 1 := IntWalk.i64_in _ (by omega)
    clear ih h2 h
    by_cases c1 : b = a + 1
    · have HF := Lib.hid (show treeD n d (f + 1) a b = [46] by rw [treeD, if_pos c1])
      have t1 : ((b : Int) == (a : Int) + 1) = true := by rw [beq_iff_eq]; omega
      clear c1
      go_enter Tryz.func123, Tryz.ntmps123
      go_wp2_with fail
      go_ret
      exact ⟨by rw [HF.out]; rfl, rfl⟩
    have t1 : ((b : Int) == (a : Int) + 1) = false := by rw [beq_eq_false_iff_ne]; omega
    have HT := Lib.hid (show treeD n d (f + 1) a b = match midD n d a b with
      | none => [46]
      | some j => 40 :: (treeD n d f a (a + 1 + j) ++ (treeD n d f (a + 1 + j) b ++ [41])) by rw [treeD, if_neg c1]; rfl)
    clear c1
    go_enter Tryz.func123, Tryz.ntmps123
    go_wp2_with fail
    go_loop [9] (fun iv => ∃ j : Nat, j ≤ b - a - 1 ∧ iv = .int .i64 ((a : Int) + 1 + j) ∧ Hid (∀ k, k < j → (sideB n d a (a + 1 + k) && sideB n d (a + 1 + k) b) = false)) (fun iv => b - (intOf iv).toNat)
    case atStart => exact ⟨0, Nat.zero_le _, by go_num, Lib.hid fun k hk => by omega⟩
    case round =>
      obtain ⟨j, hj, rfl, HA⟩ := hrel
      by_cases hlt : a + 1 + j < b
      · have j1 : (a : Int) + 1 + (j : Int) < (b : Int) := by omega
        go_wp2_with fail
        refine (HS.out a (a + 1 + j) (a : Int) ((a : Int) + 1 + (j : Int)) rfl (by omega) _ HR.out (by omega) (by omega)).mono ?_
        rintro e w' ⟨rfl, rfl⟩
        rcases hs1 : sideB n d a (a + 1 + j) with _ | _
        · have HN := Lib.hid (show ∀ k, k < j + 1 → (sideB n d a (a + 1 + k) && sideB n d (a + 1 + k) b) = false from fun k hk => by
            rcases Nat.lt_or_ge k j with h1 | h1
            · exact HA.out k h1
            · obtain rfl : k = j := by omega
              rw [hs1, Bool.false_and])
          clear hs1
          go_wp2_with fail
          go_round
          case rel => exact ⟨j + 1, by omega, by go_num, HN⟩
          case measure => simp [intOf]; omega
        · have HS1 := Lib.hid hs1
          clear hs1
          go_wp2_with fail
          refine (HS.out (a + 1 + j) b ((a : Int) + 1 + (j : Int)) (b : Int) (by omega) rfl _ HR.out (by omega) (by omega)).mono ?_
          rintro e w' ⟨rfl, rfl⟩
          rcases hs2 : sideB n d (a + 1 + j) b with _ | _
          · have HN := Lib.hid (show ∀ k, k < j + 1 → (sideB n d a (a + 1 + k) && sideB n d (a + 1 + k) b) = false from fun k hk => by
              rcases Nat.lt_or_ge k j with h1 | h1
              · exact HA.out k h1
              · obtain rfl : k = j := by omega
                rw [hs2, Bool.and_false])
            clear hs2
            go_wp2_with fail
            go_round
            case rel => exact ⟨j + 1, by omega, by go_num, HN⟩
            case measure => simp [intOf]; omega
          · have HMD := Lib.hid (show midD n d a b = some j from find_range (by omega) (by rw [HS1.out, hs2]; rfl) HA.out)
            have l1 := treeD_len n d f a (a + 1 + j) (by omega)
            have l2 := treeD_len n d f (a + 1 + j) b (by omega)
            have HF := Lib.hid (show treeD n d (f + 1) a b = 40 :: (treeD n d f a (a + 1 + j) ++ (treeD n d f (a + 1 + j) b ++ [41])) by rw [HT.out, HMD.out])
            have HC1 := Lib.hid (fun w (hh : R2 w A m vs d) => IH.out)
            obtain ⟨P, hP⟩ : ∃ P, P = treeD n d f a (a + 1 + j) := ⟨_, rfl⟩
            obtain ⟨Q, hQ⟩ : ∃ Q, Q = treeD n d f (a + 1 + j) b := ⟨_, rfl⟩
            rw [← hP] at l1
            rw [← hQ] at l2
            rw [← hP, ← hQ] at HF
            have HP := Lib.hid hP
            have HQ := Lib.hid hQ
            have p1 : P.length ≤ 400 := by omega
            have p2 : Q.length ≤ 400 := by omega
            have z1 : (bs P).size ≤ 400 := p1
            have z2 : (bs Q).size ≤ 400 := p2
            clear hs2 hP hQ HC1
            go_wp2_with fail
            refine (IH.out a (a + 1 + j) (a : Int) ((a : Int) + 1 + (j : Int)) rfl (by omega) (by omega) (by omega) (by omega)).mono ?_
            rintro e w' ⟨rfl, rfl⟩
            rw [← HP.out]
            go_wp2_with fail
            refine (IH.out (a + 1 + j) b ((a : Int) + 1 + (j : Int)) (b : Int) (by omega) rfl (by omega) (by omega) (by omega)).mono ?_
            rintro e w' ⟨rfl, rfl⟩
            rw [← HQ.out]
            go_wp2_with fail
            go_ret
            refine ⟨?_, rfl⟩
            rw [HF.out]
            show _ = _
            rw [bs_lit, bs_lit, bs_append, bs_append, bs_append]
            simp
      · have HMD := Lib.hid (show midD n d a b = none by
          unfold midD
          rw [List.find?_eq_none]
          intro k hk
          rw [HA.out k (by have := List.mem_range.1 hk; omega)]
          decide)
        have HF := Lib.hid (show treeD n d (f + 1) a b = [46] by rw [HT.out, HMD.out])
        have j1 : ¬ (a : Int) + 1 + (j : Int) < (b : Int) := by omega
        go_wp2_with fail
        go_ret
        exact ⟨by rw [HF.out]; rfl, rfl⟩

set_option maxHeartbeats 1000000 in
theorem specBinaryOfTriangles_yes (A : Option Addr) (n m c : Nat) (vs : List Value) (d : List (List Int)) (w : World) (h : R2 w A m vs d) (ht : triB n d = true) :
    Calls Tryz.prog 81 #[.int .i64 n, .slice A m c] w fun e w' => e = .returned (.tuple #[.string (bs (treeD n d n 0 (n - 1))), .bool true]) ∧ ∃ q, w' = w.drewN q := by
  have H := triOk ht
  have hml := h.n_eq
  have hm7 : m ≤ 7 := by rw [hml]; exact H.len7
  have hn2 := H.n2
  have hn10 := H.n10
  have HR := Lib.hid h
  have HT := Lib.hid ht
  have HC := Lib.hid (fun (w : World) (h : R2 w A m vs d) => l7Tree_any n m c A vs d w h (fun r hr => by obtain ⟨i, hi, rfl⟩ := List.mem_iff_getElem.1 hr; exact H.two i _ (List.getElem?_eq_getElem hi)) (by omega) (by omega) (by omega) n 0 (n - 1) 0 ((n : Int) - 1) rfl (by omega) (by omega) (by omega) (by omega))
  have u2 : IntKind.i64.wrap ((n : Int) - 1) = (n : Int) - 1 := IntWalk.i64_in _ (by omega)
  obtain ⟨T, hT⟩ : ∃ T, T = treeD n d n 0 (n - 1) := ⟨_, rfl⟩
  rw [← hT] at HC ⊢
  clear h ht H hml hT
  go_enter Tryz.func81, Tryz.ntmps81
  go_wp2_with fail
  refine (specIsTriangulation_yes _ _ _ _ _ _ _ HR.out HT.out).mono ?_
  rintro e w1 ⟨rfl, q, rfl⟩
  go_wp2_with fail
  refine (HC.out _ (HR.out.drewN q)).mono ?_
  rintro e w' ⟨rfl, rfl⟩
  go_wp2_with fail
  go_ret2
  exact ⟨rfl, _, rfl⟩

end Go.Proofs.YtghfhkbncjgaeaaGreat
