/- l2Cut, l6Binary, l17Trees of the reference: the tree of a path. -/
import Derived.Test.YtiebaoglcdbopaaWdL
import Derived.Test.YtiebaoglcdbopaaTreeS
import Derived.Test.YtiebaoglcdbopaaPathsS
namespace Go.Proofs.Ytiebaoglcdbopaa
set_option linter.unusedVariables false
open Go.RowKit Go.Deep

set_option maxHeartbeats 1000000 in
theorem l2Cut_any (L : List UInt8) (x : Nat) (w : World) (hx : x + 1 ≤ L.length) (hl : L.length ≤ 1000000) (hz : hat L (x + 1) = 0) (hp : ∀ k, 1 ≤ k → k ≤ x → 1 ≤ hat L k) :
    Calls Try.prog 96 #[.string (bs L)] w fun e w' => e = .returned (.int .i64 x) ∧ w = w' := by
  have HZ := Lib.hid hz
  have HP := Lib.hid hp
  clear hz hp
  go_enter Try.func96, Try.ntmps96
  go_wp2_with fail
  go_loop [3, 4] (fun t i => ∃ k : Nat, k ≤ x ∧ i = .int .i64 k ∧ t = .int .i64 (hat L k)) (fun _ i => L.length - (intOf i).toNat)
  case atStart => exact ⟨0, Nat.zero_le _, rfl, rfl⟩
  case round =>
    obtain ⟨k, hk, rfl, rfl⟩ := hrel
    have hbd := hat_bd L k
    obtain ⟨H, hH⟩ : ∃ H, H = hat L k := ⟨_, rfl⟩
    rw [← hH] at hbd ⊢
    have HH := Lib.hid hH
    clear hH
    have hlt : k < L.length := by omega
    obtain ⟨c, hc⟩ : ∃ c, L[k] = c := ⟨_, rfl⟩
    have HC := Lib.hid (show L[k]? = some c by rw [List.getElem?_eq_getElem hlt, hc])
    by_cases hu : c = 117
    · subst hu
      have e1 : (((L[k]'hlt).toNat : Int) == 117) = true := by rw [hc]; rfl
      have HS := Lib.hid (show hat L (k + 1) = H + 1 by rw [hat_u HC.out, HH.out])
      clear hc
      by_cases hkx : k = x
      · subst hkx
        have e2 : (H + 1 == 0) = true := by have := HZ.out; rw [HS.out] at this; simp [this]
        go_wp2_with fail
        go_ret
        exact ⟨rfl, rfl⟩
      · have e2 : (H + 1 == 0) = false := by have := HP.out (k + 1) (by omega) (by omega); rw [HS.out] at this; rw [beq_eq_false_iff_ne]; omega
        go_wp2_with fail
        go_round
        case rel => exact ⟨k + 1, by omega, by go_num, by rw [HS.out]⟩
        case measure => simp [intOf]; omega
    · have e1 : (((L[k]'hlt).toNat : Int) == 117) = false := by rw [hc]; exact u8_ne hu
      have HS := Lib.hid (show hat L (k + 1) = H - 1 by rw [hat_d HC.out hu, HH.out])
      clear hc hu
      by_cases hkx : k = x
      · subst hkx
        have e2 : (H - 1 == 0) = true := by have := HZ.out; rw [HS.out] at this; simp [this]
        go_wp2_with fail
        go_ret
        exact ⟨rfl, rfl⟩
      · have e2 : (H - 1 == 0) = false := by have := HP.out (k + 1) (by omega) (by omega); rw [HS.out] at this; rw [beq_eq_false_iff_ne]; omega
        go_wp2_with fail
        go_round
        case rel => exact ⟨k + 1, by omega, by go_num, by rw [HS.out]⟩
        case measure => simp [intOf]; omega

set_option maxHeartbeats 1000000 in
theorem l6Binary_any (t : Tr) : ∀ w : World, nodes t ≤ 100000 →
    Calls Try.prog 67 #[.string (bs (wd t))] w fun e w' => e = .returned (.string (bs (tx t))) ∧ ∃ n, w' = w.drewN n := by
  induction t with
  | nil =>
    intro w _
    show Calls _ _ #[.string (bs [])] _ _
    go_enter Try.func67, Try.ntmps67
    go_wp2_with fail
    go_ret
    exact ⟨rfl, 0, rfl⟩
  | node b o a l r ihl ihr =>
    intro w hn
    have hnn : nodes l + nodes r + 1 ≤ 100000 := hn
    obtain ⟨L, x, hL, hc⟩ := cutW_of b o a l r
    rw [← hL]
    have HC := Lib.hid hc
    have hlen := hc.len
    have hxn := hc.xn
    have hL9 : L.length ≤ 1000000 := by omega
    obtain ⟨X, hX⟩ : ∃ X, X = wd l := ⟨_, rfl⟩
    obtain ⟨Y, hY⟩ : ∃ Y, Y = wd r := ⟨_, rfl⟩
    have s1 : List.take (x - 1) L.tail = X := by rw [hX, ← List.drop_one]; exact hc.left
    have s1' : List.take (x - 1) (List.drop 1 L) = X := by rw [hX]; exact hc.left
    have s3 : List.take (L.length - (x + 1)) Y = Y := by rw [List.take_of_length_le]; rw [hY, wd_len]; omega
    have s2 : List.drop (x + 1) L = Y := by rw [hY]; exact hc.right
    have HX := Lib.hid hX
    have HY := Lib.hid hY
    have ml := tx_len l
    have mr := tx_len r
    obtain ⟨P, hP⟩ : ∃ P, P = tx l := ⟨_, rfl⟩
    obtain ⟨Q, hQ⟩ : ∃ Q, Q = tx r := ⟨_, rfl⟩
    rw [← hP] at ml
    rw [← hQ] at mr
    have hP3 : P.length ≤ 3000001 := by omega
    have hQ3 : Q.length ≤ 3000001 := by omega
    have hil : ∀ w, Calls Try.prog 67 #[.string (bs X)] w fun e w' => e = .returned (.string (bs P)) ∧ ∃ n, w' = w.drewN n := by rw [hX, hP]; exact fun w => ihl w (by omega)
    have hir : ∀ w, Calls Try.prog 67 #[.string (bs Y)] w fun e w' => e = .returned (.string (bs Q)) ∧ ∃ n, w' = w.drewN n := by rw [hY, hQ]; exact fun w => ihr w (by omega)
    have HIL := Lib.hid hil
    have HIR := Lib.hid hir
    have HR := Lib.hid (show tx (.node b o a l r) = [40] ++ P ++ Q ++ [41] by rw [hP, hQ]; rfl)
    have e1 : IntKind.i64.wrap ((x : Int) + 1) = (x : Int) + 1 := IntWalk.i64_in _ (by omega)
    have e2 : ((x : Int) + 1).toNat = x + 1 := by omega
    have b1 : (0 : Int) ≤ (x : Int) + 1 := by omega
    have b2 : (x : Int) + 1 ≤ (L.length : Int) := by omega
    have b4 : (0 : Int) ≤ (x : Int) := by omega
    have b5 : (1 : Int) ≤ (x : Int) := by omega
    have b6 : (x : Int) ≤ (L.length : Int) := by omega
    have f2 : 0 < L.length := by omega
    have f3 : ¬ L = [] := by intro h; rw [h] at f2; simp at f2
    have f4 : L.isEmpty = false := by cases hh : L with
      | nil => exact absurd hh f3
      | cons _ _ => rfl
    have f6 : x ≤ L.length := by omega
    have f7 : (1 : Int) ≤ (L.length : Int) := by omega
    have f8 : x + 1 ≤ L.length := by omega
    have z1 : ¬ 9223372036854775807 < 1 + P.length := by omega
    have z2 : ¬ 9223372036854775807 < 1 + P.length + Q.length := by omega
    have z3 : ¬ 9223372036854775807 < 1 + P.length + Q.length + 1 := by omega
    have z4 : ¬ 9223372036854775807 < P.length + 1 := by omega
    have z5 : ¬ 9223372036854775807 < P.length + 1 + Q.length := by omega
    have z6 : ¬ 9223372036854775807 < P.length + 1 + Q.length + 1 := by omega
    clear hil hir hX hY hc hL ihl ihr hlen hxn hn hnn hP hQ ml mr
    go_enter Try.func67, Try.ntmps67
    go_wp2_with fail
    refine (l2Cut_any _ x _ f8 hL9 HC.out.hz HC.out.hp).mono ?_
    rintro e w' ⟨rfl, rfl⟩
    go_wp2_with fail
    go_quiet (first | (go_at_call_of 67 (Value.string (bs X)); exact Calls.quiet_of (HIL.out _)) | (go_at_call_of 67 (Value.string (bs Y)); exact Calls.quiet_of (HIR.out _)))
    go_wp2_with fail
    go_ret
    refine ⟨?_, _, rfl⟩
    rw [HR.out]
    show _ = _
    rw [bs_lit, bs_lit, bs_append, bs_append, bs_append]
    rfl

end Go.Proofs.Ytiebaoglcdbopaa
