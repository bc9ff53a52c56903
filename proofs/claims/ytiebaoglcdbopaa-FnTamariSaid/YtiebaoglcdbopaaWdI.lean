/- FirstReturn, treeOfPath of the program: the tree of a path. -/
import Derived.Test.YtiebaoglcdbopaaWdL
import Derived.Test.YtiebaoglcdbopaaTreeI2
import Derived.Test.YtiebaoglcdbopaaDyck
namespace Go.Proofs.Ytiebaoglcdbopaa
set_option linter.unusedVariables false
open Go.RowKit Go.Deep

set_option maxHeartbeats 1000000 in
theorem implFirstReturn_nil (w : World) :
    Calls Try.prog 109 #[.string (bs [])] w fun e w' => e = .returned (.tuple #[.string (bs []), .string (bs []), .bool false]) ∧ Below w.heap.size w w' := by
  have HD := Lib.hid (show dyck [] = true by decide)
  go_enter Try.func109, Try.ntmps109
  go_wp2_with fail
  refine (implIsDyck_any [] _ (by simp)).mono ?_
  rintro e w1 ⟨rfl, hb1⟩
  rw [HD.out]
  go_wp2_with fail
  go_ret3
  exact ⟨rfl, hb1⟩

theorem hts_atW {l : List UInt8} {k : Nat} (h : k ≤ l.length) : (hts l)[k]? = some (hat l k) := by
  unfold hts htsTo
  rw [List.getElem?_map, List.getElem?_range (by omega)]; rfl

set_option maxHeartbeats 1000000 in
theorem implFirstReturn_node (b o : Nat) (a : Unit) (l r : Tr) (w : World) (hn : nodes l + nodes r + 1 ≤ 8) :
    Calls Try.prog 109 #[.string (bs (wd (.node b o a l r)))] w fun e w' => e = .returned (.tuple #[.string (bs (wd l)), .string (bs (wd r)), .bool true]) ∧ Below w.heap.size w w' := by
  have HD := Lib.hid (dyck_wd (t := .node b o a l r) hn)
  obtain ⟨L, x, hL, hc⟩ := cutW_of b o a l r
  rw [← hL] at HD ⊢
  have HC := Lib.hid hc
  have hlen := hc.len
  have hxn := hc.xn
  obtain ⟨X, hX⟩ : ∃ X, X = wd l := ⟨_, rfl⟩
  obtain ⟨Y, hY⟩ : ∃ Y, Y = wd r := ⟨_, rfl⟩
  have s1 : List.take (x - 1) L.tail = X := by rw [hX, ← List.drop_one]; exact hc.left
  have s1' : List.take (x - 1) (List.drop 1 L) = X := by rw [hX]; exact hc.left
  have s3 : List.take (L.length - (x + 1)) Y = Y := by rw [List.take_of_length_le]; rw [hY, wd_len]; omega
  have s2 : List.drop (x + 1) L = Y := by rw [hY]; exact hc.right
  rw [← hX, ← hY]
  have HF := Lib.hid (show htsD L = hts L by unfold htsD; rw [if_pos HD.out])
  have hl9 : L.length ≤ 1000000000 := by omega
  have hl16 : L.length ≤ 16 := by omega
  have hx16 : x + 1 ≤ L.length := by omega
  obtain ⟨I, hI⟩ : ∃ I, I = x + 1 := ⟨_, rfl⟩
  have hxI : x = I - 1 := by omega
  have hI1 : 2 ≤ I := by omega
  have hI2 : I ≤ L.length := by omega
  have HZ := Lib.hid (show hat L I = 0 by rw [hI]; exact hc.hz)
  have HP := Lib.hid (show ∀ k, 1 ≤ k → k < I → 1 ≤ hat L k from fun k h1 h2 => hc.hp k h1 (by omega))
  rw [← hI] at s2 s3
  rw [hxI] at s1 s1'
  have f2 : 0 < L.length := by omega
  have f3 : ¬ L = [] := by intro h; rw [h] at f2; simp at f2
  have f4 : L.isEmpty = false := by cases hh : L with
    | nil => exact absurd hh f3
    | cons _ _ => rfl
  have e1 : IntKind.i64.wrap ((I : Int) - 1) = (I : Int) - 1 := IntWalk.i64_in _ (by omega)
  have e2 : ((I : Int) - 1).toNat = I - 1 := by omega
  have b1 : (0 : Int) ≤ (I : Int) - 1 := by omega
  have b1' : (1 : Int) ≤ (I : Int) - 1 := by omega
  have b2 : (I : Int) - 1 ≤ (L.length : Int) := by omega
  have b3 : (I : Int) ≤ (L.length : Int) := by omega
  have b4 : (0 : Int) ≤ (I : Int) := by omega
  clear hX hY hc hL hn hlen hxn hI hxI
  go_enter Try.func109, Try.ntmps109
  go_wp2_with fail
  refine (implIsDyck_any L _ hl9).mono ?_
  rintro e w1 ⟨rfl, hb1⟩
  rw [HD.out]
  go_wp2_with fail
  refine (implHeightsOf_any L _ hl9).mono ?_
  rintro e w2 ⟨A, m, c, hm, rfl, ho, hb2⟩
  rw [HF.out] at hm ho
  rw [hts_len] at hm
  have HR := Lib.hid ho.rd
  have hb3 := hb1.trans (hb2.mono hb1.size)
  have hm2 : L.length < m := by omega
  have hm3 : m ≤ 17 := by omega
  clear ho hb1 hb2 hm
  go_wp2_with fail
  go_loop [6] (fun i => ∃ k : Nat, 1 ≤ k ∧ k ≤ I ∧ i = .int .i64 k) (fun i => I - (intOf i).toNat)
  case atStart => exact ⟨1, Nat.le_refl _, by omega, rfl⟩
  case round =>
    obtain ⟨k, hk1, hk2, rfl⟩ := hrel
    obtain ⟨bl, off, y, rfl, hy, hcy⟩ := HR.out.ati (show k < m by omega)
    rw [hts_atW (by omega)] at hy
    injection hy with hy
    have HY2 := Lib.hid hy
    have k0 : (0 : Int) ≤ (k : Int) := by omega
    have k1 : (k : Int) < (m : Int) := by omega
    clear hy
    by_cases hkI : k = I
    · subst hkI
      have hy0 : (y != 0) = false := by rw [← HY2.out, HZ.out]; rfl
      go_wp2_with fail
      go_quiet (fail)
      go_wp2_with fail
      go_ret3
      exact ⟨rfl, below_drewN' hb3 _⟩
    · have hy0 : (y != 0) = true := by have := HP.out k hk1 (by omega); rw [HY2.out] at this; simp; omega
      go_wp2_with fail
      go_round
      case rel => exact ⟨k + 1, by omega, by omega, by go_num⟩
      case measure => simp [intOf]; omega

set_option maxHeartbeats 1000000 in
theorem treeOfPath_any (t : Tr) : ∀ w : World, nodes t ≤ 8 →
    Calls Try.prog 99 #[.string (bs (wd t))] w fun e w' => ∃ M p, sh M = sh t ∧ M.ptr = .pointer p ∧ e = .returned (.pointer p) ∧ TIn w' M ∧ Below w.heap.size w w' := by
  induction t with
  | nil =>
    intro w _
    show Calls _ _ #[.string (bs [])] _ _
    go_enter Try.func99, Try.ntmps99
    go_wp2_with fail
    refine (implFirstReturn_nil _).mono ?_
    rintro e w1 ⟨rfl, hb1⟩
    go_wp2_with fail
    go_ret
    exact ⟨.nil, none, rfl, rfl, rfl, trivial, hb1⟩
  | node b o a l r ihl ihr =>
    intro w hn
    have hnn : nodes l + nodes r + 1 ≤ 8 := hn
    have HC := Lib.hid (implFirstReturn_node b o a l r w hnn)
    have HL := Lib.hid (show ∀ w, _ from fun w => ihl w (by omega))
    have HR := Lib.hid (show ∀ w, _ from fun w => ihr w (by omega))
    obtain ⟨X, hX⟩ : ∃ X, X = wd l := ⟨_, rfl⟩
    obtain ⟨Y, hY⟩ : ∃ Y, Y = wd r := ⟨_, rfl⟩
    obtain ⟨L, hL⟩ : ∃ L, L = wd (.node b o a l r) := ⟨_, rfl⟩
    rw [← hX] at HL HC
    rw [← hY] at HR HC
    rw [← hL] at HC ⊢
    clear ihl ihr hX hY hL hn
    go_enter Try.func99, Try.ntmps99
    go_wp2_with fail
    refine HC.out.mono ?_
    rintro e w1 ⟨rfl, hb1⟩
    go_wp2_with fail
    refine (HL.out _).mono ?_
    rintro e w2 ⟨M1, p1, hs1, hq1, rfl, ht1, hb2⟩
    have HS1 := Lib.hid hs1
    have HQ1 := Lib.hid hq1
    have HT1 := Lib.hid ht1
    clear hs1 hq1 ht1
    go_wp2_with fail
    refine (HR.out _).mono ?_
    rintro e w3 ⟨M2, p2, hs2, hq2, rfl, ht2, hb3⟩
    have HS2 := Lib.hid hs2
    have HQ2 := Lib.hid hq2
    have HT2 := Lib.hid ht2
    clear hs2 hq2 ht2
    go_wp2_with fail
    go_ret
    have ht := TIn.new (HT1.out.below hb3) HT2.out 63
    rw [HQ1.out, HQ2.out] at ht
    have hb4 := hb1.trans (hb2.mono hb1.size)
    have hb5 := hb4.trans (hb3.mono hb4.size)
    exact ⟨.node w3.heap.size 0 () M1 M2, _, by simp [sh, HS1.out, HS2.out], rfl, rfl, ht, hb5.alloc hb5.size _⟩

end Go.Proofs.Ytiebaoglcdbopaa
