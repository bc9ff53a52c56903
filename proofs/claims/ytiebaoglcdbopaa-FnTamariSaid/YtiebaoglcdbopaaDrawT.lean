/- The trees, weights and numbers that FnRotations draws. -/
import Derived.Test.YtiebaoglcdbopaaDraw4
import Derived.Test.YtiebaoglcdbopaaWdS
import Derived.Test.YtiebaoglcdbopaaTrees
import Derived.Test.YtiebaoglcdbopaaWtS
import Derived.Test.YtiebaoglcdbopaaTamL
namespace Go.Proofs.Ytiebaoglcdbopaa
set_option linter.unusedVariables false
open Go.RowKit

theorem Only.finT {g : Nat} {w w1 w2 : World} (hb : Below w.heap.size w w1) (ho : Only g (g + 1) w1 w2) (hg : w.heap.size ≤ g) : Below w.heap.size w w2 := hb.trans (ho.below hg hb.size)
theorem pathsOk_6 : pathsOk 6 = true := by decide +kernel
theorem paths_tree {m : Nat} (hm : m ≤ 6) {l : List UInt8} (h : l ∈ paths m) : ∃ t, wd t = l ∧ nodes t = m ∧ sh t = t := by
  have hok : pathsOk m = true := by
    rcases Nat.lt_or_ge m 6 with h1 | h1
    · exact pathsOk_5 m (by omega)
    · obtain rfl : m = 6 := by omega
      exact pathsOk_6
  have h2 := List.all_eq_true.1 hok l h
  rw [Bool.and_eq_true, decide_eq_true_eq, decide_eq_true_eq] at h2
  exact ⟨sh (tw l), by rw [wd_sh]; exact h2.1, by rw [nodes_sh]; exact h2.2, sh_sh _⟩

set_option maxHeartbeats 2000000 in
theorem l1PickInt_any (xs : List Int) (L : Option Addr) (k d : Nat) (hk1 : 1 ≤ k) (hk2 : k ≤ 256) (lo hi : Int) (hx : ∀ x ∈ xs, lo ≤ x ∧ x ≤ hi) (g : Nat) (A : Option Addr) (n c : Nat) (zs : List Int) (w : World) (h : Cur w g A n c zs) (hL : Rd w L k (iv xs)) (hne : 0 < k → ∀ ad, L = some ad → ad.block ≠ g) :
    Calls Try.prog 91 #[.pointer (some ⟨g, 0, none⟩), .slice L k d] w (RetD lo hi g A n c zs w) := by
  have HC := Lib.hid h
  have HL := Lib.hid hL
  have HNE := Lib.hid hne
  have HX := Lib.hid hx
  clear h hL hne hx
  go_enter Try.func91, Try.ntmps91
  go_wp2_with fail
  refine (l1Below_any k hk1 hk2 _ _ _ _ _ _ HC.out).mono ?_
  rintro e w1 ⟨x, hx0, hx1, rfl, hc, ho⟩
  have C1 := Lib.hid hc
  have O1 := Lib.hid ho
  have HL1 := Lib.hid (HL.out.onlyNe ho HNE.out)
  obtain ⟨K, rfl⟩ := Int.eq_ofNat_of_zero_le hx0
  have hK : K < k := by omega
  clear hc ho hx0 hx1
  obtain ⟨b, off, y, rfl, hy, hcy⟩ := HL1.out.ati hK
  have i1 : (0 : Int) ≤ (K : Int) := by omega
  have i2 : (K : Int) < (k : Int) := by omega
  have HM := Lib.hid (HX.out y (List.mem_of_getElem? hy))
  clear hy
  go_wp2_with fail
  go_ret
  exact ⟨y, HM.out.1, HM.out.2, rfl, C1.out, O1.out⟩

set_option maxRecDepth 20000 in
set_option maxHeartbeats 4000000 in
theorem l6Any_any (g : Nat) (A : Option Addr) (n c : Nat) (zs : List Int) (w : World) (h : Cur w g A n c zs) :
    Calls Try.prog 89 #[.pointer (some ⟨g, 0, none⟩)] w (RetDS (fun l => l.length ≤ 1000) g A n c zs w) := by
  have HC := Lib.hid h
  clear h
  go_enter Try.func89, Try.ntmps89
  go_wp2_with fail
  refine (l2Path_any _ _ _ _ _ _ HC.out).mono ?_
  rintro e w1 ⟨l, ⟨-, -, m, hm, hmm⟩, rfl, hc, ho⟩
  have C1 := Lib.hid hc
  have O1 := Lib.hid ho
  obtain ⟨t, rfl, hnt, -⟩ := paths_tree hm hmm
  have hn6 : nodes t ≤ 6 := by omega
  clear hc ho hmm hnt
  go_wp2_with fail
  refine (l6Binary_any t _ (by omega)).mono ?_
  rintro e w2 ⟨rfl, d2, hw⟩
  have C2 := Lib.hid (show Cur w2 g A n c zs by rw [hw]; exact C1.out.drewN d2)
  have O2 := Lib.hid (show Only g (g + 1) w w2 by rw [hw]; exact O1.out.drewN d2)
  have hl : (tx t).length ≤ 19 := by rw [tx_len]; omega
  clear hw
  go_wp2_with fail
  refine (l1Below_any 12 (by omega) (by omega) _ _ _ _ _ _ C2.out).mono ?_
  rintro e w3 ⟨y, hy0, hy1, rfl, hc, ho⟩
  have C3 := Lib.hid hc
  have O3 := Lib.hid (O2.out.trans ho)
  clear hc ho
  by_cases y0 : y = 0
  · have f0 : (y == 0) = true := by rw [beq_iff_eq]; exact y0
    clear y0
    go_wp2_with fail
    refine (l1Spoil_any (tx t) (by omega) _ _ _ _ _ _ C3.out).mono ?_
    rintro e w4 ⟨x, hx, rfl, hc, ho⟩
    have C4 := Lib.hid hc
    have O4 := Lib.hid (O3.out.trans ho)
    clear hc ho
    go_wp2_with fail
    go_ret
    exact ⟨x, by omega, rfl, C4.out, O4.out⟩
  have f0 : (y == 0) = false := by rw [beq_eq_false_iff_ne]; exact y0
  by_cases y1 : y = 1
  · have f1 : (y == 1) = true := by rw [beq_iff_eq]; exact y1
    clear y0 y1
    go_wp2_with fail
    refine (l1Pick_any [[], [46], [40, 46, 46, 41], [46, 46], [40, 46, 41], [40, 46, 46, 46, 41], [40, 46, 46], [40, 46, 46, 41, 41]] _ 8 8 (by omega) (by omega) _ _ _ _ _ _ (C3.out.below ((Below.refl _ _).alloc (Nat.le_refl _) _)) (by exact (Own.lit w3 _ _ 8 rfl (by decide)).rd) (fun _ ad h => by injection h with h; subst h; show w3.heap.size ≠ g; have := C3.out.lt; omega)).mono ?_
    rintro e w4 ⟨x, hx, rfl, hc, ho⟩
    have C4 := Lib.hid hc
    have O4 := Lib.hid ((O3.out.trans (Only.of_below ((Below.refl w3.heap.size w3).alloc (Nat.le_refl _) _))).trans ho)
    have HX := Lib.hid (show x.length ≤ 1000 by simp only [List.mem_cons, List.not_mem_nil, or_false] at hx; rcases hx with rfl | rfl | rfl | rfl | rfl | rfl | rfl | rfl <;> simp)
    clear hc ho hx
    go_wp2_with fail
    go_ret
    exact ⟨x, HX.out, rfl, C4.out, O4.out⟩
  have f1 : (y == 1) = false := by rw [beq_eq_false_iff_ne]; exact y1
  clear y0 y1
  go_wp2_with fail
  go_ret
  exact ⟨_, by omega, rfl, C3.out, O3.out⟩

/-- A text and a number that are drawn. -/
def RetWN (lo hi : Int) (w : World) (e : Ending) (w' : World) : Prop :=
  ∃ (a : List UInt8) (v : Int), a.length ≤ 1000 ∧ lo ≤ v ∧ v ≤ hi ∧ e = .returned (.tuple #[.string (bs a), .int .i64 v]) ∧ Below w.heap.size w w'

set_option maxHeartbeats 2000000 in
theorem l16Both_any (A : Option Addr) (n c : Nat) (zs : List Int) (w : World) (h : Rd w A n (uv zs)) (hn : n ≤ 1000000000) (hz : ∀ z ∈ zs, 0 ≤ z ∧ z ≤ 255) :
    Calls Try.prog 78 #[.slice A n c] w (RetWN (-1) 6 w) := by
  have HR := Lib.hid h
  have HZ := Lib.hid hz
  clear h hz
  go_enter Try.func78, Try.ntmps78
  go_wp2_with fail
  refine (l1New_any _ _ _ zs _ HR.out hn HZ.out).mono ?_
  rintro e w0 ⟨g, hg, rfl, hc, hb⟩
  have C0 := Lib.hid hc
  have B0 := Lib.hid hb
  clear hc hb
  go_wp2_with fail
  refine (l6Any_any _ _ _ _ _ _ C0.out).mono ?_
  rintro e w1 ⟨a, ha, rfl, hc, ho⟩
  have C1 := Lib.hid hc
  have B1 := Lib.hid (Only.finT B0.out ho hg)
  have HA := Lib.hid ha
  clear hc ho ha
  go_wp2_with fail
  refine (l1Below_any 8 (by omega) (by omega) _ _ _ _ _ _ C1.out).mono ?_
  rintro e w2 ⟨x, hx0, hx1, rfl, hc, ho⟩
  have B2 := Lib.hid (Only.finT B1.out ho hg)
  clear hc ho
  go_wp2_with fail
  go_ret2
  exact ⟨a, x - 1, HA.out, by omega, by omega, rfl, B2.out⟩

theorem DrawRotateRight_any (A : Option Addr) (n c : Nat) (zs : List Int) (w : World) (h : Rd w A n (uv zs)) (hn : n ≤ 1000000000) (hz : ∀ z ∈ zs, 0 ≤ z ∧ z ≤ 255) :
    Calls Try.prog 33 #[.slice A n c] w (RetWN (-1) 6 w) := by
  have HR := Lib.hid h
  have HZ := Lib.hid hz
  clear h hz
  go_enter Try.func33, Try.ntmps33
  go_wp2_with fail
  refine (l16Both_any _ _ _ zs _ HR.out hn HZ.out).mono ?_
  rintro e w0 ⟨a, b, ha, hb1, hb2, rfl, hbl⟩
  have HB := Lib.hid hbl
  have HA := Lib.hid (show a.length ≤ 1000 ∧ -1 ≤ b ∧ b ≤ 6 from ⟨ha, hb1, hb2⟩)
  clear hbl ha hb1 hb2
  go_wp2_with fail
  go_ret2
  exact ⟨a, b, HA.out.1, HA.out.2.1, HA.out.2.2, rfl, HB.out⟩

theorem DrawNodeAt_any (A : Option Addr) (n c : Nat) (zs : List Int) (w : World) (h : Rd w A n (uv zs)) (hn : n ≤ 1000000000) (hz : ∀ z ∈ zs, 0 ≤ z ∧ z ≤ 255) :
    Calls Try.prog 48 #[.slice A n c] w (RetWN (-1) 6 w) := by
  have HR := Lib.hid h
  have HZ := Lib.hid hz
  clear h hz
  go_enter Try.func48, Try.ntmps48
  go_wp2_with fail
  refine (l16Both_any _ _ _ zs _ HR.out hn HZ.out).mono ?_
  rintro e w0 ⟨a, b, ha, hb1, hb2, rfl, hbl⟩
  have HB := Lib.hid hbl
  have HA := Lib.hid (show a.length ≤ 1000 ∧ -1 ≤ b ∧ b ≤ 6 from ⟨ha, hb1, hb2⟩)
  clear hbl ha hb1 hb2
  go_wp2_with fail
  go_ret2
  exact ⟨a, b, HA.out.1, HA.out.2.1, HA.out.2.2, rfl, HB.out⟩

theorem DrawRightComb_any (A : Option Addr) (n c : Nat) (zs : List Int) (w : World) (h : Rd w A n (uv zs)) (hn : n ≤ 1000000000) (hz : ∀ z ∈ zs, 0 ≤ z ∧ z ≤ 255) :
    Calls Try.prog 51 #[.slice A n c] w (RetN1 (-1) 9 w) := by
  have HR := Lib.hid h
  have HZ := Lib.hid hz
  clear h hz
  go_enter Try.func51, Try.ntmps51
  go_wp2_with fail
  refine (l1New_any _ _ _ zs _ HR.out hn HZ.out).mono ?_
  rintro e w0 ⟨g, hg, rfl, hc, hb⟩
  have C0 := Lib.hid hc
  have B0 := Lib.hid hb
  clear hc hb
  go_wp2_with fail
  refine (l1Below_any 11 (by omega) (by omega) _ _ _ _ _ _ C0.out).mono ?_
  rintro e w1 ⟨x, hx0, hx1, rfl, hc, ho⟩
  have B1 := Lib.hid (Only.finT B0.out ho hg)
  clear hc ho
  go_wp2_with fail
  go_ret
  exact ⟨x - 1, by omega, by omega, rfl, B1.out⟩

/-- A slice of few small ints that is drawn. -/
def RetIs (w : World) (e : Ending) (w' : World) : Prop :=
  ∃ (A : Option Addr) (n c : Nat) (ys : List Int), n ≤ 1000 ∧ n ≤ c ∧ c ≤ 9223372036854775807 ∧ e = .returned (.slice A n c) ∧ Own w' 3 w.heap.size A n c (iv ys) ∧ Below w.heap.size w w'

set_option maxRecDepth 20000 in
set_option maxHeartbeats 4000000 in
theorem DrawBinaryOfWeights_any (A : Option Addr) (n c : Nat) (zs : List Int) (w : World) (h : Rd w A n (uv zs)) (hn : n ≤ 1000000000) (hz : ∀ z ∈ zs, 0 ≤ z ∧ z ≤ 255) :
    Calls Try.prog 46 #[.slice A n c] w (RetIs w) := by
  have HR := Lib.hid h
  have HZ := Lib.hid hz
  clear h hz
  go_enter Try.func46, Try.ntmps46
  go_wp2_with fail
  refine (l1New_any _ _ _ zs _ HR.out hn HZ.out).mono ?_
  rintro e w0 ⟨g, hg, rfl, hc, hb⟩
  have C0 := Lib.hid hc
  have B0 := Lib.hid hb
  clear hc hb
  go_wp2_with fail
  refine (l6Any_any _ _ _ _ _ _ C0.out).mono ?_
  rintro e w1 ⟨a, ha, rfl, hc, ho⟩
  have C1 := Lib.hid hc
  have B1 := Lib.hid (Only.finT B0.out ho hg)
  clear hc ho
  go_wp2_with fail
  refine (specWeightsOf_any a _ (by omega)).mono ?_
  rintro e w2 ⟨L, k, d, hk, rfl, hol, hb2⟩
  have hk8 : k ≤ 8 := by rw [hk]; exact wtsB_len a
  have HL := Lib.hid hol
  have HCP := Lib.hid hol.caps2
  have hcp1 := hol.caps2.1
  have hcp2 := hol.caps2.2
  have C2 := Lib.hid (C1.out.below hb2)
  have B2 := Lib.hid (B1.out.trans (hb2.mono B1.out.size))
  have hgl : g < w1.heap.size := C1.out.lt
  have hw1 := B1.out.size
  have HNE := Lib.hid (show 0 < k → ∀ ad, L = some ad → ad.block ≠ g from fun _ ad he => by
    rcases hol.form with ⟨h1, _⟩ | ⟨g0, h1, h2, _⟩
    · rw [h1] at he; cases he
    · rw [h1] at he; injection he with he; subst he; show g0 ≠ g; omega)
  obtain ⟨ys, hys⟩ : ∃ ys, ys = wtsB a := ⟨_, rfl⟩
  rw [← hys] at HL
  clear hol hk hb2 hys
  by_cases hk0 : 0 < k
  · have k1 : (0 : Int) < (k : Int) := by omega
    go_wp2_with fail
    refine (l1Once_any 4 (by omega) (by omega) _ _ _ _ _ _ C2.out).mono ?_
    rintro e w3 ⟨q, rfl, hc, ho⟩
    have C3 := Lib.hid hc
    have B3 := Lib.hid (Only.finT B2.out ho hg)
    have HL3 := Lib.hid (HL.out.onlyD ho hgl)
    clear hc ho
    rcases q with _ | _
    · go_wp2_with fail
      go_ret
      exact ⟨L, k, d, ys, by omega, hcp1, hcp2, rfl, HL3.out.mono hw1, B3.out⟩
    · go_wp2_with fail
      refine (l1Below_any k hk0 (by omega) _ _ _ _ _ _ C3.out).mono ?_
      rintro e w4 ⟨x, hx0, hx1, rfl, hc, ho⟩
      have C4 := Lib.hid hc
      have B4 := Lib.hid (Only.finT B3.out ho hg)
      have HL4 := Lib.hid (HL3.out.onlyD ho hgl)
      obtain ⟨K, rfl⟩ := Int.eq_ofNat_of_zero_le hx0
      have hK : K < k := by omega
      clear hc ho hx0 hx1
      go_wp2_with fail
      refine (l1PickInt_any [0, 1, 2, 3, -1, 9] _ 6 6 (by omega) (by omega) (-1) 9 (by decide) _ _ _ _ _ _ (C4.out.below ((Below.refl _ _).alloc (Nat.le_refl _) _)) (by exact (Own.lit w4 _ _ 6 rfl (by decide)).rd) (fun _ ad h => by injection h with h; subst h; show w4.heap.size ≠ g; have := C4.out.lt; omega)).mono ?_
      rintro e w5 ⟨y, hy0, hy1, rfl, hc, ho⟩
      have hba : Below w4.heap.size w4 (w4.alloc (.cells #[.int .i64 0, .int .i64 1, .int .i64 2, .int .i64 3, .int .i64 (-1), .int .i64 9] 3)) := (Below.refl _ _).alloc (Nat.le_refl _) _
      have B5 := Lib.hid (Only.finT (B4.out.trans (hba.mono B4.out.size)) ho hg)
      have HL5 := Lib.hid ((HL4.out.below hba).onlyD ho hgl)
      clear hc ho hba
      obtain ⟨g5, z, hA5, hg5, -, hz5, hcz, hfz⟩ := HL5.out.ati hK
      subst hA5
      have i1 : (0 : Int) ≤ (K : Int) := by omega
      have i2 : (K : Int) < (k : Int) := by omega
      clear hz5
      go_wp2_with fail
      go_ret
      exact ⟨_, k, d, _, by omega, hcp1, hcp2, rfl, (HL5.out.puti K y).mono hw1, B5.out.setCell (p := ⟨g5, K, none⟩) (by show w.heap.size ≤ g5; omega) _⟩
  · have k1 : ¬ (0 : Int) < (k : Int) := by omega
    go_wp2_with fail
    go_ret
    exact ⟨L, k, d, ys, by omega, hcp1, hcp2, rfl, HL.out.mono hw1, B2.out⟩

end Go.Proofs.Ytiebaoglcdbopaa
