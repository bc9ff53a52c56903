/- The names, words and numbers that FnStatistics draws. -/
import Derived.Test.YteiffomekjadgaaStatD
import Derived.Test.YteiffomekjadgaaDst
import Derived.Test.YteiffomekjadgaaTwo
namespace Go.Proofs.Yteiffomekjadgaa
set_option linter.unusedVariables false
open Go.RowKit

theorem Only.finW {g : Nat} {w w1 w2 : World} (hb : Below w.heap.size w w1) (ho : Only g (g + 1) w1 w2) (hg : w.heap.size ≤ g) : Below w.heap.size w w2 := hb.trans (ho.below hg hb.size)
set_option maxHeartbeats 2000000 in
theorem l13Name_any (g : Nat) (A : Option Addr) (n c : Nat) (zs : List Int) (w : World) (h : Cur w g A n c zs) :
    Calls Try.prog 48 #[.pointer (some ⟨g, 0, none⟩)] w (RetDS (fun _ => True) g A n c zs w) := by
  have HC := Lib.hid h
  have hg := h.lt
  clear h
  go_enter Try.func48, Try.ntmps48
  go_wp2_with fail
  refine (specStatisticNames_any _).mono ?_
  rintro e w0 ⟨R, d, rfl, hown, hb⟩
  have C0 := Lib.hid (HC.out.below hb)
  have O0 := Lib.hid (show Only g (g + 1) w w0 from Only.of_below hb)
  have OW := Lib.hid hown
  have hg0 : g < w0.heap.size := C0.out.lt
  clear hown hb HC
  go_wp2_with fail
  refine (l1Once_any 14 (by omega) (by omega) _ _ _ _ _ _ C0.out).mono ?_
  rintro e w1 ⟨q, rfl, hc, ho⟩
  have C1 := Lib.hid hc
  have O1 := Lib.hid (O0.out.trans ho)
  replace OW := Lib.hid (OW.out.onlyD ho hg)
  clear hc ho
  rcases q with _ | _
  · go_wp2_with fail
    refine (l1Below_any 9 (by omega) (by omega) _ _ _ _ _ _ C1.out).mono ?_
    rintro e w3 ⟨x, hx0, hx1, rfl, hc, ho⟩
    have C3 := Lib.hid hc
    have O3 := Lib.hid (O1.out.trans ho)
    have OW3 := Lib.hid (OW.out.onlyD ho hg)
    obtain ⟨K, rfl⟩ := Int.eq_ofNat_of_zero_le hx0
    have hK : K < 9 := by omega
    clear hc ho hx0 hx1
    obtain ⟨bl, off, y, hA, hy, hcy⟩ := OW3.out.rd.ats hK
    subst hA
    have i1 : (0 : Int) ≤ (K : Int) := by omega
    have i2 : (K : Int) < 9 := by omega
    clear hy
    go_wp2_with fail
    go_ret
    exact ⟨y, trivial, rfl, C3.out, O3.out⟩
  · go_wp2_with fail
    refine (l1Pick_any [[], [112, 101, 97, 107]] _ 2 2 (by omega) (by omega) _ _ _ _ _ _ (C1.out.below ((Below.refl _ _).alloc (Nat.le_refl _) _)) (by exact (Own.lit w1 _ _ 2 rfl (by decide)).rd) (fun _ ad h => by injection h with h; subst h; show w1.heap.size ≠ g; have := C1.out.lt; omega)).mono ?_
    rintro e w3 ⟨x, hx, rfl, hc, ho⟩
    have C3 := Lib.hid hc
    have O3 := Lib.hid ((O1.out.trans (Only.of_below ((Below.refl w1.heap.size w1).alloc (Nat.le_refl _) _))).trans ho)
    clear hc ho hx
    go_wp2_with fail
    go_ret
    exact ⟨x, trivial, rfl, C3.out, O3.out⟩

/-- A name and a word. -/
def RetFW (w : World) (e : Ending) (w' : World) : Prop :=
  ∃ (a b : List UInt8), drawnC b ∧ e = .returned (.tuple #[.string (bs a), .string (bs b)]) ∧ Below w.heap.size w w'
/-- A name and a number. -/
def RetFM (w : World) (e : Ending) (w' : World) : Prop :=
  ∃ (a : List UInt8) (v : Int), -1 ≤ v ∧ v ≤ 6 ∧ e = .returned (.tuple #[.string (bs a), .int .i64 v]) ∧ Below w.heap.size w w'
/-- Two names and a number. -/
def RetFFM (w : World) (e : Ending) (w' : World) : Prop :=
  ∃ (a b : List UInt8) (v : Int), 0 ≤ v ∧ v ≤ 5 ∧ e = .returned (.tuple #[.string (bs a), .string (bs b), .int .i64 v]) ∧ Below w.heap.size w w'
set_option maxHeartbeats 2000000 in
theorem DrawStatisticOf_any (A : Option Addr) (n c : Nat) (zs : List Int) (w : World) (h : Rd w A n (uv zs)) (hn : n ≤ 1000000000) (hz : ∀ z ∈ zs, 0 ≤ z ∧ z ≤ 255) :
    Calls Try.prog 6 #[.slice A n c] w (RetFW w) := by
  have HR := Lib.hid h
  have HZ := Lib.hid hz
  clear h hz
  go_enter Try.func6, Try.ntmps6
  go_wp2_with fail
  refine (l1New_any _ _ _ zs _ HR.out hn HZ.out).mono ?_
  rintro e w0 ⟨g, hg, rfl, hc, hb⟩
  have C0 := Lib.hid hc
  have B0 := Lib.hid hb
  clear hc hb
  go_wp2_with fail
  refine (l13Name_any _ _ _ _ _ _ C0.out).mono ?_
  rintro e w1 ⟨a, -, rfl, hc, ho⟩
  have C1 := Lib.hid hc
  have B1 := Lib.hid (Only.finW B0.out ho hg)
  clear hc ho
  go_wp2_with fail
  refine (l2AnyS_any _ _ _ _ _ _ C1.out).mono ?_
  rintro e w2 ⟨b, hbb, rfl, hc, ho⟩
  have C2 := Lib.hid hc
  have B2 := Lib.hid (Only.finW B1.out ho hg)
  have HBB := Lib.hid hbb
  clear hbb
  clear hc ho
  go_wp2_with fail
  go_ret2
  exact ⟨a, b, HBB.out, rfl, B2.out⟩
set_option maxHeartbeats 2000000 in
theorem DrawDistributionOf_any (A : Option Addr) (n c : Nat) (zs : List Int) (w : World) (h : Rd w A n (uv zs)) (hn : n ≤ 1000000000) (hz : ∀ z ∈ zs, 0 ≤ z ∧ z ≤ 255) :
    Calls Try.prog 9 #[.slice A n c] w (RetFM w) := by
  have HR := Lib.hid h
  have HZ := Lib.hid hz
  clear h hz
  go_enter Try.func9, Try.ntmps9
  go_wp2_with fail
  refine (l1New_any _ _ _ zs _ HR.out hn HZ.out).mono ?_
  rintro e w0 ⟨g, hg, rfl, hc, hb⟩
  have C0 := Lib.hid hc
  have B0 := Lib.hid hb
  clear hc hb
  go_wp2_with fail
  refine (l13Name_any _ _ _ _ _ _ C0.out).mono ?_
  rintro e w1 ⟨a, -, rfl, hc, ho⟩
  have C1 := Lib.hid hc
  have B1 := Lib.hid (Only.finW B0.out ho hg)
  clear hc ho
  go_wp2_with fail
  refine (l1Below_any 8 (by omega) (by omega) _ _ _ _ _ _ C1.out).mono ?_
  rintro e w2 ⟨x, hx0, hx1, rfl, hc, ho⟩
  have C2 := Lib.hid hc
  have B2 := Lib.hid (Only.finW B1.out ho hg)
  clear hc ho
  go_wp2_with fail
  go_ret2
  exact ⟨a, x - 1, by omega, by omega, rfl, B2.out⟩
set_option maxHeartbeats 2000000 in
theorem l13Three_any (A : Option Addr) (n c : Nat) (zs : List Int) (w : World) (h : Rd w A n (uv zs)) (hn : n ≤ 1000000000) (hz : ∀ z ∈ zs, 0 ≤ z ∧ z ≤ 255) :
    Calls Try.prog 80 #[.slice A n c] w (RetFFM w) := by
  have HR := Lib.hid h
  have HZ := Lib.hid hz
  clear h hz
  go_enter Try.func80, Try.ntmps80
  go_wp2_with fail
  refine (l1New_any _ _ _ zs _ HR.out hn HZ.out).mono ?_
  rintro e w0 ⟨g, hg, rfl, hc, hb⟩
  have C0 := Lib.hid hc
  have B0 := Lib.hid hb
  clear hc hb
  go_wp2_with fail
  refine (l13Name_any _ _ _ _ _ _ C0.out).mono ?_
  rintro e w1 ⟨a, -, rfl, hc, ho⟩
  have C1 := Lib.hid hc
  have B1 := Lib.hid (Only.finW B0.out ho hg)
  clear hc ho
  go_wp2_with fail
  refine (l13Name_any _ _ _ _ _ _ C1.out).mono ?_
  rintro e w2 ⟨b, -, rfl, hc, ho⟩
  have C2 := Lib.hid hc
  have B2 := Lib.hid (Only.finW B1.out ho hg)
  clear hc ho
  go_wp2_with fail
  refine (l1Below_any 6 (by omega) (by omega) _ _ _ _ _ _ C2.out).mono ?_
  rintro e w3 ⟨x, hx0, hx1, rfl, hc, ho⟩
  have C3 := Lib.hid hc
  have B3 := Lib.hid (Only.finW B2.out ho hg)
  clear hc ho
  go_wp2_with fail
  go_ret3
  exact ⟨a, b, x, by omega, by omega, rfl, B3.out⟩
set_option maxHeartbeats 2000000 in
theorem DrawJointTable_any (A : Option Addr) (n c : Nat) (zs : List Int) (w : World) (h : Rd w A n (uv zs)) (hn : n ≤ 1000000000) (hz : ∀ z ∈ zs, 0 ≤ z ∧ z ≤ 255) :
    Calls Try.prog 18 #[.slice A n c] w (RetFFM w) := by
  have HR := Lib.hid h
  have HZ := Lib.hid hz
  clear h hz
  go_enter Try.func18, Try.ntmps18
  go_wp2_with fail
  refine (l13Three_any _ _ _ zs _ HR.out hn HZ.out).mono ?_
  rintro e w1 ⟨a, b, x, hx0, hx1, rfl, hb⟩
  have HB := Lib.hid hb
  clear hb
  go_wp2_with fail
  go_ret3
  exact ⟨a, b, x, hx0, hx1, rfl, HB.out⟩
set_option maxHeartbeats 2000000 in
theorem DrawAreEquidistributed_any (A : Option Addr) (n c : Nat) (zs : List Int) (w : World) (h : Rd w A n (uv zs)) (hn : n ≤ 1000000000) (hz : ∀ z ∈ zs, 0 ≤ z ∧ z ≤ 255) :
    Calls Try.prog 22 #[.slice A n c] w (RetFFM w) := by
  have HR := Lib.hid h
  have HZ := Lib.hid hz
  clear h hz
  go_enter Try.func22, Try.ntmps22
  go_wp2_with fail
  refine (l13Three_any _ _ _ zs _ HR.out hn HZ.out).mono ?_
  rintro e w1 ⟨a, b, x, hx0, hx1, rfl, hb⟩
  have HB := Lib.hid hb
  clear hb
  go_wp2_with fail
  go_ret3
  exact ⟨a, b, x, hx0, hx1, rfl, HB.out⟩
set_option maxHeartbeats 2000000 in
theorem DrawIsJointlySymmetric_any (A : Option Addr) (n c : Nat) (zs : List Int) (w : World) (h : Rd w A n (uv zs)) (hn : n ≤ 1000000000) (hz : ∀ z ∈ zs, 0 ≤ z ∧ z ≤ 255) :
    Calls Try.prog 23 #[.slice A n c] w (RetFFM w) := by
  have HR := Lib.hid h
  have HZ := Lib.hid hz
  clear h hz
  go_enter Try.func23, Try.ntmps23
  go_wp2_with fail
  refine (l13Three_any _ _ _ zs _ HR.out hn HZ.out).mono ?_
  rintro e w1 ⟨a, b, x, hx0, hx1, rfl, hb⟩
  have HB := Lib.hid hb
  clear hb
  go_wp2_with fail
  go_ret3
  exact ⟨a, b, x, hx0, hx1, rfl, HB.out⟩

end Go.Proofs.Yteiffomekjadgaa
