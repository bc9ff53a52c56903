/- Merged: Draw3 Draw4 DrawV SameW SameI. -/
import Derived.Test.YtghfhkbncjgaeaaGreatMh52
import Derived.Test.YtghfhkbncjgaeaaGreatMg22
import Derived.Test.YtghfhkbncjgaeaaGreatMg42
import Derived.Test.YtghfhkbncjgaeaaGreatMg5
import Derived.Test.YtghfhkbncjgaeaaGreatMg49
import Derived.Test.YtghfhkbncjgaeaaGreatMg8
import Derived.Test.YtghfhkbncjgaeaaGreatMg3
import Derived.StillTailTactics

namespace Go.Proofs.YtghfhkbncjgaeaaGreat
set_option linter.unusedVariables false
set_option linter.unusedSimpArgs false
open Go.RowKit



theorem Rd.onlyNe {w w' : World} {A : Option Addr} {n g : Nat} {vs : List Value} (h : Rd w A n vs) (ho : Only g (g + 1) w w') (hb : 0 < n → ∀ ad, A = some ad → ad.block ≠ g) : Rd w' A n vs :=
  ⟨h.1, fun hn => by
    obtain ⟨b, off, e, hc⟩ := h.2 hn
    have hlt : b < w.heap.size := h.lt hn _ e
    have hne : b ≠ g := hb hn _ e
    exact ⟨b, off, e, fun j u hu => (World.cell?_of_block (ho.block b hlt (by omega))).trans (hc j u hu)⟩⟩
set_option maxHeartbeats 2000000 in
theorem l1Pick_any (xs : List (List UInt8)) (L : Option Addr) (k d : Nat) (hk1 : 1 ≤ k) (hk2 : k ≤ 256) (g : Nat) (A : Option Addr) (n c : Nat) (zs : List Int) (w : World) (h : Cur w g A n c zs) (hL : Rd w L k (sv xs)) (hne : 0 < k → ∀ ad, L = some ad → ad.block ≠ g) :
    Calls Tryz.prog 83 #[.pointer (some ⟨g, 0, none⟩), .slice L k d] w (RetDS (fun l => l ∈ xs) g A n c zs w) := by
  have HC := Lib.hid h
  have HL := Lib.hid hL
  have HNE := Lib.hid hne
  clear h hL hne
  go_enter Tryz.func83, Tryz.ntmps83
  go_wp2_with fail
  refine (l1Below_any k hk1 hk2 _ _ _ _ _ _ HC.out).mono ?_
  rintro e w1 ⟨x, hx0, hx1, rfl, hc, ho⟩
  have C1 := Lib.hid hc
  have O1 := Lib.hid ho
  have HL1 := Lib.hid (HL.out.onlyNe ho HNE.out)
  obtain ⟨K, rfl⟩ := Int.eq_ofNat_of_zero_le hx0
  have hK : K < k := by omega
  clear hc ho hx0 hx1
  obtain ⟨b, off, y, rfl, hy, hcy⟩ := HL1.out.ats hK
  have i1 : (0 : Int) ≤ (K : Int) := by omega
  have i2 : (K : Int) < (k : Int) := by omega
  have HM := Lib.hid (List.mem_of_getElem? hy)
  clear hy
  go_wp2_with fail
  go_ret
  exact ⟨y, HM.out, rfl, C1.out, O1.out⟩

theorem u8wrap_bd (x : Int) : 0 ≤ IntKind.u8.wrap x ∧ IntKind.u8.wrap x ≤ 255 := by rw [IntKind.wrap_u8']; omega
theorem u8wrap_bd' {x V : Int} (h : IntKind.u8.wrap x = V) : 0 ≤ V ∧ V ≤ 255 := by rw [← h]; exact u8wrap_bd x

end Go.Proofs.YtghfhkbncjgaeaaGreat

namespace Go.Proofs.YtghfhkbncjgaeaaGreat
set_option linter.unusedVariables false
open Go.RowKit

theorem RetDS.imp {p q : List UInt8 → Prop} {g n c : Nat} {A : Option Addr} {zs : List Int} {w : World} {e : Ending} {w' : World} (h : RetDS p g A n c zs w e w') (hpq : ∀ l, p l → q l) : RetDS q g A n c zs w e w' := by
  obtain ⟨l, hl, r⟩ := h
  exact ⟨l, hpq l hl, r⟩


/-- Two words that are drawn. -/
def RetW2 (w : World) (e : Ending) (w' : World) : Prop :=
  ∃ a b : List UInt8, a.length ≤ 1000 ∧ b.length ≤ 1000 ∧ e = .returned (.tuple #[.string (bs a), .string (bs b)]) ∧ Below w.heap.size w w'
/-- A word that is drawn. -/
def RetW1 (w : World) (e : Ending) (w' : World) : Prop :=
  ∃ a : List UInt8, a.length ≤ 1000 ∧ e = .returned (.string (bs a)) ∧ Below w.heap.size w w'
/-- A number that is drawn. -/
def RetN1 (lo hi : Int) (w : World) (e : Ending) (w' : World) : Prop :=
  ∃ x : Int, lo ≤ x ∧ x ≤ hi ∧ e = .returned (.int .i64 x) ∧ Below w.heap.size w w'

end Go.Proofs.YtghfhkbncjgaeaaGreat

namespace Go.Proofs.YtghfhkbncjgaeaaGreat
set_option linter.unusedVariables false
open Go.RowKit

theorem Only.finV {g : Nat} {w w1 w2 : World} (hb : Below w.heap.size w w1) (ho : Only g (g + 1) w1 w2) (hg : w.heap.size ≤ g) : Below w.heap.size w w2 := hb.trans (ho.below hg hb.size)
def fams : List (List UInt8) := [[109, 97, 116, 99, 104, 105, 110, 103, 115], [112, 97, 114, 116, 105, 116, 105, 111, 110, 115], [116, 114, 105, 97, 110, 103, 117, 108, 97, 116, 105, 111, 110, 115]]
theorem own_famsV (w : World) : Own (w.alloc (.cells #[.string (bs [109, 97, 116, 99, 104, 105, 110, 103, 115]), .string (bs [112, 97, 114, 116, 105, 116, 105, 111, 110, 115]), .string (bs [116, 114, 105, 97, 110, 103, 117, 108, 97, 116, 105, 111, 110, 115])] 9)) 9 w.heap.size (some ⟨w.heap.size, 0, none⟩) 3 3 (sv fams) :=
  Own.lit w 9 #[.string (bs [109, 97, 116, 99, 104, 105, 110, 103, 115]), .string (bs [112, 97, 114, 116, 105, 116, 105, 111, 110, 115]), .string (bs [116, 114, 105, 97, 110, 103, 117, 108, 97, 116, 105, 111, 110, 115])] 3 rfl (by decide)
theorem specFamilyNames_any (w : World) : Calls Tryz.prog 28 #[] w fun e w' => ∃ R d, e = .returned (.slice R 3 d) ∧ Own w' 9 w.heap.size R 3 d (sv fams) ∧ Below w.heap.size w w' := by
  go_enter Tryz.func28, Tryz.ntmps28
  go_wp2_with fail
  go_ret
  exact ⟨_, _, rfl, own_famsV w, (Below.refl _ _).alloc (Nat.le_refl _) _⟩
theorem implFamilyNames_any (w : World) : Calls Tryz.prog 27 #[] w fun e w' => ∃ R d, e = .returned (.slice R 3 d) ∧ Own w' 9 w.heap.size R 3 d (sv fams) ∧ Below w.heap.size w w' := by
  go_enter Tryz.func27, Tryz.ntmps27
  go_wp2_with fail
  go_ret
  exact ⟨_, _, rfl, own_famsV w, (Below.refl _ _).alloc (Nat.le_refl _) _⟩
set_option maxHeartbeats 2000000 in
theorem l15Family_any (g : Nat) (A : Option Addr) (n c : Nat) (zs : List Int) (w : World) (h : Cur w g A n c zs) :
    Calls Tryz.prog 45 #[.pointer (some ⟨g, 0, none⟩)] w (RetDS (fun l => l.length ≤ 1000) g A n c zs w) := by
  have HC := Lib.hid h
  have hg := h.lt
  clear h
  go_enter Tryz.func45, Tryz.ntmps45
  go_wp2_with fail
  refine (l1Once_any 14 (by omega) (by omega) _ _ _ _ _ _ HC.out).mono ?_
  rintro e w1 ⟨q, rfl, hc, ho⟩
  have C1 := Lib.hid hc
  have O1 := Lib.hid ho
  clear hc ho
  rcases q with _ | _
  · go_wp2_with fail
    refine (specFamilyNames_any _).mono ?_
    rintro e w2 ⟨R, d, rfl, hown, hb⟩
    have C2 := Lib.hid (C1.out.below hb)
    have O2 := Lib.hid (O1.out.trans (Only.of_below hb))
    have OW := Lib.hid hown
    have hg1 : g < w1.heap.size := C1.out.lt
    clear hown hb
    go_wp2_with fail
    refine (l1Below_any 3 (by omega) (by omega) _ _ _ _ _ _ C2.out).mono ?_
    rintro e w3 ⟨x, hx0, hx1, rfl, hc, ho⟩
    have C3 := Lib.hid hc
    have O3 := Lib.hid (O2.out.trans ho)
    have OW3 := Lib.hid (OW.out.onlyD ho hg1)
    obtain ⟨K, rfl⟩ := Int.eq_ofNat_of_zero_le hx0
    have hK : K < 3 := by omega
    clear hc ho hx0 hx1
    obtain ⟨bl, off, y, hA, hy, hcy⟩ := OW3.out.rd.ats hK
    subst hA
    have HM := Lib.hid (show y.length ≤ 1000 by
      have := List.mem_of_getElem? hy
      simp only [fams, List.mem_cons, List.not_mem_nil, or_false] at this
      rcases this with rfl | rfl | rfl <;> simp)
    have i1 : (0 : Int) ≤ (K : Int) := by omega
    have i2 : (K : Int) < 3 := by omega
    clear hy
    go_wp2_with fail
    go_ret
    exact ⟨y, HM.out, rfl, C3.out, O3.out⟩
  · go_wp2_with fail
    refine (l1Pick_any [[], [116, 114, 101, 101, 115]] _ 2 2 (by omega) (by omega) _ _ _ _ _ _ (C1.out.below ((Below.refl _ _).alloc (Nat.le_refl _) _)) (by exact (Own.lit w1 _ _ 2 rfl (by decide)).rd) (fun _ ad h => by injection h with h; subst h; show w1.heap.size ≠ g; have := C1.out.lt; omega)).mono ?_
    rintro e w3 ⟨x, hx, rfl, hc, ho⟩
    have C3 := Lib.hid hc
    have O3 := Lib.hid ((O1.out.trans (Only.of_below ((Below.refl w1.heap.size w1).alloc (Nat.le_refl _) _))).trans ho)
    have HX := Lib.hid (show x.length ≤ 1000 by simp only [List.mem_cons, List.not_mem_nil, or_false] at hx; rcases hx with rfl | rfl <;> simp)
    clear hc ho hx
    go_wp2_with fail
    go_ret
    exact ⟨x, HX.out, rfl, C3.out, O3.out⟩

/-- A name and a number. -/
def RetFN (lo hi : Int) (w : World) (e : Ending) (w' : World) : Prop :=
  ∃ (a : List UInt8) (v : Int), a.length ≤ 1000 ∧ lo ≤ v ∧ v ≤ hi ∧ e = .returned (.tuple #[.string (bs a), .int .i64 v]) ∧ Below w.heap.size w w'
set_option maxHeartbeats 2000000 in
theorem l15Both_any (A : Option Addr) (n c : Nat) (zs : List Int) (w : World) (h : Rd w A n (uv zs)) (hn : n ≤ 1000000000) (hz : ∀ z ∈ zs, 0 ≤ z ∧ z ≤ 255) :
    Calls Tryz.prog 32 #[.slice A n c] w (RetFN 0 6 w) := by
  have HR := Lib.hid h
  have HZ := Lib.hid hz
  clear h hz
  go_enter Tryz.func32, Tryz.ntmps32
  go_wp2_with fail
  refine (l1New_any _ _ _ zs _ HR.out hn HZ.out).mono ?_
  rintro e w0 ⟨g, hg, rfl, hc, hb⟩
  have C0 := Lib.hid hc
  have B0 := Lib.hid hb
  clear hc hb
  go_wp2_with fail
  refine (l15Family_any _ _ _ _ _ _ C0.out).mono ?_
  rintro e w1 ⟨a, ha, rfl, hc, ho⟩
  have C1 := Lib.hid hc
  have B1 := Lib.hid (Only.finV B0.out ho hg)
  have HA := Lib.hid ha
  clear hc ho ha
  go_wp2_with fail
  refine (l1Below_any 7 (by omega) (by omega) _ _ _ _ _ _ C1.out).mono ?_
  rintro e w2 ⟨x, hx0, hx1, rfl, hc, ho⟩
  have B2 := Lib.hid (Only.finV B1.out ho hg)
  clear hc ho
  go_wp2_with fail
  go_ret2
  exact ⟨a, x, HA.out, by omega, by omega, rfl, B2.out⟩
theorem DrawSieveHolds_any (A : Option Addr) (n c : Nat) (zs : List Int) (w : World) (h : Rd w A n (uv zs)) (hn : n ≤ 1000000000) (hz : ∀ z ∈ zs, 0 ≤ z ∧ z ≤ 255) :
    Calls Tryz.prog 7 #[.slice A n c] w (RetFN 0 6 w) := by
  have HR := Lib.hid h
  have HZ := Lib.hid hz
  clear h hz
  go_enter Tryz.func7, Tryz.ntmps7
  go_wp2_with fail
  refine (l15Both_any _ _ _ zs _ HR.out hn HZ.out).mono ?_
  rintro e w1 ⟨a, x, ha, hx0, hx1, rfl, hb⟩
  have HA := Lib.hid ha
  have HB := Lib.hid hb
  clear ha hb
  go_wp2_with fail
  go_ret2
  exact ⟨a, x, HA.out, hx0, hx1, rfl, HB.out⟩
/-- A name and two numbers. -/
def RetFNN (w : World) (e : Ending) (w' : World) : Prop :=
  ∃ (a : List UInt8) (u v : Int), a.length ≤ 1000 ∧ 0 ≤ u ∧ u ≤ 5 ∧ -1 ≤ v ∧ v ≤ 7 ∧ e = .returned (.tuple #[.string (bs a), .int .i64 u, .int .i64 v]) ∧ Below w.heap.size w w'
set_option maxHeartbeats 2000000 in
theorem DrawFixedByTurn_any (A : Option Addr) (n c : Nat) (zs : List Int) (w : World) (h : Rd w A n (uv zs)) (hn : n ≤ 1000000000) (hz : ∀ z ∈ zs, 0 ≤ z ∧ z ≤ 255) :
    Calls Tryz.prog 18 #[.slice A n c] w (RetFNN w) := by
  have HR := Lib.hid h
  have HZ := Lib.hid hz
  clear h hz
  go_enter Tryz.func18, Tryz.ntmps18
  go_wp2_with fail
  refine (l1New_any _ _ _ zs _ HR.out hn HZ.out).mono ?_
  rintro e w0 ⟨g, hg, rfl, hc, hb⟩
  have C0 := Lib.hid hc
  have B0 := Lib.hid hb
  clear hc hb
  go_wp2_with fail
  refine (l15Family_any _ _ _ _ _ _ C0.out).mono ?_
  rintro e w1 ⟨a, ha, rfl, hc, ho⟩
  have C1 := Lib.hid hc
  have B1 := Lib.hid (Only.finV B0.out ho hg)
  have HA := Lib.hid ha
  clear hc ho ha
  go_wp2_with fail
  refine (l1Below_any 6 (by omega) (by omega) _ _ _ _ _ _ C1.out).mono ?_
  rintro e w2 ⟨x, hx0, hx1, rfl, hc, ho⟩
  have C2 := Lib.hid hc
  have B2 := Lib.hid (Only.finV B1.out ho hg)
  clear hc ho
  go_wp2_with fail
  refine (l1Below_any 9 (by omega) (by omega) _ _ _ _ _ _ C2.out).mono ?_
  rintro e w3 ⟨y, hy0, hy1, rfl, hc, ho⟩
  have B3 := Lib.hid (Only.finV B2.out ho hg)
  clear hc ho
  go_wp2_with fail
  go_ret3
  exact ⟨a, x, y - 1, HA.out, by omega, by omega, by omega, by omega, rfl, B3.out⟩
theorem DrawCyclotomicPolynomial_any (A : Option Addr) (n c : Nat) (zs : List Int) (w : World) (h : Rd w A n (uv zs)) (hn : n ≤ 1000000000) (hz : ∀ z ∈ zs, 0 ≤ z ∧ z ≤ 255) :
    Calls Tryz.prog 19 #[.slice A n c] w (RetN1 (-1) 17 w) := by
  have HR := Lib.hid h
  have HZ := Lib.hid hz
  clear h hz
  go_enter Tryz.func19, Tryz.ntmps19
  go_wp2_with fail
  refine (l1New_any _ _ _ zs _ HR.out hn HZ.out).mono ?_
  rintro e w0 ⟨g, hg, rfl, hc, hb⟩
  have C0 := Lib.hid hc
  have B0 := Lib.hid hb
  clear hc hb
  go_wp2_with fail
  refine (l1Below_any 19 (by omega) (by omega) _ _ _ _ _ _ C0.out).mono ?_
  rintro e w1 ⟨x, hx0, hx1, rfl, hc, ho⟩
  have B1 := Lib.hid (Only.finV B0.out ho hg)
  clear hc ho
  go_wp2_with fail
  go_ret
  exact ⟨x - 1, by omega, by omega, rfl, B1.out⟩
set_option maxHeartbeats 2000000 in
theorem l1PickIntV_any (xs : List Int) (L : Option Addr) (k d : Nat) (hk1 : 1 ≤ k) (hk2 : k ≤ 256) (lo hi : Int) (hx : ∀ x ∈ xs, lo ≤ x ∧ x ≤ hi) (g : Nat) (A : Option Addr) (n c : Nat) (zs : List Int) (w : World) (h : Cur w g A n c zs) (hL : Rd w L k (iv xs)) (hne : 0 < k → ∀ ad, L = some ad → ad.block ≠ g) :
    Calls Tryz.prog 88 #[.pointer (some ⟨g, 0, none⟩), .slice L k d] w (RetD lo hi g A n c zs w) := by
  have HC := Lib.hid h
  have HL := Lib.hid hL
  have HNE := Lib.hid hne
  have HX := Lib.hid hx
  clear h hL hne hx
  go_enter Tryz.func88, Tryz.ntmps88
  go_wp2_with fail
  refine (l1Below_any k hk1 hk2 _ _ _ _ _ _ HC.out).mono ?_
  rintro e w1 ⟨x, hx0, hx1, rfl, hc, ho⟩
  have C1 := Lib.hid hc
  have O1 := Lib.hid ho
  have HL1 := Lib.hid (HL.out.onlyNe ho HNE.out)
  obtain ⟨K, rfl⟩ := Int.eq_ofNat_of_zero_le hx0
  have hK : K < k := by omega
  clear hc ho hx0 hx1
  obtain ⟨b, off, y, rfl, hy, hcy⟩ := HL1.out.ati hK
  have i1 : (0 : Int) ≤ (K : Int) := by omega
  have i2 : (K : Int) < (k : Int) := by omega
  have HM := Lib.hid (HX.out y (List.mem_of_getElem? hy))
  clear hy
  go_wp2_with fail
  go_ret
  exact ⟨y, HM.out.1, HM.out.2, rfl, C1.out, O1.out⟩
/-- A polynomial that is drawn. -/
def RetDL (g : Nat) (A : Option Addr) (n c : Nat) (zs : List Int) (w : World) (e : Ending) (w' : World) : Prop :=
  ∃ (L : Option Addr) (m d : Nat) (ys : List Int), m ≤ 1048576 ∧ e = .returned (.slice L m d) ∧ Own w' 3 w.heap.size L m d (iv ys) ∧ Cur w' g A n c zs ∧ Only g (g + 1) w w'
theorem own_nilV {w : World} {e : TypeId} {B : Nat} {A : Option Addr} {n c : Nat} {vs : List Value} (h : Own w e B A n c vs) : A = none → c = 0 := by
  intro hA
  rcases h.form with ⟨_, _, h3⟩ | ⟨g, h1, _⟩
  · exact h3
  · rw [h1] at hA; cases hA
set_option maxRecDepth 20000 in
set_option maxHeartbeats 4000000 in
theorem l14Any_any (g : Nat) (A : Option Addr) (n c : Nat) (zs : List Int) (w : World) (h : Cur w g A n c zs) :
    Calls Tryz.prog 52 #[.pointer (some ⟨g, 0, none⟩)] w (RetDL g A n c zs w) := by
  have HC := Lib.hid (h.below ((Below.refl w.heap.size w).alloc (Nat.le_refl _) (.cells #[] 3)))
  have hg := h.lt
  have HA := Lib.hid h.rd.lt
  have HO0 := Lib.hid (own_empty w)
  have HON := Lib.hid (show Only g (g + 1) w (w.alloc (.cells #[] 3)) from Only.of_below ((Below.refl w.heap.size w).alloc (Nat.le_refl _) _))
  clear h
  go_enter Tryz.func52, Tryz.ntmps52
  go_wp2_with fail
  refine (l1Below_any 6 (by omega) (by omega) _ _ _ _ _ _ HC.out).mono ?_
  rintro e w1 ⟨x, hx0, hx1, rfl, hc, ho⟩
  have C1 := Lib.hid hc
  have O1 := Lib.hid (HON.out.trans ho)
  have OW1 := Lib.hid (HO0.out.onlyD ho hg)
  obtain ⟨K, rfl⟩ := Int.eq_ofNat_of_zero_le hx0
  have hK : K ≤ 5 := by omega
  clear hc ho hx0 hx1
  go_wp2_with fail
  go_loopw [3, 4] (fun s kx wr => ∃ (k q : Nat) (A1 : Option Addr) (c1 : Nat) (ys : List Int), kx = .int .i64 k ∧ s = .slice A1 q c1 ∧ q + k ≤ 5 ∧ Own wr 3 w.heap.size A1 q c1 (iv ys) ∧ Cur wr g A n c zs ∧ Only g (g + 1) w wr) (fun _ kx _ => (intOf kx).toNat)
  case atStart => exact ⟨K, 0, _, _, [], rfl, rfl, by omega, OW1.out, C1.out, O1.out⟩
  case round =>
    obtain ⟨k, q, A1, c1, ys, rfl, rfl, hqk, hown, hc, ho⟩ := hrel
    obtain ⟨w3, rfl⟩ : ∃ W, W = wr := ⟨wr, rfl⟩
    have OW3 := Lib.hid hown
    have C3 := Lib.hid hc
    have O3 := Lib.hid ho
    clear hown hc ho
    by_cases hk : 0 < k
    · have hk1 : (0 : Int) < (k : Int) := by omega
      go_wp2_with fail
      refine (l1Below_any 7 (by omega) (by omega) _ _ _ _ _ _ C3.out).mono ?_
      rintro e w4 ⟨b, hb0, hb1, rfl, hc, ho⟩
      have C4 := Lib.hid hc
      have O4 := Lib.hid (O3.out.trans ho)
      have OW4 := Lib.hid (OW3.out.onlyD ho hg)
      have hs4 := O4.out.size
      clear hc ho
      go_wp2_with (at_builtin; refine appI _ rfl _ _ rfl w.heap.size A1 q c1 _ rfl (OW4.out.alloc _) w4.heap.size (b - 3) rfl (by simp) (by omega) hs4 ?_; intro A' c' w' hown' hg' hb')
      have OW5 := Lib.hid (show Own w' 3 w.heap.size A' (q + 1) c' (iv (ys ++ [b - 3])) by rw [iv_snoc]; exact hown')
      have hb5 := ((Below.refl w.heap.size w4).alloc hs4 (.cells #[.int .i64 (b - 3)] 3)).trans hb'
      have C5 := Lib.hid (C4.out.belowB hb5 hg HA.out)
      have O5 := Lib.hid (O4.out.then_below hb5)
      clear hown' hg' hb'
      go_wp2_with fail
      go_roundw
      case rel => exact ⟨k - 1, q + 1, A', c', _, by go_num, rfl, by omega, OW5.out, C5.out, O5.out⟩
      case measure => simp [intOf]; omega
    · have hk1 : ¬ (0 : Int) < (k : Int) := by omega
      go_wp2_with fail
      refine (l1Once_any 8 (by omega) (by omega) _ _ _ _ _ _ C3.out).mono ?_
      rintro e w4 ⟨b, rfl, hc, ho⟩
      have C4 := Lib.hid hc
      have O4 := Lib.hid (O3.out.trans ho)
      have OW4 := Lib.hid (OW3.out.onlyD ho hg)
      have hs4 := O4.out.size
      clear hc ho
      rcases b with _ | _
      · have hcap := own_capT2 OW4.out
        have HCP := Lib.hid hcap
        clear hcap
        go_wp2_with fail
        refine (l14Trim_any _ _ _ _ _ OW4.out.rd (by omega) HCP.out.1 HCP.out.2 (own_nilV OW4.out)).mono ?_
        rintro e w5 ⟨A5, n5, c5, hn5, rfl, hown, hb⟩
        have C5 := Lib.hid (C4.out.below hb)
        have O5 := Lib.hid (O4.out.trans (Only.of_below hb))
        have OW5 := Lib.hid (hown.mono hs4)
        have HN := Lib.hid (show n5 ≤ 1048576 by
          rw [hn5, trimL_len]
          have h1 := tz_le ys ys.length
          have h2 := OW4.out.len
          rw [iv_len] at h2
          omega)
        clear hown hb hn5
        go_wp2_with fail
        go_ret
        exact ⟨A5, n5, c5, _, HN.out, rfl, OW5.out, C5.out, O5.out⟩
      · go_wp2_with fail
        refine (l1PickIntV_any [0, 100001, 1000000000, 1000000001, -9223372036854775808] _ 5 5 (by omega) (by omega) (-9223372036854775808) 1000000001 (by decide) _ _ _ _ _ _ (C4.out.below ((Below.refl _ _).alloc (Nat.le_refl _) _)) (by exact (Own.lit w4 _ _ 5 rfl (by decide)).rd) (fun _ ad h => by injection h with h; subst h; show w4.heap.size ≠ g; have := C4.out.lt; omega)).mono ?_
        rintro e w5 ⟨y, hy0, hy1, rfl, hc, ho⟩
        have hba : Below w4.heap.size w4 (w4.alloc (.cells #[.int .i64 0, .int .i64 100001, .int .i64 1000000000, .int .i64 1000000001, .int .i64 (-9223372036854775808)] 3)) := (Below.refl _ _).alloc (Nat.le_refl _) _
        have O5 := Lib.hid ((O4.out.trans (Only.of_below hba)).trans ho)
        have OW5 := Lib.hid ((OW4.out.below hba).onlyD ho hg)
        have C5 := Lib.hid hc
        have hs5 := O5.out.size
        clear hc ho hba
        go_wp2_with (at_builtin; refine appI _ rfl _ _ rfl w.heap.size A1 q c1 _ rfl (OW5.out.alloc _) w5.heap.size y rfl (by simp) (by omega) hs5 ?_; intro A' c' w' hown' hg' hb')
        have OW6 := Lib.hid (show Own w' 3 w.heap.size A' (q + 1) c' (iv (ys ++ [y])) by rw [iv_snoc]; exact hown')
        have hb5 := ((Below.refl w.heap.size w5).alloc hs5 (.cells #[.int .i64 y] 3)).trans hb'
        have C6 := Lib.hid (C5.out.belowB hb5 hg HA.out)
        have O6 := Lib.hid (O5.out.then_below hb5)
        clear hown' hg' hb'
        go_wp2_with fail
        go_ret
        exact ⟨A', q + 1, c', _, by omega, rfl, OW6.out, C6.out, O6.out⟩
/-- A polynomial and a number that are drawn. -/
def RetPN (w : World) (e : Ending) (w' : World) : Prop :=
  ∃ (L : Option Addr) (m d : Nat) (ys : List Int) (v : Int), m ≤ 1048576 ∧ e = .returned (.tuple #[.slice L m d, .int .i64 v]) ∧ Own w' 3 w.heap.size L m d (iv ys) ∧ Below w.heap.size w w'
set_option maxRecDepth 20000 in
set_option maxHeartbeats 4000000 in
theorem DrawValueAtRoot_any (A : Option Addr) (n c : Nat) (zs : List Int) (w : World) (h : Rd w A n (uv zs)) (hn : n ≤ 1000000000) (hz : ∀ z ∈ zs, 0 ≤ z ∧ z ≤ 255) :
    Calls Tryz.prog 23 #[.slice A n c] w (RetPN w) := by
  have HR := Lib.hid h
  have HZ := Lib.hid hz
  clear h hz
  go_enter Tryz.func23, Tryz.ntmps23
  go_wp2_with fail
  refine (l1New_any _ _ _ zs _ HR.out hn HZ.out).mono ?_
  rintro e w0 ⟨g, hg, rfl, hc, hb⟩
  have C0 := Lib.hid hc
  have B0 := Lib.hid hb
  clear hc hb
  go_wp2_with fail
  refine (l1Once_any 2 (by omega) (by omega) _ _ _ _ _ _ C0.out).mono ?_
  rintro e w1 ⟨q, rfl, hc, ho⟩
  have C1 := Lib.hid hc
  have B1 := Lib.hid (Only.finV B0.out ho hg)
  clear hc ho
  rcases q with _ | _
  · go_wp2_with fail
    refine (l14Any_any _ _ _ _ _ _ C1.out).mono ?_
    rintro e w2 ⟨L, m, d, ys, hm, rfl, hown, hc, ho⟩
    have C2 := Lib.hid hc
    have B2 := Lib.hid (Only.finV B1.out ho hg)
    have OW2 := Lib.hid hown
    have hg1 := C1.out.lt
    clear hc ho hown
    go_wp2_with fail
    refine (l1Below_any 18 (by omega) (by omega) _ _ _ _ _ _ C2.out).mono ?_
    rintro e w3 ⟨x, hx0, hx1, rfl, hc, ho⟩
    have B3 := Lib.hid (Only.finV B2.out ho hg)
    have OW3 := Lib.hid ((OW2.out.onlyD ho hg1).mono B1.out.size)
    clear hc ho
    go_wp2_with fail
    go_ret2
    exact ⟨L, m, d, ys, x, hm, rfl, OW3.out, B3.out⟩
  · go_wp2_with fail
    refine (l1Below_any 7 (by omega) (by omega) _ _ _ _ _ _ C1.out).mono ?_
    rintro e w2 ⟨x, hx0, hx1, rfl, hc, ho⟩
    have C2 := Lib.hid hc
    have B2 := Lib.hid (Only.finV B1.out ho hg)
    clear hc ho
    go_wp2_with fail
    refine (specCatalanPolynomial_any _ _).mono ?_
    rintro e w3 ⟨L, m, d, hm, rfl, hown, hb⟩
    have C3 := Lib.hid (C2.out.below hb)
    have B3 := Lib.hid (B2.out.trans (hb.mono B2.out.size))
    have OW3 := Lib.hid hown
    have hg2 := C2.out.lt
    have HM := Lib.hid (show m ≤ 1048576 by rw [hm]; exact catP_len x)
    clear hb hown hm
    go_wp2_with fail
    refine (l1Below_any 8 (by omega) (by omega) _ _ _ _ _ _ C3.out).mono ?_
    rintro e w4 ⟨y, hy0, hy1, rfl, hc, ho⟩
    have B4 := Lib.hid (Only.finV B3.out ho hg)
    have OW4 := Lib.hid ((OW3.out.onlyD ho hg2).mono B2.out.size)
    clear hc ho
    go_wp2_with fail
    go_ret2
    exact ⟨L, m, d, _, 1 + y, HM.out, rfl, OW4.out, B4.out⟩


end Go.Proofs.YtghfhkbncjgaeaaGreat

namespace Go.Proofs.YtghfhkbncjgaeaaGreat
set_option linter.unusedVariables false
open Go.RowKit

theorem IsRow.len_leu {w : World} {a : Option Addr} {len cap : Nat} {zs : List Int} (h : IsRow .u8 w a len cap zs) : len ≤ maxLen := by
  rcases h with ⟨_, rfl, _, _⟩ | ⟨x, rfl, hl, hm, hz, hc, _⟩
  · exact Nat.zero_le _
  · omega
theorem IsRow.rdu {w : World} {a : Option Addr} {len cap : Nat} {zs : List Int} (h : IsRow .u8 w a len cap zs) : Rd w a len (uv (zs.take len)) ∧ ∀ z ∈ zs.take len, 0 ≤ z ∧ z ≤ 255 := by
  rcases h with ⟨rfl, rfl, rfl, rfl⟩ | ⟨x, rfl, hl, hm, hz, hc, hwf⟩
  · exact ⟨Rd.none_, fun z hz => by simp at hz⟩
  · refine ⟨⟨by simp [uv]; omega, fun hn => ?_⟩, fun z hz => ?_⟩
    · obtain ⟨b, off, spot⟩ := x
      have h0 := hc 0 (by omega)
      have hspot : spot = none := by simpa [Addr.add] using World.cell?_spot h0
      subst hspot
      refine ⟨b, off, rfl, fun j u hu => ?_⟩
      unfold uv at hu
      rw [List.getElem?_map, Option.map_eq_some_iff] at hu
      obtain ⟨z, hz', rfl⟩ := hu
      have hj := (List.getElem?_eq_some_iff.1 hz').1
      rw [List.length_take] at hj
      rw [List.getElem?_take_of_lt (by omega)] at hz'
      have := hc j (by omega)
      rw [show (⟨b, off, none⟩ : Addr).add j = ⟨b, off + j, none⟩ from by unfold Addr.add; split <;> simp_all] at this
      rw [this, List.getD_eq_getElem?_getD, hz']; rfl
    · have h1 := hwf z (List.mem_of_mem_take hz)
      have h2 : (decide ((0 : Int) ≤ z) && decide (z ≤ 255)) = true := h1
      simpa using h2

theorem big_yes (A : Option Addr) (n c : Nat) (w : World) (h : 1048576 < n) : Calls Tryz.prog 6 #[.slice A n c] w fun e w' => e = .returned (.bool true) ∧ w = w' := by
  have q1 : (1048576 : Int) < (n : Int) := by omega
  go_enter Tryz.func6, Tryz.ntmps6
  go_wp2_with fail
  go_ret
  exact ⟨ret_bool (by simp), rfl⟩
theorem big_no (A : Option Addr) (n c : Nat) (w : World) (h : n ≤ 1048576) : Calls Tryz.prog 6 #[.slice A n c] w fun e w' => e = .returned (.bool false) ∧ w = w' := by
  have q1 : ¬ (1048576 : Int) < (n : Int) := by omega
  go_enter Tryz.func6, Tryz.ntmps6
  go_wp2_with fail
  go_ret
  exact ⟨ret_bool (by simp), rfl⟩

set_option maxHeartbeats 1000000 in
theorem sameWords_eq (A B : Option Addr) (n c d : Nat) (xs : List (List UInt8)) (w : World) (h : Rd w A n (sv xs)) (h' : Rd w B n (sv xs)) (hn : n ≤ 1000000000) :
    Calls Tryz.prog 26 #[.slice A n c, .slice B n d] w fun e w' => e = .returned (.bool true) ∧ Below w.heap.size w w' := by
  have HA := Lib.hid h
  have HB := Lib.hid h'
  clear h h'
  have e0 : ((n : Int) != (n : Int)) = false := by simp
  go_enter Tryz.func26, Tryz.ntmps26
  go_wp2_with fail
  go_loopw [5] (fun ix wr => ∃ i d : Nat, i ≤ n ∧ ix = .int .i64 i ∧ wr = w.drewN d) (fun ix _ => n - (intOf ix).toNat)
  case atStart => exact ⟨0, 0, Nat.zero_le _, rfl, rfl⟩
  case round =>
    obtain ⟨i, d, hi, rfl, rfl⟩ := hrel
    by_cases hlt : i < n
    · obtain ⟨b1, o1, x, rfl, hx, hcx⟩ := HA.out.ats hlt
      obtain ⟨b2, o2, y, rfl, hy, hcy⟩ := HB.out.ats hlt
      rw [hx] at hy
      injection hy with hy
      subst hy
      have i1 : (0 : Int) ≤ (i : Int) := by omega
      have i2 : (i : Int) < (n : Int) := by omega
      clear hx
      go_wp2_with fail
      go_quiet (fail)
      go_wp2_with fail
      go_roundw
      case rel => exact ⟨i + 1, _, by omega, by go_num, rfl⟩
      case measure => simp [intOf]; omega
    · go_wp2_with fail
      go_ret
      exact ⟨rfl, below_of_drewN ⟨d, rfl⟩⟩

end Go.Proofs.YtghfhkbncjgaeaaGreat

namespace Go.Proofs.YtghfhkbncjgaeaaGreat
set_option linter.unusedVariables false
open Go.RowKit

set_option maxHeartbeats 1000000 in
theorem sameInts_eq (A B : Option Addr) (n c d : Nat) (xs : List Int) (w : World) (h : Rd w A n (iv xs)) (h' : Rd w B n (iv xs)) (hn : n ≤ 1000000000) :
    Calls Tryz.prog 14 #[.slice A n c, .slice B n d] w fun e w' => e = .returned (.bool true) ∧ Below w.heap.size w w' := by
  have HA := Lib.hid h
  have HB := Lib.hid h'
  clear h h'
  have e0 : ((n : Int) != (n : Int)) = false := by simp
  go_enter Tryz.func14, Tryz.ntmps14
  go_wp2_with fail
  go_loopw [5] (fun ix wr => ∃ i d : Nat, i ≤ n ∧ ix = .int .i64 i ∧ wr = w.drewN d) (fun ix _ => n - (intOf ix).toNat)
  case atStart => exact ⟨0, 0, Nat.zero_le _, rfl, rfl⟩
  case round =>
    obtain ⟨i, d, hi, rfl, rfl⟩ := hrel
    by_cases hlt : i < n
    · obtain ⟨b1, o1, x, rfl, hx, hcx⟩ := HA.out.ati hlt
      obtain ⟨b2, o2, y, rfl, hy, hcy⟩ := HB.out.ati hlt
      rw [hx] at hy
      injection hy with hy
      subst hy
      have i1 : (0 : Int) ≤ (i : Int) := by omega
      have i2 : (i : Int) < (n : Int) := by omega
      have e1 : (x != x) = false := by simp
      clear hx
      go_wp2_with fail
      go_quiet (fail)
      go_wp2_with fail
      go_roundw
      case rel => exact ⟨i + 1, _, by omega, by go_num, rfl⟩
      case measure => simp [intOf]; omega
    · go_wp2_with fail
      go_ret
      exact ⟨rfl, below_of_drewN ⟨d, rfl⟩⟩

end Go.Proofs.YtghfhkbncjgaeaaGreat
