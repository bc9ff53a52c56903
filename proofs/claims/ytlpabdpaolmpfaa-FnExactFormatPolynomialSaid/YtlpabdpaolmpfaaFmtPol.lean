/- FormatPolynomial of both sides. -/
import Derived.Test.YtlpabdpaolmpfaaFmtI
import Derived.Test.YtlpabdpaolmpfaaGlue
import Derived.Test.YtlpabdpaolmpfaaIsPoly
namespace Go.Proofs.Ytlpabdpaolmpfaa
open Go.RowKit

def fP (xs : List Int) : List UInt8 := if isPol xs && decide (0 < xs.length) then gluTo [44] (xs.map fmtI) xs.length else [48]
theorem isPol_bd {xs : List Int} (h : isPol xs = true) : xs.length ≤ 61 ∧ ∀ x ∈ xs, -1000000000 ≤ x ∧ x ≤ 1000000000 := by
  unfold isPol at h
  simp only [Bool.and_eq_true, decide_eq_true_eq, List.all_eq_true] at h
  exact ⟨h.2.1, fun x hx => inB_iff.1 (h.1 x hx)⟩
theorem fmt_all {xs : List Int} (h : ∀ x ∈ xs, -1000000000 ≤ x ∧ x ≤ 1000000000) : ∀ t ∈ xs.map fmtI, t.length ≤ 12 := by
  intro t ht
  obtain ⟨x, hx, rfl⟩ := List.mem_map.1 ht
  exact fmtI_len (h x hx)
theorem gluTo_ne {s : List UInt8} {xs : List Int} {k : Nat} (hk : k < xs.length) : gluTo s (xs.map fmtI) (k + 1) ≠ [] := by
  rw [gluTo, List.getD_eq_getElem?_getD, List.getElem?_map, List.getElem?_eq_getElem hk]
  have := fmtI_ne xs[k]
  intro h
  have h2 := List.append_eq_nil_iff.1 h
  exact this h2.2

set_option maxHeartbeats 1000000 in
theorem specFmtPol_any (A : Option Addr) (n c : Nat) (xs : List Int) (w : World) (h : Rd w A n (iv xs)) (hn : n ≤ 1000000000) :
    Calls Try.prog 25 #[.slice A n c] w fun e w' => e = .returned (.string (bs (fP xs))) ∧ Below w.heap.size w w' := by
  have HR := Lib.hid h
  have HL := Lib.hid (show xs.length = n by have := h.len; rw [iv_len] at this; exact this)
  clear h
  by_cases hn0 : n = 0
  · subst hn0
    have HF := Lib.hid (show fP xs = [48] by unfold fP; rw [HL.out]; simp)
    go_enter Try.func25, Try.ntmps25
    go_wp2_with fail
    go_loop [3, 4] (fun s i => i = .int .i64 0 ∧ s = .string (bs [])) (fun _ _ => 0)
    case atStart => exact ⟨rfl, rfl⟩
    case round =>
      obtain ⟨rfl, rfl⟩ := hrel
      go_wp2_with fail
      go_ret
      exact ⟨by rw [HF.out]; rfl, Below.refl _ _⟩
  rcases hp : isPol xs with _ | _
  · have HP := Lib.hid hp
    have HF := Lib.hid (show fP xs = [48] by unfold fP; rw [hp]; simp)
    have h1 : (0 : Int) < (n : Int) := by omega
    clear hp hn0
    go_enter Try.func25, Try.ntmps25
    go_wp2_with fail
    go_loop [3, 4] (fun s i => i = .int .i64 0 ∧ s = .string (bs [])) (fun _ _ => 0)
    case atStart => exact ⟨rfl, rfl⟩
    case round =>
      obtain ⟨rfl, rfl⟩ := hrel
      go_wp2_with fail
      refine (specIsPolynomial_any _ _ _ _ _ HR.out hn).mono ?_
      rintro e w' ⟨rfl, rfl⟩
      rw [HP.out]
      go_wp2_with fail
      go_ret
      exact ⟨by rw [HF.out]; rfl, Below.refl _ _⟩
  have hn1 : 0 < n := by omega
  have HF := Lib.hid (show fP xs = gluTo [44] (xs.map fmtI) n by unfold fP; rw [hp, HL.out, decide_eq_true hn1]; simp)
  have HP := Lib.hid hp
  have HB := Lib.hid (isPol_bd hp).2
  have h61 := (isPol_bd hp).1
  rw [HL.out] at h61
  have HG := Lib.hid (gluTo_len (s := [44]) (fmt_all HB.out))
  clear hp hn0
  go_enter Try.func25, Try.ntmps25
  go_wp2_with fail
  go_loopw [3, 4] (fun s i wr => ∃ k : Nat, k ≤ n ∧ i = .int .i64 k ∧ s = .string (bs (gluTo [44] (xs.map fmtI) k)) ∧ Below w.heap.size w wr) (fun _ i _ => n - (intOf i).toNat)
  case atStart => exact ⟨0, Nat.zero_le _, rfl, rfl, Below.refl _ _⟩
  case round =>
    obtain ⟨k, hk, rfl, rfl, hb⟩ := hrel
    have z1 : (gluTo [44] (xs.map fmtI) k).length ≤ 793 := by
      have h1 := HG.out k
      have h2 := Nat.mul_le_mul (show k ≤ 61 by omega) (Nat.le_refl (12 + 1))
      simp at h1 h2; omega
    have z3 : (bs (gluTo [44] (xs.map fmtI) k)).size ≤ 793 := by rw [size_bs]; exact z1
    by_cases hlt : k < n
    · obtain ⟨bl, off, x, rfl, hx, hc⟩ := (HR.out.below hb).ati hlt
      have HX := Lib.hid hx
      have hxb := HB.out x (List.mem_of_getElem? hx)
      have HM := Lib.hid (show (xs.map fmtI).getD k [] = fmtI x by rw [List.getD_eq_getElem?_getD, List.getElem?_map, hx]; rfl)
      have z4 : (bs (fmtI x)).size ≤ 12 := by rw [size_bs]; exact fmtI_len hxb
      have hbs := hb.size
      clear hx
      have k3 : (0 : Int) ≤ (k : Int) := by omega
      have k4 : (k : Int) < (n : Int) := by omega
      by_cases h0 : k = 0
      · subst h0
        have HS := Lib.hid (show gluTo [44] (xs.map fmtI) (0 + 1) = gluTo [44] (xs.map fmtI) 0 ++ fmtI x by show gluTo [44] (xs.map fmtI) 0 ++ (if 0 < 0 then [44] else []) ++ (xs.map fmtI).getD 0 [] = _; rw [HM.out]; simp)
        rw [Nat.add_zero] at hc
        go_wp2_with fail
        refine (specIsPolynomial_any _ _ _ _ _ (HR.out.below hb) hn).mono ?_
        rintro e w' ⟨rfl, rfl⟩
        rw [HP.out]
        go_wp2_with fail
        refine (specFormatInt_any _ hxb _).mono ?_
        rintro e w2 ⟨rfl, hb2⟩
        have hb3 := hb.trans (hb2.mono hbs)
        clear hb2
        go_wp2_with fail
        go_roundw
        case rel => exact ⟨0 + 1, by omega, by go_num, by rw [HS.out], hb3⟩
        case measure => simp [intOf]; omega
      · have k1 : (0 : Int) < (k : Int) := by omega
        have k2 : 0 < k := by omega
        have HS := Lib.hid (show gluTo [44] (xs.map fmtI) (k + 1) = gluTo [44] (xs.map fmtI) k ++ [44] ++ fmtI x by rw [gluTo, HM.out, if_pos k2])
        have z5 : (bs (gluTo [44] (xs.map fmtI) k) ++ ({ data := #[44] } : ByteArray)).size ≤ 794 := by rw [ByteArray.size_append]; have : ({ data := #[44] } : ByteArray).size = 1 := rfl; omega
        have z6 : ¬ 9223372036854775807 < (gluTo [44] (xs.map fmtI) k).length + 1 + (fmtI x).length := by have := fmtI_len hxb; omega
        have z7 : ¬ 9223372036854775807 < (gluTo [44] (xs.map fmtI) k).length + 1 := by omega
        clear h0
        go_wp2_with fail
        refine (specIsPolynomial_any _ _ _ _ _ (HR.out.below hb) hn).mono ?_
        rintro e w' ⟨rfl, rfl⟩
        rw [HP.out]
        go_wp2_with fail
        refine (specFormatInt_any _ hxb _).mono ?_
        rintro e w2 ⟨rfl, hb2⟩
        have hb3 := hb.trans (hb2.mono hbs)
        clear hb2
        go_wp2_with fail
        go_roundw
        case rel => exact ⟨k + 1, by omega, by go_num, by rw [HS.out, bs_lit, bs_append, bs_append], hb3⟩
        case measure => simp [intOf]; omega
    · obtain rfl : k = n := by omega
      have hne : gluTo [44] (xs.map fmtI) k ≠ [] := by
        obtain ⟨j, rfl⟩ : ∃ j, k = j + 1 := ⟨k - 1, by omega⟩
        exact gluTo_ne (by rw [HL.out]; omega)
      have hie : (gluTo [44] (xs.map fmtI) k).isEmpty = false := by
        cases hg : gluTo [44] (xs.map fmtI) k with
        | nil => exact absurd hg hne
        | cons _ _ => rfl
      clear hne
      go_wp2_with fail
      go_ret
      exact ⟨by rw [HF.out]; rfl, hb⟩

set_option maxHeartbeats 1000000 in
theorem implFmtPol_any (A : Option Addr) (n c : Nat) (xs : List Int) (w : World) (h : Rd w A n (iv xs)) (hn : n ≤ 1000000000) :
    Calls Try.prog 26 #[.slice A n c] w fun e w' => e = .returned (.string (bs (fP xs))) ∧ Below w.heap.size w w' := by
  have HR := Lib.hid h
  have HL := Lib.hid (show xs.length = n by have := h.len; rw [iv_len] at this; exact this)
  clear h
  by_cases hn0 : n = 0
  · subst hn0
    have HF := Lib.hid (show fP xs = [48] by unfold fP; rw [HL.out]; simp)
    go_enter Try.func26, Try.ntmps26
    go_wp2_with fail
    go_ret
    exact ⟨by rw [HF.out]; rfl, Below.refl _ _⟩
  have hne : ((n : Int) == 0) = false := by rw [beq_eq_false_iff_ne]; omega
  rcases hp : isPol xs with _ | _
  · have HP := Lib.hid hp
    have HF := Lib.hid (show fP xs = [48] by unfold fP; rw [hp]; simp)
    clear hp hn0
    go_enter Try.func26, Try.ntmps26
    go_wp2_with fail
    refine (implIsPolynomial_any _ _ _ _ _ HR.out hn).mono ?_
    rintro e w' ⟨rfl, rfl⟩
    rw [HP.out]
    go_wp2_with fail
    go_ret
    exact ⟨by rw [HF.out]; rfl, Below.refl _ _⟩
  have hn1 : 0 < n := by omega
  have HF := Lib.hid (show fP xs = gluTo [44] (xs.map fmtI) n by unfold fP; rw [hp, HL.out, decide_eq_true hn1]; simp)
  have HP := Lib.hid hp
  have HB := Lib.hid (isPol_bd hp).2
  have h61 := (isPol_bd hp).1
  rw [HL.out] at h61
  clear hp hn0
  go_enter Try.func26, Try.ntmps26
  go_wp2_with fail
  refine (implIsPolynomial_any _ _ _ _ _ HR.out hn).mono ?_
  rintro e w' ⟨rfl, rfl⟩
  rw [HP.out]
  go_wp2_with fail
  go_loopw [3, 5, 17] (fun s _ i wr => ∃ (k : Nat) (A1 : Option Addr) (c1 : Nat), k ≤ n ∧ i = .int .i64 k ∧ s = .slice A1 k c1 ∧ Own wr 9 w.heap.size A1 k c1 (sv ((xs.map fmtI).take k)) ∧ Below w.heap.size w wr) (fun _ _ i _ => n - (intOf i).toNat)
  case atStart => exact ⟨0, _, _, Nat.zero_le _, rfl, rfl, own_emptyS w, (Below.refl _ _).alloc (Nat.le_refl _) _⟩
  case round =>
    obtain ⟨k, A1, c1, hk, rfl, rfl, ho, hb⟩ := hrel
    have HO := Lib.hid ho
    have hbs := hb.size
    clear ho
    by_cases hlt : k < n
    · obtain ⟨bl, off, x, rfl, hx, hc⟩ := (HR.out.below hb).ati hlt
      have hxb := HB.out x (List.mem_of_getElem? hx)
      have HS := Lib.hid (show (xs.map fmtI).take (k + 1) = (xs.map fmtI).take k ++ [fmtI x] by
        have h1 : (xs.map fmtI)[k]? = some (fmtI x) := by rw [List.getElem?_map, hx]; rfl
        obtain ⟨h2, h3⟩ := List.getElem?_eq_some_iff.1 h1
        rw [List.take_succ_eq_append_getElem h2, h3])
      clear hx
      go_wp2_with fail
      refine (implFormatInt_any _ hxb _).mono ?_
      rintro e w2 ⟨rfl, hb2⟩
      have hb3 := hb.trans (hb2.mono hbs)
      have HO2 := Lib.hid (HO.out.below hb2)
      have hbs2 := hb3.size
      clear hb2
      go_wp2_with (at_builtin; refine appS _ rfl _ _ rfl w.heap.size A1 k c1 _ rfl (HO2.out.alloc _) w2.heap.size (bs (fmtI x)) rfl (by simp) (by omega) hbs2 ?_; intro A' c' w' hown' hg' hb')
      have hb4 := (hb3.alloc hbs2 _).trans hb'
      have HO3 := Lib.hid (show Own w' 9 w.heap.size A' (k + 1) c' (sv ((xs.map fmtI).take (k + 1))) by rw [HS.out, sv_snoc]; exact hown')
      clear hown' hg' hb'
      go_wp2_with fail
      go_roundw
      case rel => exact ⟨k + 1, A', c', by omega, by go_num, rfl, HO3.out, hb4⟩
      case measure => simp [intOf]; omega
    · obtain rfl : k = n := by omega
      have HT := Lib.hid (show (xs.map fmtI).take k = xs.map fmtI by rw [List.take_of_length_le]; rw [List.length_map, HL.out]; exact Nat.le_refl _)
      rw [HT.out] at HO
      go_wp2_with fail
      refine (glued_any _ _ _ [44] (xs.map fmtI) 12 _ HO.out.rd (fmt_all HB.out) (by simp) (by omega) (by omega)).mono ?_
      rintro e w' ⟨rfl, rfl⟩
      go_wp2_with fail
      go_ret
      exact ⟨by rw [HF.out]; rfl, hb⟩

end Go.Proofs.Ytlpabdpaolmpfaa
