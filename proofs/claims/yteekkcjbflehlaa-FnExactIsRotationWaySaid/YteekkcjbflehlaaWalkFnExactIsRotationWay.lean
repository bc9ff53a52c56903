/- laws.FnExactIsRotationWay returns true at every input. -/
import Derived.Test.YteekkcjbflehlaaIrw
import Derived.Test.YteekkcjbflehlaaLawStrsA
namespace Go.Proofs.Yteekkcjbflehlaa
set_option linter.unusedVariables false
open Go.RowKit

theorem strs_sz {w : World} {a : Option Addr} {len cap : Nat} {zs : List ByteArray} (h : IsStrs w a len cap zs) : ∀ x ∈ (zs.take len).map (fun s => s.data.toList), x.length ≤ 9223372036854775807 := by
  intro x hx
  obtain ⟨s, hs, rfl⟩ := List.mem_map.1 hx
  rcases h with ⟨_, _, _, rfl⟩ | ⟨_, _, _, _, _, _, hw⟩
  · simp at hs
  · have := hw s (List.mem_of_mem_take hs)
    unfold maxLen at this
    rw [Array.length_toList]
    exact this

set_option maxHeartbeats 1000000 in
theorem walk_FnExactIsRotationWay (a0 : Option Addr) (len0 cap0 : Nat) (z0 : List ByteArray) (w : World) (w0 : IsStrs w a0 len0 cap0 z0) :
    Calls Try.prog 6 #[.slice a0 len0 cap0] w fun e w' => e = .returned (.bool true) ∧ Below w.heap.size w w' := by
  have v0 := w0.len_le
  have HS := Lib.hid (strs_sz w0)
  obtain ⟨L, hL⟩ : ∃ L, L = (z0.take len0).map (fun s => s.data.toList) := ⟨_, rfl⟩
  have HR := Lib.hid (show Rd w a0 len0 (sv L) by rw [hL]; exact w0.rd)
  rw [← hL] at HS
  clear hL w0
  go_enter Try.func6, Try.ntmps6
  go_wp2_with fail
  refine (szStringS_any _ _ _ _ _ HR.out v0 HS.out).mono ?_
  rintro e w' ⟨rfl, rfl | ⟨z, rfl, hn, hx⟩⟩
  · go_wp2_with fail
    go_ret
    exact ⟨rfl, Below.refl _ _⟩
  · have HX := Lib.hid hx
    have hz : ¬ ((z : Int) < 0) := by omega
    clear hx
    go_wp2_with fail
    refine (toStringS_any _ _ _ _ _ HR.out hn).mono ?_
    rintro e w1 ⟨A1, n1, c1, hn1, rfl, ho1, hb1⟩
    have HN := Lib.hid (show n1 = len0 by have := HR.out.len; rw [sv_len] at this; omega)
    have R1 := Lib.hid ho1.rd
    have hs1 := hb1.size
    have hn9 : n1 ≤ 1000000000 := by have := HN.out; omega
    clear ho1 hn1
    go_wp2_with fail
    refine (specIsRotationWay_any _ _ _ _ _ R1.out (fun x hx => by have := HX.out x hx; omega) hn9).mono ?_
    rintro e w2 ⟨rfl, hb2⟩
    have hb3 := hb1.trans (hb2.mono hs1)
    have hs3 := hb3.size
    have R2 := Lib.hid (HR.out.below hb3)
    clear hb1 hb2
    go_wp2_with fail
    refine (toStringS_any _ _ _ _ _ R2.out hn).mono ?_
    rintro e w4 ⟨A4, n4, c4, hn4, rfl, ho4, hb4⟩
    have HN4 := Lib.hid (show n4 = len0 by have := HR.out.len; rw [sv_len] at this; omega)
    have R4 := Lib.hid ho4.rd
    have hb5 := hb3.trans (hb4.mono hs3)
    have hs5 := hb5.size
    have hn94 : n4 ≤ 1000000000 := by have := HN4.out; omega
    have hn48 : n4 ≤ 1048576 := by have := HN4.out; omega
    clear ho4 hn4 hb4 hb3
    go_wp2_with fail
    refine (implIsRotationWay_any _ _ _ _ _ R4.out (fun x hx => by have := HX.out x hx; omega) hn94).mono ?_
    rintro e w6 ⟨rfl, hb6⟩
    have R6 := Lib.hid (R4.out.below hb6)
    have hb7 := hb5.trans (hb6.mono hs5)
    have hs7 := hb7.size
    have R7 := Lib.hid (HR.out.below hb7)
    clear hb5 hb6
    go_wp2_with fail
    refine (toStringS_any _ _ _ _ _ R7.out hn).mono ?_
    rintro e w8 ⟨A8, n8, c8, hn8, rfl, ho8, hb8⟩
    have HN8 := Lib.hid (show n8 = n4 by have h1 := HR.out.len; have h2 := HN4.out; rw [sv_len] at h1; omega)
    have R8 := Lib.hid ho8.rd
    have R9 := Lib.hid (R6.out.below hb8)
    have hb9 := hb7.trans (hb8.mono hs7)
    have hs9 := hb9.size
    obtain rfl : n8 = n4 := HN8.out
    clear ho8 hn8 hb8 hb7
    go_wp2_with fail
    refine (eqStringS_w _ _ _ _ _ _ _ R9.out R8.out hn48).mono ?_
    rintro e w10 ⟨rfl, hb10⟩
    have hb11 := hb9.trans (hb10.mono hs9)
    clear hb10
    go_wp2_with fail
    go_ret
    exact ⟨rfl, hb11⟩

end Go.Proofs.Yteekkcjbflehlaa
