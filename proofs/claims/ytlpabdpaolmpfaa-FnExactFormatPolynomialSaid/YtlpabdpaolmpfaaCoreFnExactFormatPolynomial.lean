/- The walk through laws.FnExactFormatPolynomial, out of contracts of spec.FormatPolynomial and impl.FormatPolynomial. -/
import Derived.Test.YtlpabdpaolmpfaaNum
import Derived.Test.YtlpabdpaolmpfaaLawInts
namespace Go.Proofs.Ytlpabdpaolmpfaa
open Go.RowKit

set_option maxHeartbeats 1000000 in
theorem core_FnExactFormatPolynomial (A0 : Option Addr) (n0 c0 : Nat) (x0 : List Int) (r0 : List UInt8) (w : World) (q0 : n0 ≤ 1048576) (ra0 : Rd w A0 n0 (iv x0))
    (hs : ∀ (W : World) (B0 : Option Addr) (e0 : Nat), Rd W B0 n0 (iv x0) → Calls Try.prog 25 #[.slice B0 n0 e0] W fun e w' => e = .returned (.string (bs r0)) ∧ Below W.heap.size W w')
    (hi : ∀ (W : World) (B0 : Option Addr) (e0 : Nat), Rd W B0 n0 (iv x0) → Calls Try.prog 26 #[.slice B0 n0 e0] W fun e w' => e = .returned (.string (bs r0)) ∧ Below W.heap.size W w') :
    Calls Try.prog 7 #[.slice A0 n0 c0] w fun e w' => e = .returned (.bool true) ∧ Below w.heap.size w w' := by
  have HS := Lib.hid hs
  have HI := Lib.hid hi
  clear hs hi
  have RA0 := Lib.hid ra0
  have RL0 := Lib.hid ra0.lt
  clear ra0
  have HB := Lib.hid (Below.refl w.heap.size w)
  go_enter Try.func7, Try.ntmps7
  go_wp2_with fail
  refine (toIntS_w _ _ _ _ _ RA0.out (by omega)).mono ?_
  rintro e w1 ⟨S0A, S0c, rfl, hoS0, hb⟩
  have S0 := Lib.hid hoS0
  clear hoS0
  replace RA0 := Lib.hid (RA0.out.below hb)
  have hsz := hb.size
  replace HB := Lib.hid (HB.out.trans (hb.mono (by omega)))
  clear hb
  have hzw1 : w.heap.size ≤ w1.heap.size := hsz
  clear hsz
  go_wp2_with fail
  refine (HS.out _ _ _ S0.out.rd).mono ?_
  rintro e w2 ⟨rfl, hb⟩
  replace S0 := Lib.hid (S0.out.below hb)
  replace RA0 := Lib.hid (RA0.out.below hb)
  have hsz := hb.size
  replace HB := Lib.hid (HB.out.trans (hb.mono (by omega)))
  clear hb
  have hzw2 : w1.heap.size ≤ w2.heap.size := hsz
  clear hsz
  go_wp2_with fail
  refine (toIntS_w _ _ _ _ _ RA0.out (by omega)).mono ?_
  rintro e w3 ⟨X0A, X0c, rfl, hoX0, hb⟩
  have X0 := Lib.hid hoX0
  clear hoX0
  replace RA0 := Lib.hid (RA0.out.below hb)
  have hsz := hb.size
  replace HB := Lib.hid (HB.out.trans (hb.mono (by omega)))
  clear hb
  have hzw3 : w2.heap.size ≤ w3.heap.size := hsz
  clear hsz
  go_wp2_with fail
  refine (HI.out _ _ _ X0.out.rd).mono ?_
  rintro e w4 ⟨rfl, hb⟩
  replace X0 := Lib.hid (X0.out.below hb)
  replace RA0 := Lib.hid (RA0.out.below hb)
  have hsz := hb.size
  replace HB := Lib.hid (HB.out.trans (hb.mono (by omega)))
  clear hb
  have hzw4 : w3.heap.size ≤ w4.heap.size := hsz
  clear hsz
  go_wp2_with fail
  refine (toIntS_w _ _ _ _ _ RA0.out (by omega)).mono ?_
  rintro e w5 ⟨Y0A, Y0c, rfl, hoY0, hb⟩
  have Y0 := Lib.hid hoY0
  clear hoY0
  replace X0 := Lib.hid (X0.out.below hb)
  replace RA0 := Lib.hid (RA0.out.below hb)
  have hsz := hb.size
  replace HB := Lib.hid (HB.out.trans (hb.mono (by omega)))
  clear hb
  have hzw5 : w4.heap.size ≤ w5.heap.size := hsz
  clear hsz
  go_wp2_with fail
  refine (eqIntS_w _ _ _ _ _ x0 _ X0.out.rd Y0.out.rd (by omega)).mono ?_
  rintro e w6 ⟨rfl, hb⟩
  replace X0 := Lib.hid (X0.out.below hb)
  replace RA0 := Lib.hid (RA0.out.below hb)
  have hsz := hb.size
  replace HB := Lib.hid (HB.out.trans (hb.mono (by omega)))
  clear hb
  have hzw6 : w5.heap.size ≤ w6.heap.size := hsz
  clear hsz
  go_wp2_with fail
  go_ret
  exact ⟨rfl, HB.out⟩

end Go.Proofs.Ytlpabdpaolmpfaa
