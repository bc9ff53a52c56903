/- The walk through laws.FnExactMoebiusOf, out of contracts of spec.MoebiusOf and impl.MoebiusOf. -/
import Derived.Test.YtghfhkbncjgaeaaNum
import Derived.Test.YtghfhkbncjgaeaaLawInts
namespace Go.Proofs.Ytghfhkbncjgaeaa
open Go.RowKit

set_option maxHeartbeats 1000000 in
theorem core_FnExactMoebiusOf (A0 : Option Addr) (n0 c0 : Nat) (x0 : List Int) (A1 : Option Addr) (n1 c1 : Nat) (x1 : List Int) (r0 : Int) (r1 : Bool) (w : World) (q0 : n0 ≤ 1048576) (ra0 : Rd w A0 n0 (iv x0)) (q1 : n1 ≤ 1048576) (ra1 : Rd w A1 n1 (iv x1))
    (hs : ∀ (W : World) (B0 : Option Addr) (e0 : Nat) (B1 : Option Addr) (e1 : Nat), Rd W B0 n0 (iv x0) → Rd W B1 n1 (iv x1) → Calls Try.prog 15 #[.slice B0 n0 e0, .slice B1 n1 e1] W fun e w' => e = .returned (.tuple #[.int .i64 r0, .bool r1]) ∧ Below W.heap.size W w')
    (hi : ∀ (W : World) (B0 : Option Addr) (e0 : Nat) (B1 : Option Addr) (e1 : Nat), Rd W B0 n0 (iv x0) → Rd W B1 n1 (iv x1) → Calls Try.prog 16 #[.slice B0 n0 e0, .slice B1 n1 e1] W fun e w' => e = .returned (.tuple #[.int .i64 r0, .bool r1]) ∧ Below W.heap.size W w') :
    Calls Try.prog 5 #[.slice A0 n0 c0, .slice A1 n1 c1] w fun e w' => e = .returned (.bool true) ∧ Below w.heap.size w w' := by
  have HS := Lib.hid hs
  have HI := Lib.hid hi
  clear hs hi
  have RA0 := Lib.hid ra0
  have RL0 := Lib.hid ra0.lt
  clear ra0
  have RA1 := Lib.hid ra1
  have RL1 := Lib.hid ra1.lt
  clear ra1
  have HB := Lib.hid (Below.refl w.heap.size w)
  go_enter Try.func5, Try.ntmps5
  go_wp2_with fail
  refine (toIntS_w _ _ _ _ _ RA0.out (by omega)).mono ?_
  rintro e w1 ⟨S0A, S0c, rfl, hoS0, hb⟩
  have S0 := Lib.hid hoS0
  clear hoS0
  replace RA0 := Lib.hid (RA0.out.below hb)
  replace RA1 := Lib.hid (RA1.out.below hb)
  have hsz := hb.size
  replace HB := Lib.hid (HB.out.trans (hb.mono (by omega)))
  clear hb
  have hzw1 : w.heap.size ≤ w1.heap.size := hsz
  clear hsz
  go_wp2_with fail
  refine (toIntS_w _ _ _ _ _ RA1.out (by omega)).mono ?_
  rintro e w2 ⟨S1A, S1c, rfl, hoS1, hb⟩
  have S1 := Lib.hid hoS1
  clear hoS1
  replace S0 := Lib.hid (S0.out.below hb)
  replace RA0 := Lib.hid (RA0.out.below hb)
  replace RA1 := Lib.hid (RA1.out.below hb)
  have hsz := hb.size
  replace HB := Lib.hid (HB.out.trans (hb.mono (by omega)))
  clear hb
  have hzw2 : w1.heap.size ≤ w2.heap.size := hsz
  clear hsz
  go_wp2_with fail
  refine (HS.out _ _ _ _ _ S0.out.rd S1.out.rd).mono ?_
  rintro e w3 ⟨rfl, hb⟩
  replace S0 := Lib.hid (S0.out.below hb)
  replace S1 := Lib.hid (S1.out.below hb)
  replace RA0 := Lib.hid (RA0.out.below hb)
  replace RA1 := Lib.hid (RA1.out.below hb)
  have hsz := hb.size
  replace HB := Lib.hid (HB.out.trans (hb.mono (by omega)))
  clear hb
  have hzw3 : w2.heap.size ≤ w3.heap.size := hsz
  clear hsz
  go_wp2_with fail
  refine (toIntS_w _ _ _ _ _ RA0.out (by omega)).mono ?_
  rintro e w4 ⟨X0A, X0c, rfl, hoX0, hb⟩
  have X0 := Lib.hid hoX0
  clear hoX0
  replace RA0 := Lib.hid (RA0.out.below hb)
  replace RA1 := Lib.hid (RA1.out.below hb)
  have hsz := hb.size
  replace HB := Lib.hid (HB.out.trans (hb.mono (by omega)))
  clear hb
  have hzw4 : w3.heap.size ≤ w4.heap.size := hsz
  clear hsz
  go_wp2_with fail
  refine (toIntS_w _ _ _ _ _ RA1.out (by omega)).mono ?_
  rintro e w5 ⟨X1A, X1c, rfl, hoX1, hb⟩
  have X1 := Lib.hid hoX1
  clear hoX1
  replace X0 := Lib.hid (X0.out.below hb)
  replace RA0 := Lib.hid (RA0.out.below hb)
  replace RA1 := Lib.hid (RA1.out.below hb)
  have hsz := hb.size
  replace HB := Lib.hid (HB.out.trans (hb.mono (by omega)))
  clear hb
  have hzw5 : w4.heap.size ≤ w5.heap.size := hsz
  clear hsz
  go_wp2_with fail
  refine (HI.out _ _ _ _ _ X0.out.rd X1.out.rd).mono ?_
  rintro e w6 ⟨rfl, hb⟩
  replace X0 := Lib.hid (X0.out.below hb)
  replace X1 := Lib.hid (X1.out.below hb)
  replace RA0 := Lib.hid (RA0.out.below hb)
  replace RA1 := Lib.hid (RA1.out.below hb)
  have hsz := hb.size
  replace HB := Lib.hid (HB.out.trans (hb.mono (by omega)))
  clear hb
  have hzw6 : w5.heap.size ≤ w6.heap.size := hsz
  clear hsz
  go_wp2_with fail
  refine (toIntS_w _ _ _ _ _ RA0.out (by omega)).mono ?_
  rintro e w7 ⟨Y0A, Y0c, rfl, hoY0, hb⟩
  have Y0 := Lib.hid hoY0
  clear hoY0
  replace X0 := Lib.hid (X0.out.below hb)
  replace X1 := Lib.hid (X1.out.below hb)
  replace RA0 := Lib.hid (RA0.out.below hb)
  replace RA1 := Lib.hid (RA1.out.below hb)
  have hsz := hb.size
  replace HB := Lib.hid (HB.out.trans (hb.mono (by omega)))
  clear hb
  have hzw7 : w6.heap.size ≤ w7.heap.size := hsz
  clear hsz
  go_wp2_with fail
  refine (eqIntS_w _ _ _ _ _ x0 _ X0.out.rd Y0.out.rd (by omega)).mono ?_
  rintro e w8 ⟨rfl, hb⟩
  replace X0 := Lib.hid (X0.out.below hb)
  replace X1 := Lib.hid (X1.out.below hb)
  replace RA0 := Lib.hid (RA0.out.below hb)
  replace RA1 := Lib.hid (RA1.out.below hb)
  have hsz := hb.size
  replace HB := Lib.hid (HB.out.trans (hb.mono (by omega)))
  clear hb
  have hzw8 : w7.heap.size ≤ w8.heap.size := hsz
  clear hsz
  go_wp2_with fail
  refine (toIntS_w _ _ _ _ _ RA1.out (by omega)).mono ?_
  rintro e w9 ⟨Y1A, Y1c, rfl, hoY1, hb⟩
  have Y1 := Lib.hid hoY1
  clear hoY1
  replace X0 := Lib.hid (X0.out.below hb)
  replace X1 := Lib.hid (X1.out.below hb)
  replace RA0 := Lib.hid (RA0.out.below hb)
  replace RA1 := Lib.hid (RA1.out.below hb)
  have hsz := hb.size
  replace HB := Lib.hid (HB.out.trans (hb.mono (by omega)))
  clear hb
  have hzw9 : w8.heap.size ≤ w9.heap.size := hsz
  clear hsz
  go_wp2_with fail
  refine (eqIntS_w _ _ _ _ _ x1 _ X1.out.rd Y1.out.rd (by omega)).mono ?_
  rintro e w10 ⟨rfl, hb⟩
  replace X0 := Lib.hid (X0.out.below hb)
  replace X1 := Lib.hid (X1.out.below hb)
  replace RA0 := Lib.hid (RA0.out.below hb)
  replace RA1 := Lib.hid (RA1.out.below hb)
  have hsz := hb.size
  replace HB := Lib.hid (HB.out.trans (hb.mono (by omega)))
  clear hb
  have hzw10 : w9.heap.size ≤ w10.heap.size := hsz
  clear hsz
  go_wp2_with fail
  go_ret
  exact ⟨rfl, HB.out⟩

end Go.Proofs.Ytghfhkbncjgaeaa
