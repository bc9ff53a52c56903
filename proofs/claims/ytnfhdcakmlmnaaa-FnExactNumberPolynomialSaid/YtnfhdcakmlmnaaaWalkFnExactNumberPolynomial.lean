/- laws.FnExactNumberPolynomial returns true at every n. -/
import Derived.Test.YtnfhdcakmlmnaaaNumberPoly
import Derived.Test.YtnfhdcakmlmnaaaLawInts
namespace Go.Proofs.Ytnfhdcakmlmnaaa
open Go.RowKit

theorem core_FnExactNumberPolynomial (a0 : Int) (xs : List Int) (b : Bool) (w : World) (hl : xs.length ≤ 1048576)
    (hs : ∀ w, Calls Try.prog 24 #[.int .i64 a0] w (RetIB w xs b)) (hi : ∀ w, Calls Try.prog 25 #[.int .i64 a0] w (RetIB w xs b)) :
    Calls Try.prog 8 #[.int .i64 a0] w fun e w' => e = .returned (.bool true) ∧ Below w.heap.size w w' := by
  have HS := Lib.hid hs
  have HI := Lib.hid hi
  clear hs hi
  go_enter Try.func8, Try.ntmps8
  go_wp2_with fail
  refine (HS.out _).mono ?_
  rintro e w1 ⟨A1, n, c1, hn, rfl, ho1, hb1⟩
  have HN := Lib.hid hn
  have hnb : n ≤ 1048576 := by omega
  clear hn hl
  have R1 := Lib.hid ho1.rd
  clear ho1
  go_wp2_with fail
  refine (HI.out _).mono ?_
  rintro e w2 ⟨A2, n2, c2, hn2, rfl, ho2, hb2⟩
  obtain rfl : n = n2 := HN.out.trans hn2.symm
  clear hn2
  have HO2 := Lib.hid ho2
  clear ho2
  go_wp2_with fail
  refine (eqIntS_same _ _ _ _ _ xs _ HO2.out.rd (R1.out.below hb2) hnb).mono ?_
  rintro e w' ⟨rfl, k1, rfl⟩
  go_wp2_with fail
  refine (markIntS_any A2 n c2 w1.heap.size 1 xs _ (HO2.out.drewN k1) (by omega) (by omega) (by omega)).mono ?_
  rintro e w3 ⟨rfl, ho3, hb3, hg3⟩
  have H13 := (below_drewN' hb2 k1).trans hb3
  have R3 := Lib.hid ho3.rd
  clear ho3 hg3 hb3 hb2 HO2
  go_wp2_with fail
  refine (heldIntS_same _ _ _ _ _ R3.out (by omega) (by omega) (by omega)).mono ?_
  rintro e w' ⟨rfl, rfl⟩
  go_wp2_with fail
  refine (HI.out _).mono ?_
  rintro e w4 ⟨A4, n4, c4, hn4, rfl, ho4, hb4⟩
  obtain rfl : n = n4 := HN.out.trans hn4.symm
  clear hn4
  have R4 := Lib.hid ho4.rd
  clear ho4
  have H14 := H13.trans (hb4.mono H13.size)
  go_wp2_with fail
  refine (eqIntS_same _ _ _ _ _ xs _ R4.out (R1.out.below H14) hnb).mono ?_
  rintro e w' ⟨rfl, k2, rfl⟩
  go_wp2_with fail
  refine (heldIntS_same _ _ _ _ _ ((R3.out.below hb4).drewN k2) (by omega) (by omega) (by omega)).mono ?_
  rintro e w' ⟨rfl, rfl⟩
  go_wp2_with fail
  go_ret
  exact ⟨rfl, hb1.trans ((below_drewN' H14 k2).mono hb1.size)⟩

theorem numP_len (n : Int) : (numP n).1.length ≤ 1048576 := by
  unfold numP
  split
  · next h => rw [inB_iff] at h; simp; omega
  · simp

theorem walk_FnExactNumberPolynomial (a0 : Int) (w : World) (_ : (Lit.int .i64 a0).wf = true) :
    Calls Try.prog 8 #[.int .i64 a0] w fun e w' => e = .returned (.bool true) ∧ Below w.heap.size w w' :=
  core_FnExactNumberPolynomial a0 _ _ w (numP_len a0) (fun w => specNumberPolynomial_any a0 w) (fun w => implNumberPolynomial_any a0 w)

end Go.Proofs.Ytnfhdcakmlmnaaa
