/- AreEquidistributed of both sides. -/
import Derived.Test.YteiffomekjadgaaJt
namespace Go.Proofs.Yteiffomekjadgaa
set_option linter.unusedVariables false
open Go.RowKit

set_option maxHeartbeats 2000000 in
theorem specAreEquidistributed_any (a b : List UInt8) (n : Int) (h0 : -1 ≤ n) (h6 : n ≤ 6) (w : World) : Calls Try.prog 24 #[.string (bs a), .string (bs b), .int .i64 n] w fun e w' => e = .returned (.bool (areP a b n)) ∧ Below w.heap.size w w' := by
  have hla := dst_len a n
  have hlb := dst_len b n
  have HP := Lib.hid (show areP a b n = ((dstP a n).2 && (dstP b n).2 && decide ((dstP a n).1 = (dstP b n).1)) from rfl)
  obtain ⟨xa, hxa⟩ : ∃ x, x = (dstP a n).1 := ⟨_, rfl⟩
  obtain ⟨xb, hxb⟩ : ∃ x, x = (dstP b n).1 := ⟨_, rfl⟩
  obtain ⟨ba, hba⟩ : ∃ x, x = (dstP a n).2 := ⟨_, rfl⟩
  obtain ⟨bb, hbb⟩ : ∃ x, x = (dstP b n).2 := ⟨_, rfl⟩
  have DA := Lib.hid (fun W => specDistributionOf_any a n h0 h6 W)
  have DB := Lib.hid (fun W => specDistributionOf_any b n h0 h6 W)
  rw [← hxa, ← hba] at DA
  rw [← hxb, ← hbb] at DB
  rw [← hxa, ← hxb, ← hba, ← hbb] at HP
  rw [← hxa] at hla
  rw [← hxb] at hlb
  clear hxa hxb hba hbb
  go_enter Try.func24, Try.ntmps24
  go_wp2_with fail
  refine (DA.out _).mono ?_
  rintro e w1 ⟨A1, n1, c1, hn1, rfl, hown1, hb1⟩
  have HR1 := Lib.hid hown1.rd
  have hn19 : n1 ≤ 1000000000 := by omega
  have hs1 := hb1.size
  clear hown1 hn1
  go_wp2_with fail
  refine (DB.out _).mono ?_
  rintro e w2 ⟨A2, n2, c2, hn2, rfl, hown2, hb2⟩
  have HR2 := Lib.hid hown2.rd
  have HR3 := Lib.hid (HR1.out.below hb2)
  have hn29 : n2 ≤ 1000000000 := by omega
  have hb3 := hb1.trans (hb2.mono hs1)
  have hs3 := hb3.size
  clear hown2 hn2 hb1 hb2
  rcases ba with _ | _
  · go_wp2_with fail
    go_ret
    exact ⟨ret_bool (by rw [HP.out]; rfl), hb3⟩
  rcases bb with _ | _
  · go_wp2_with fail
    go_ret
    exact ⟨ret_bool (by rw [HP.out]; rfl), hb3⟩
  go_wp2_with fail
  refine (l13Same_any _ _ _ _ _ _ xa xb _ HR3.out HR2.out hn19 hn29).mono ?_
  rintro e w3 ⟨rfl, d, rfl⟩
  go_wp2_with fail
  go_ret
  exact ⟨ret_bool (by rw [HP.out]; simp), below_drewN' hb3 d⟩
set_option maxHeartbeats 2000000 in
theorem implAreEquidistributed_any (a b : List UInt8) (n : Int) (h0 : -1 ≤ n) (h6 : n ≤ 6) (w : World) : Calls Try.prog 16 #[.string (bs a), .string (bs b), .int .i64 n] w fun e w' => e = .returned (.bool (areP a b n)) ∧ Below w.heap.size w w' := by
  have hla := dst_len a n
  have hlb := dst_len b n
  have HP := Lib.hid (show areP a b n = ((dstP a n).2 && (dstP b n).2 && decide ((dstP a n).1 = (dstP b n).1)) from rfl)
  obtain ⟨xa, hxa⟩ : ∃ x, x = (dstP a n).1 := ⟨_, rfl⟩
  obtain ⟨xb, hxb⟩ : ∃ x, x = (dstP b n).1 := ⟨_, rfl⟩
  obtain ⟨ba, hba⟩ : ∃ x, x = (dstP a n).2 := ⟨_, rfl⟩
  obtain ⟨bb, hbb⟩ : ∃ x, x = (dstP b n).2 := ⟨_, rfl⟩
  have DA := Lib.hid (fun W => implDistributionOf_any a n h0 h6 W)
  have DB := Lib.hid (fun W => implDistributionOf_any b n h0 h6 W)
  rw [← hxa, ← hba] at DA
  rw [← hxb, ← hbb] at DB
  rw [← hxa, ← hxb, ← hba, ← hbb] at HP
  rw [← hxa] at hla
  rw [← hxb] at hlb
  clear hxa hxb hba hbb
  go_enter Try.func16, Try.ntmps16
  go_wp2_with fail
  refine (DA.out _).mono ?_
  rintro e w1 ⟨A1, n1, c1, hn1, rfl, hown1, hb1⟩
  have HR1 := Lib.hid hown1.rd
  have hn19 : n1 ≤ 1000000000 := by omega
  have hs1 := hb1.size
  clear hown1 hn1
  go_wp2_with fail
  refine (DB.out _).mono ?_
  rintro e w2 ⟨A2, n2, c2, hn2, rfl, hown2, hb2⟩
  have HR2 := Lib.hid hown2.rd
  have HR3 := Lib.hid (HR1.out.below hb2)
  have hn29 : n2 ≤ 1000000000 := by omega
  have hb3 := hb1.trans (hb2.mono hs1)
  have hs3 := hb3.size
  clear hown2 hn2 hb1 hb2
  rcases ba with _ | _
  · go_wp2_with fail
    go_ret
    exact ⟨ret_bool (by rw [HP.out]; rfl), hb3⟩
  rcases bb with _ | _
  · go_wp2_with fail
    go_ret
    exact ⟨ret_bool (by rw [HP.out]; rfl), hb3⟩
  go_wp2_with fail
  refine (equalInts_any _ _ _ _ _ _ xa xb _ HR3.out HR2.out hn19 hn29).mono ?_
  rintro e w3 ⟨rfl, d, rfl⟩
  go_wp2_with fail
  go_ret
  exact ⟨ret_bool (by rw [HP.out]; simp), below_drewN' hb3 d⟩

end Go.Proofs.Yteiffomekjadgaa
