/- Merged: DivQuiet. -/
import Derived.Test.YtghfhkbncjgaeaaGreatMg46
import Derived.StillTailTactics

namespace Go.Proofs.YtghfhkbncjgaeaaGreat
open Go.RowKit

/-- What l14Divide hands back. -/
def DivPost2 (w : World) (q r : List Int) (e : Ending) (w' : World) : Prop :=
  ∃ R0 m0 d0 R1 m1 d1, m0 = (trimL q).length ∧ m1 = (trimL r).length ∧ e = .returned (.tuple #[.slice R0 m0 d0, .slice R1 m1 d1]) ∧ Own w' 3 w.heap.size R0 m0 d0 (iv (trimL q)) ∧ Own w' 3 w.heap.size R1 m1 d1 (iv (trimL r)) ∧ Below w.heap.size w w'

set_option maxHeartbeats 4000000 in
set_option maxRecDepth 100000 in
theorem l14Divide_any (A1 : Option Addr) (n1 c1 : Nat) (xs : List Int) (A2 : Option Addr) (n2 c2 : Nat) (ys : List Int) (Q R : List Int) (w : World) (h1 : Rd w A1 n1 (iv xs)) (h2 : Rd w A2 n2 (iv ys)) (hx : xs.length ≤ 61 ∧ ∀ x ∈ xs, -10000000 ≤ x ∧ x ≤ 10000000) (hy : isDiv ys = true) (hd : divQ xs ys = some (Q, R)) :
    Calls Tryz.prog 54 #[.slice A1 n1 c1, .slice A2 n2 c2] w (DivPost2 w Q R) := by
  have HR1 := Lib.hid h1
  have HR2 := Lib.hid h2
  have HL1 := Lib.hid (show xs.length = n1 by have := h1.len; rw [iv_len] at this; exact this)
  have HL2 := Lib.hid (show ys.length = n2 by have := h2.len; rw [iv_len] at this; exact this)
  obtain ⟨b1, bx⟩ := hx
  obtain ⟨b2, b3, _, by'⟩ := isDiv_iff hy
  rw [HL1.out] at b1
  rw [HL2.out] at b2 b3
  have BX := Lib.hid bx
  have BY := Lib.hid by'
  have HDD := Lib.hid hd
  clear h1 h2 hy bx by' hd
  go_enter Tryz.func54, Tryz.ntmps54
  go_wp2_with (at_builtin; refine appAll' _ rfl _ _ rfl w.heap.size (some ⟨w.heap.size, 0, none⟩) 0 0 (iv []) rfl (own_empty w) A1 n1 c1 xs rfl (HR1.out.alloc _) (by omega) (by simp) ?_; intro Al cl w1 hown1 hg1 hb1; have hb1 := ((Below.refl w.heap.size w).alloc (Nat.le_refl _) (.cells #[] 3)).trans hb1; have hs1 := hb1.size; have HOL := Lib.hid (show Own w1 3 w.heap.size Al n1 cl (iv xs) by simpa [iv] using hown1); have hgne : ∀ g : Nat, Al = some ⟨g, 0, none⟩ → g ≠ w1.heap.size := (fun g hg => by have := (HOL.out.blk g (by rw [hg]; rfl)).2; omega); clear hown1 hg1; obtain ⟨m, hm, hmm⟩ := mkDiv n1 n2 (by omega) w1; have HM := Lib.hid hm; have hm61 : m ≤ 61 := (by omega); have HO0 := Lib.hid (show Own (w1.alloc (.cells (madeCells #[.int .i64 0] m) 3)) 3 w.heap.size (some ⟨w1.heap.size, 0, none⟩) m m (iv (List.replicate m 0)) by have := Own.made w1 3 (.int .i64 0) m (by unfold maxLen; omega); rw [iv_rep] at this; exact this.mono hs1); clear hm; rcases hmm with ⟨hmx, hmi, hmk⟩ | ⟨hmx, hmi, hmk⟩ <;> clear hmi)
  all_goals
    have HN := Lib.hid (show n1 < n1 + 1 from Nat.lt_succ_self _)
    clear hmx hmk
    go_loopw [8, 9, 10] (fun i _ _ wr => ∃ (z : Nat) (q r : List Int), z ≤ m ∧ i = .int .i64 ((z : Int) - 1) ∧ Hid (divR ys z q r = divQ xs ys) ∧ Hid (∀ j : Nat, -(10000000 + ((m : Int) - z) * 1000000000) ≤ r.getD j 0 ∧ r.getD j 0 ≤ 10000000 + ((m : Int) - z) * 1000000000) ∧ Own wr 3 w.heap.size (some ⟨w1.heap.size, 0, none⟩) m m (iv q) ∧ Own wr 3 w.heap.size Al n1 cl (iv r) ∧ Below w.heap.size w wr) (fun i _ _ _ => (intOf i + 1).toNat)
    case atStart => exact ⟨m, List.replicate m 0, xs, Nat.le_refl _, rfl, Lib.hid (by unfold divQ; rw [HL1.out, HL2.out, HM.out]), Lib.hid (fun j => by have := getD_bd7 BX.out j; omega), HO0.out, HOL.out.alloc _, hb1.alloc hs1 _⟩
    case round =>
      obtain ⟨z, q, r, hz, rfl, HD, HB, hoq, hor, hb⟩ := hrel
      rcases z with _ | z
      · have HD' := Lib.hid (show divQ xs ys = some (q, r) from HD.out.symm)
        have HQ := Lib.hid hoq
        have HR := Lib.hid hor
        have hsz := hb.size
        clear hoq hor HD HB
        have zz : ¬ (0 : Int) ≤ ((0 : Nat) : Int) - 1 := by omega
        obtain ⟨rfl, rfl⟩ : q = Q ∧ r = R := by
          have h0 := HD'.out
          rw [HDD.out] at h0
          cases h0
          exact ⟨rfl, rfl⟩
        have hcl := own_cap HR.out
        go_wp2_with fail
        refine (l14Trim_any _ _ _ _ _ HQ.out.rd (by omega) (Nat.le_refl _) (by unfold maxLen; omega) (by simp)).mono ?_
        rintro e w4 ⟨R0, m0, d0, hm0, rfl, ho0, hb4⟩
        have HM0 := Lib.hid hm0
        have HO0' := Lib.hid ho0
        have hs4 := hb4.size
        clear hm0 ho0
        go_wp2_with fail
        refine (l14Trim_any _ _ _ _ _ (HR.out.below hb4).rd (by omega) hcl.1 (by unfold maxLen; omega) hcl.2.2).mono ?_
        rintro e w5 ⟨R1, m1, d1, hm1, rfl, ho1, hb5⟩
        have HM1 := Lib.hid hm1
        have HO1 := Lib.hid ho1
        have hs5 := hb5.size
        have HO0 := Lib.hid (HO0'.out.below hb5)
        have HBB := Lib.hid (hb.trans ((hb4.mono hsz).trans (hb5.mono (by omega))))
        clear hm1 ho1 hcl
        go_wp2_with fail
        go_ret2
        exact ⟨_, _, _, _, _, _, HM0.out, HM1.out, rfl, HO0.out.mono (by omega), HO1.out.mono (by omega), HBB.out⟩
      · have ez : ((z + 1 : Nat) : Int) - 1 = (z : Int) := by omega
        rw [ez]
        have hN := HN.out
        have hM := HM.out
        obtain ⟨g, f, hg, hgl, hgs, hf, hcf, hff⟩ := hor.ati (show z + n2 - 1 < n1 by omega)
        subst hg
        have hgm := hgne g rfl
        have HF := Lib.hid (getD_ofQ hf)
        have HQ := Lib.hid hoq
        have HR := Lib.hid hor
        have i0 : (0 : Int) ≤ (z : Int) + (n2 : Int) - 1 := by omega
        have i1 : (z : Int) + (n2 : Int) - 1 < (n1 : Int) := by omega
        have i2 : ((z : Int) + (n2 : Int) - 1).toNat = z + n2 - 1 := by omega
        have i3 : IntKind.i64.wrap ((z : Int) + (n2 : Int) - 1) = (z : Int) + (n2 : Int) - 1 := IntWalk.i64_in _ (by omega)
        have i4 : IntKind.i64.wrap ((z : Int) + (n2 : Int)) = (z : Int) + (n2 : Int) := IntWalk.i64_in _ (by omega)
        clear hf hor hoq ez
        rcases hin : inM f with _ | _
        · exfalso
          have h0 : divQ xs ys = none := by rw [← HD.out, divR, HL2.out, HF.out, if_neg (by rw [hin]; decide)]
          rw [HDD.out] at h0
          cases h0
        · have HI := Lib.hid hin
          have HD' := Lib.hid (show divR ys z (q.set z f) (upd r (fun k => -(f * ys.getD k 0)) z n2) = divQ xs ys by rw [← HD.out, divR, HL2.out, HF.out, if_pos hin])
          have fb := inB_iff.1 (show inB f (-1000000000) 1000000000 = true from hin)
          obtain ⟨gq, fq, hgq, _, hgqs, _, hcq, hfq⟩ := HQ.out.ati (show z < m by omega)
          cases hgq
          have HQ' := Lib.hid (HQ.out.puti z f)
          have HR' := Lib.hid (HR.out.set_far (p := ⟨w1.heap.size, z, none⟩) (fun g' hg' => by cases hg'; exact hgm) (.int .i64 f))
          have hb' := hb.setCell (p := ⟨w1.heap.size, z, none⟩) hs1 (.int .i64 f)
          have zm : (z : Int) < (m : Int) := by omega
          have zb : z + n2 ≤ n1 := by omega
          clear hin hN hM
          go_wp2_with fail
          go_loopw [10] (fun i wr => ∃ j : Nat, j ≤ n2 ∧ i = .int .i64 j ∧ Own wr 3 w.heap.size (some ⟨w1.heap.size, 0, none⟩) m m (iv (q.set z f)) ∧ Own wr 3 w.heap.size (some ⟨g, 0, none⟩) n1 cl (iv (upd r (fun k => -(f * ys.getD k 0)) z j)) ∧ Below w.heap.size w wr) (fun i _ => n2 - (intOf i).toNat)
          case atStart => exact ⟨0, Nat.zero_le _, rfl, HQ'.out, HR'.out, hb'⟩
          case round =>
            obtain ⟨j, hj, rfl, hoq, hor, hb2⟩ := hrel
            by_cases hlt2 : j < n2
            · obtain ⟨b2, o2, x2, rfl, hx2, hc2⟩ := (HR2.out.below hb2).ati hlt2
              obtain ⟨g', y, hg', _, hgs', hy, hcy, hfy⟩ := hor.ati (show z + j < n1 by omega)
              cases hg'
              have HQ2 := Lib.hid hoq
              have HR3 := Lib.hid hor
              have ux := getD_unit BY.out j
              rw [getD_ofQ hx2] at ux
              have pb := unit_mul fb ux
              have rl : r.length = n1 := by have := HR.out.len; rw [iv_len] at this; exact this
              have yb := upd_div_bd (z := z) HB.out fb BY.out j (by omega) (z + j)
              rw [getD_ofQ hy] at yb
              have HNN := Lib.hid (show (upd r (fun k => -(f * ys.getD k 0)) z j).set (z + j) (y - f * x2) = upd r (fun k => -(f * ys.getD k 0)) z (j + 1) by
                show _ = List.set _ _ _
                rw [getD_ofQ hy]; show _ = List.set _ (z + j) (y + -(f * ys.getD j 0)); rw [getD_ofQ hx2, Int.sub_eq_add_neg])
              have kk0 : (0 : Int) ≤ (z : Int) + (j : Int) := by omega
              have kk : (z : Int) + (j : Int) < (n1 : Int) := by omega
              have ke : ((z : Int) + (j : Int)).toNat = z + j := by omega
              have v1 : IntKind.i64.wrap (f * x2) = f * x2 := IntWalk.i64_in _ (by omega)
              have v2 : IntKind.i64.wrap (y - f * x2) = y - f * x2 := IntWalk.i64_in _ (by omega)
              have v3 : IntKind.i64.wrap ((z : Int) + (j : Int)) = (z : Int) + (j : Int) := IntWalk.i64_in _ (by omega)
              clear hx2 hy hoq hor yb pb rl ux hcf hff hcq hfq
              go_wp2_with fail
              go_still_tail 18, (by kernel_rfl)
              change wpList _ _ _ _ _ wr.drew
              go_wp2_with fail
              go_roundw
              case rel => exact ⟨j + 1, by omega, by go_num, HQ2.out.set_far (p := ⟨g, z + j, none⟩) (fun g' hg' => by cases hg'; exact fun e => hgm e.symm) _, by rw [← HNN.out]; exact HR3.out.puti (z + j) (y - f * x2), (hb2.setCell (p := ⟨g, z + j, none⟩) hgl _).drew⟩
              case measure => simp [intOf]; omega
            · have HQ2 := Lib.hid hoq
              have HR3 := Lib.hid (show Own wr 3 w.heap.size (some ⟨g, 0, none⟩) n1 cl (iv (upd r (fun k => -(f * ys.getD k 0)) z n2)) by rw [show n2 = j by omega]; exact hor)
              have rl : r.length = n1 := by have := HR.out.len; rw [iv_len] at this; exact this
              have HB2 := Lib.hid (show ∀ j : Nat, -(10000000 + ((m : Int) - z) * 1000000000) ≤ (upd r (fun k => -(f * ys.getD k 0)) z n2).getD j 0 ∧ (upd r (fun k => -(f * ys.getD k 0)) z n2).getD j 0 ≤ 10000000 + ((m : Int) - z) * 1000000000 from fun j => by
                have := upd_div_bd (z := z) HB.out fb BY.out n2 (by omega) j
                omega)
              clear hoq hor rl
              go_wp2_with fail
              go_roundw
              case rel => exact ⟨z, _, _, by omega, rfl, HD'.out, HB2.out, HQ2.out, HR3.out, hb2⟩
              case measure => simp [intOf]

end Go.Proofs.YtghfhkbncjgaeaaGreat
