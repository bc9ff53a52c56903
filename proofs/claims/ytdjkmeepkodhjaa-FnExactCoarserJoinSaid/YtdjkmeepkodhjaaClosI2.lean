/- closure of the program. -/
import Derived.Test.YtdjkmeepkodhjaaClosI
import Derived.Test.YtdjkmeepkodhjaaRenum3
import Derived.Deep.LoopGhost
namespace Go.Proofs.Ytdjkmeepkodhjaa
open Go.RowKit

theorem stp_no {a b c d : Nat} {L : List Int} {f : Bool} (h : crs L a b c d = false) : stp a b c d (L, f) = (L, f) := by unfold stp; simp [h]
theorem stp_yes {a b c d : Nat} {L : List Int} {f : Bool} (h : crs L a b c d = true) : stp a b c d (L, f) = (mrg L (L.getD a 0) (L.getD b 0), true) := by unfold stp; simp [h]
theorem lp_succ {σ : Type} {f : Nat → σ → σ} {s : σ} {lo k : Nat} : lp f s lo (k + 1) = f (lo + k) (lp f s lo k) := rfl
theorem own_capM2 {w : World} {e : TypeId} {B : Nat} {A : Option Addr} {n c : Nat} {vs : List Value} (h : Own w e B A n c vs) : n ≤ c ∧ c ≤ maxLen := by
  rcases h.2 with ⟨h1, h2⟩ | ⟨g, cap, cur, h1, _, _, h2, h3, _⟩
  · cases h1; exact ⟨by omega, Nat.zero_le _⟩
  · cases h1; exact ⟨h2, h3⟩
set_option maxRecDepth 20000 in
set_option maxHeartbeats 2000000 in
theorem closure_any (A : Option Addr) (n c B H : Nat) (l : List Int) (w : World) (h : Own w 3 B A n c (iv l)) (hn : n ≤ 8) (hB : H ≤ B) (hH : H ≤ w.heap.size) :
    Calls Try.prog 63 #[.slice A n c] w fun e w' => ∃ A' c', e = .returned (.slice A' n c') ∧ Own w' 3 H A' n c' (iv (renL (closB l))) ∧ Below H w w' := by
  have hl : l.length = n := by have := h.len; rw [iv_len] at this; exact this
  have HL := Lib.hid hl
  have HO := Lib.hid h
  clear h hl
  go_enter Try.func63, Try.ntmps63
  go_wp2_with fail
  go_loopg [3] (n + 1) (fun k again wr => ∃ (j : Nat) (f : Bool), again = .bool f ∧ Own wr 3 B A n c (iv (itS n l j)) ∧ Below H w wr ∧ ((f = true ∧ dc l (itS n l j) + j ≤ n ∧ dc l (itS n l j) < k) ∨ (f = false ∧ itS n l j = closB l)))
  case atStart => exact ⟨0, true, rfl, HO.out, Below.refl _ _, Or.inl ⟨rfl, by have := dc_le l (itS n l 0); rw [HL.out] at this; omega, by have := dc_le l (itS n l 0); rw [HL.out] at this; omega⟩⟩
  case round =>
    obtain ⟨j, f, rfl, ho, hbl, hor⟩ := hrel
    rcases hor with ⟨rfl, hd1, hd2⟩ | ⟨rfl, hcl⟩
    · have HD := Lib.hid (And.intro hd1 hd2)
      have PJ := Lib.hid ho
      clear hd1 hd2 ho
      go_wp2_with fail
      go_loopw [3, 4, 13] (fun again _ i wr => ∃ ka : Nat, ka ≤ n ∧ i = .int .i64 ka ∧ ∃ (L : List Int) (f : Bool), again = .bool f ∧ Hid (lp (swB n) (itS n l j, false) 0 ka = (L, f)) ∧ Own wr 3 B A n c (iv L) ∧ Below H w wr) (fun _ _ i _ => n - (intOf i).toNat)
      case atStart => exact ⟨0, Nat.zero_le _, rfl, _, _, rfl, rfl, PJ.out, hbl⟩
      case round =>
        obtain ⟨ka, hka, rfl, La, fa, rfl, HA, hoa, hba⟩ := hrel
        have PA := Lib.hid hoa
        clear hoa
        by_cases hlta : ka < n
        · have i0 : (0 : Int) ≤ (ka : Int) := by omega
          have i1 : (ka : Int) < (n : Int) := by omega
          go_wp2_with fail
          go_loopw [3, 5] (fun again i wr => ∃ kb : Nat, kb ≤ n - (ka + 1) ∧ i = .int .i64 ((ka : Int) + 1 + kb) ∧ ∃ (L : List Int) (f : Bool), again = .bool f ∧ Hid (lp (swC n ka) (La, fa) (ka + 1) kb = (L, f)) ∧ Own wr 3 B A n c (iv L) ∧ Below H w wr) (fun _ i _ => n - (intOf i).toNat)
          case atStart => exact ⟨0, Nat.zero_le _, by go_num, _, _, rfl, rfl, PA.out, hba⟩
          case round =>
            obtain ⟨kb, hkb, rfl, Lb, fb, rfl, HB, hob, hbb⟩ := hrel
            have PB := Lib.hid hob
            clear hob
            by_cases hltb : ka + 1 + kb < n
            · have i2 : (0 : Int) ≤ (ka : Int) + 1 + kb := by omega
              have i3 : (ka : Int) + 1 + kb < (n : Int) := by omega
              go_wp2_with fail
              go_loopw [3, 6] (fun again i wr => ∃ kc : Nat, kc ≤ n - (ka + 1 + kb + 1) ∧ i = .int .i64 ((ka : Int) + 1 + kb + 1 + kc) ∧ ∃ (L : List Int) (f : Bool), again = .bool f ∧ Hid (lp (swD n ka (ka + 1 + kb)) (Lb, fb) (ka + 1 + kb + 1) kc = (L, f)) ∧ Own wr 3 B A n c (iv L) ∧ Below H w wr) (fun _ i _ => n - (intOf i).toNat)
              case atStart => exact ⟨0, Nat.zero_le _, by go_num, _, _, rfl, rfl, PB.out, hbb⟩
              case round =>
                obtain ⟨kc, hkc, rfl, Lc, fc, rfl, HC, hoc, hbc⟩ := hrel
                have PC := Lib.hid hoc
                clear hoc
                by_cases hltc : ka + 1 + kb + 1 + kc < n
                · have i4 : (0 : Int) ≤ (ka : Int) + 1 + kb + 1 + kc := by omega
                  have i5 : (ka : Int) + 1 + kb + 1 + kc < (n : Int) := by omega
                  go_wp2_with fail
                  go_loopw [3, 7] (fun again i wr => ∃ kd : Nat, kd ≤ n - (ka + 1 + kb + 1 + kc + 1) ∧ i = .int .i64 ((ka : Int) + 1 + kb + 1 + kc + 1 + kd) ∧ ∃ (L : List Int) (f : Bool), again = .bool f ∧ Hid (lp (stp ka (ka + 1 + kb) (ka + 1 + kb + 1 + kc)) (Lc, fc) (ka + 1 + kb + 1 + kc + 1) kd = (L, f)) ∧ Own wr 3 B A n c (iv L) ∧ Below H w wr) (fun _ i _ => n - (intOf i).toNat)
                  case atStart => exact ⟨0, Nat.zero_le _, by go_num, _, _, rfl, rfl, PC.out, hbc⟩
                  case round =>
                    obtain ⟨kd, hkd, rfl, Ld, fd, rfl, HDD, hod, hbd⟩ := hrel
                    by_cases hltd : ka + 1 + kb + 1 + kc + 1 + kd < n
                    · obtain ⟨g, xa, hA1, hgB, _, hxa, hca, _⟩ := hod.ati (show ka < n by omega)
                      obtain ⟨_, xb, hA2, _, _, hxb, hcb, _⟩ := hod.ati (show ka + 1 + kb < n by omega)
                      obtain ⟨_, xc, hA3, _, _, hxc, hcc, _⟩ := hod.ati (show ka + 1 + kb + 1 + kc < n by omega)
                      obtain ⟨_, xd, hA4, _, _, hxd, hcd, _⟩ := hod.ati hltd
                      subst hA1
                      cases hA2
                      cases hA3
                      cases hA4
                      have EA := Lib.hid (getD_of' hxa)
                      have EB := Lib.hid (getD_of' hxb)
                      have EC := Lib.hid (getD_of' hxc)
                      have ED := Lib.hid (getD_of' hxd)
                      have XA := Lib.hid hxa
                      have XB := Lib.hid hxb
                      have PD := Lib.hid hod
                      have i6 : (0 : Int) ≤ (ka : Int) + 1 + kb + 1 + kc + 1 + kd := by omega
                      have i7 : (ka : Int) + 1 + kb + 1 + kc + 1 + kd < (n : Int) := by omega
                      have t2 : ((ka : Int) + 1 + kb).toNat = ka + 1 + kb := by omega
                      have t4 : ((ka : Int) + 1 + kb + 1 + kc).toNat = ka + 1 + kb + 1 + kc := by omega
                      have t6 : ((ka : Int) + 1 + kb + 1 + kc + 1 + kd).toNat = ka + 1 + kb + 1 + kc + 1 + kd := by omega
                      clear hxa hxb hxc hxd hod
                      by_cases e1 : xa = xc
                      · by_cases e2 : xb = xd
                        · by_cases e3 : xa = xb
                          · have HS := Lib.hid (show lp (stp ka (ka + 1 + kb) (ka + 1 + kb + 1 + kc)) (Lc, fc) (ka + 1 + kb + 1 + kc + 1) (kd + 1) = (Ld, fd) by rw [lp_succ, HDD.out, stp_no (by unfold crs; rw [EA.out, EB.out, EC.out, ED.out]; simp [e3])])
                            have q1 : (xa == xc) = true := by simp [e1]
                            have q2 : (xb == xd) = true := by simp [e2]
                            have q3 : (xa != xb) = false := by simp [e3]
                            clear e1 e2 e3
                            go_wp2_with fail
                            go_quiet (fail)
                            go_wp2_with fail
                            go_roundw
                            case rel => exact ⟨kd + 1, by omega, by go_num, Ld, fd, rfl, HS, (by repeat (first | exact PD.out | refine Own.drewN ?_ _)), (by repeat (first | exact hbd | apply below_drewN'))⟩
                            case measure => simp [intOf]; omega

                          · have HS := Lib.hid (show lp (stp ka (ka + 1 + kb) (ka + 1 + kb + 1 + kc)) (Lc, fc) (ka + 1 + kb + 1 + kc + 1) (kd + 1) = (mrg Ld xa xb, true) by rw [lp_succ, HDD.out, stp_yes (by unfold crs; rw [EA.out, EB.out, EC.out, ED.out]; simp [e1, e2]; rw [← e1, ← e2]; exact e3), EA.out, EB.out])
                            have q1 : (xa == xc) = true := by simp [e1]
                            have q2 : (xb == xd) = true := by simp [e2]
                            have q3 : (xa != xb) = true := by simp [e3]
                            have HM := Lib.hid (show ∀ W, Own W 3 B (some ⟨g, 0, none⟩) n c (iv Ld) → Calls Try.prog 72 #[.slice (some ⟨g, 0, none⟩) n c, .int .i64 ka, .int .i64 ((ka : Int) + 1 + kb)] W fun e w' => e = .returned (.tuple #[]) ∧ Own w' 3 B (some ⟨g, 0, none⟩) n c (iv (mrg Ld xa xb)) ∧ Below H W w' by
                              intro W hW
                              have := merged_any g n c ka (ka + 1 + kb) B H Ld xa xb W hW (by omega) hB XA.out XB.out
                              rw [show ((ka + 1 + kb : Nat) : Int) = (ka : Int) + 1 + kb by omega] at this
                              exact this)
                            clear e1 e2 e3
                            go_wp2_with fail
                            go_quiet (fail)
                            go_wp2_with fail
                            refine (HM.out _ ?_).mono ?_
                            · repeat (first | exact PD.out | refine Own.drewN ?_ _)
                            rintro e w5 ⟨rfl, ho5, hb5⟩
                            have P5 := Lib.hid ho5
                            have hb6 := (below_drewN' hbd _).trans hb5
                            clear ho5 hb5
                            go_wp2_with fail
                            go_roundw
                            case rel => exact ⟨kd + 1, by omega, by go_num, _, true, rfl, HS, P5.out, hb6⟩
                            case measure => simp [intOf]; omega
                        · have HS := Lib.hid (show lp (stp ka (ka + 1 + kb) (ka + 1 + kb + 1 + kc)) (Lc, fc) (ka + 1 + kb + 1 + kc + 1) (kd + 1) = (Ld, fd) by rw [lp_succ, HDD.out, stp_no (by unfold crs; rw [EA.out, EB.out, EC.out, ED.out]; simp [e2])])
                          have q1 : (xa == xc) = true := by simp [e1]
                          have q2 : (xb == xd) = false := by simp [e2]
                          clear e1 e2
                          go_wp2_with fail
                          go_quiet (fail)
                          go_wp2_with fail
                          go_roundw
                          case rel => exact ⟨kd + 1, by omega, by go_num, Ld, fd, rfl, HS, (by repeat (first | exact PD.out | refine Own.drewN ?_ _)), (by repeat (first | exact hbd | apply below_drewN'))⟩
                          case measure => simp [intOf]; omega

                      · have HS := Lib.hid (show lp (stp ka (ka + 1 + kb) (ka + 1 + kb + 1 + kc)) (Lc, fc) (ka + 1 + kb + 1 + kc + 1) (kd + 1) = (Ld, fd) by rw [lp_succ, HDD.out, stp_no (by unfold crs; rw [EA.out, EB.out, EC.out, ED.out]; simp [e1])])
                        have q1 : (xa == xc) = false := by simp [e1]
                        clear e1
                        go_wp2_with fail
                        go_quiet (fail)
                        go_wp2_with fail
                        go_roundw
                        case rel => exact ⟨kd + 1, by omega, by go_num, Ld, fd, rfl, HS, (by repeat (first | exact PD.out | refine Own.drewN ?_ _)), (by repeat (first | exact hbd | apply below_drewN'))⟩
                        case measure => simp [intOf]; omega
                    · have hkn : kd = n - (ka + 1 + kb + 1 + kc + 1) := by omega
                      have HN := Lib.hid (show lp (swD n ka (ka + 1 + kb)) (Lb, fb) (ka + 1 + kb + 1) (kc + 1) = (Ld, fd) by rw [lp_succ, HC.out]; unfold swD; rw [← hkn]; exact HDD.out)
                      have PD := Lib.hid hod
                      clear hod hkn
                      go_wp2_with fail
                      go_roundw
                      case rel => exact ⟨kc + 1, by omega, by go_num, Ld, fd, rfl, HN, PD.out, hbd⟩
                      case measure => simp [intOf]; omega
                · have hkn : kc = n - (ka + 1 + kb + 1) := by omega
                  have HN := Lib.hid (show lp (swC n ka) (La, fa) (ka + 1) (kb + 1) = (Lc, fc) by rw [lp_succ, HB.out]; unfold swC; rw [← hkn]; exact HC.out)
                  clear hkn
                  go_wp2_with fail
                  go_roundw
                  case rel => exact ⟨kb + 1, by omega, by go_num, Lc, fc, rfl, HN, PC.out, hbc⟩
                  case measure => simp [intOf]; omega
            · have hkn : kb = n - (ka + 1) := by omega
              have HN := Lib.hid (show lp (swB n) (itS n l j, false) 0 (ka + 1) = (Lb, fb) by rw [lp_succ, HA.out, Nat.zero_add]; unfold swB; rw [← hkn]; exact HB.out)
              clear hkn
              go_wp2_with fail
              go_roundw
              case rel => exact ⟨ka + 1, by omega, by go_num, Lb, fb, rfl, HN, PB.out, hbb⟩
              case measure => simp [intOf]; omega
        · have hkn : ka = n := by omega
          have HN := Lib.hid (show swA n (itS n l j, false) = (La, fa) by unfold swA; rw [hkn] at HA; exact HA.out)
          have HI := Lib.hid (show itS n l (j + 1) = La by show (swA n (itS n l j, false)).1 = _; rw [HN.out])
          clear hkn
          go_wp2_with fail
          go_roundg (dc l (itS n l j))
          case measure => exact HD.out.2
          case rel =>
            refine ⟨j + 1, fa, rfl, by rw [HI.out]; exact PA.out, hba, ?_⟩
            have h1 := HD.out.1
            rcases hf : fa with _ | _
            · refine Or.inr ⟨rfl, ?_⟩
              have hz : (swA l.length (itS l.length l j, false)).2 = false := by rw [HL.out, HN.out, hf]
              have hs := it_stay hz 1
              rw [clos_stop (by rw [HL.out]; omega) hz, ← HL.out]; exact hs
            · refine Or.inl ⟨rfl, ?_⟩
              have hz := it_less (l := l) (k := j) (by rw [HL.out, HN.out, hf])
              rw [HL.out] at hz
              omega
    · have PJ := Lib.hid (show Own wr 3 B A n c (iv (closB l)) by rw [← hcl]; exact ho)
      have hcp := own_capM2 ho
      have HR := Lib.hid (show renB (closB l) = (renL (closB l), true) by unfold renB; rw [clos_len, HL.out, if_pos hn])
      have HX := Lib.hid (show (renL (closB l)).length = n by rw [renL_len, clos_len, HL.out])
      have hws := hbl.size
      clear ho hcl
      go_wp2_with fail
      refine (implRenumberBlocks_any _ _ _ _ _ PJ.out.rd (by omega) hcp.1 hcp.2).mono ?_
      rw [HR.out]
      rintro e w1 ⟨A1, n1, c1, hn1, rfl, ho1, hb1⟩
      obtain rfl : n1 = n := hn1.trans HX.out
      have P1 := Lib.hid ho1
      clear ho1 hn1
      go_wp2_with fail
      go_ret
      exact ⟨A1, c1, rfl, P1.out.mono (by omega), hbl.trans (hb1.mono (by omega))⟩

end Go.Proofs.Ytdjkmeepkodhjaa
