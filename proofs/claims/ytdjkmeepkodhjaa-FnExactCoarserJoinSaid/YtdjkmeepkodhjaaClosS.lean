/- spec.NoncrossingClosure. -/
import Derived.Test.YtdjkmeepkodhjaaClosI2
import Derived.Test.YtdjkmeepkodhjaaPut2
namespace Go.Proofs.Ytdjkmeepkodhjaa
open Go.RowKit

theorem mrgTo_keep {l : List Int} {x y : Int} {a k : Nat} (h : l[a]? = some x) : (mrgTo l x y k)[a]? = some x := by
  obtain ⟨h1, h2⟩ := List.getElem?_eq_some_iff.1 h
  unfold mrgTo
  have e : (mrg (l.take k) x y).length = min k l.length := by rw [mrg_len, List.length_take]
  rcases Nat.lt_or_ge a k with hk | hk
  · rw [List.getElem?_append_left (by omega)]
    unfold mrg
    rw [List.getElem?_map, List.getElem?_take_of_lt hk, h]
    show some (if x = y then x else x) = _
    split <;> rfl
  · rw [List.getElem?_append_right (by omega), e, List.getElem?_drop, show k + (a - min k l.length) = a by omega, h]
/-- What both closures give. -/
def clo (l : List Int) : List Int × Bool := if isPar l then (renL (closB l), true) else ([], false)
theorem clo_len (l : List Int) : (clo l).1.length ≤ 1048576 := by
  unfold clo
  split
  · next h => have := (isPar_iff h).1; show (renL _).length ≤ _; rw [renL_len, clos_len]; omega
  · simp

set_option maxRecDepth 20000 in
set_option maxHeartbeats 2000000 in
theorem specClosure_any (A0 : Option Addr) (n c0 : Nat) (l : List Int) (w : World) (h : Rd w A0 n (iv l)) (hn : n ≤ 1000000000) :
    Calls Try.prog 40 #[.slice A0 n c0] w (RetIB w (clo l).1 (clo l).2) := by
  unfold RetIB
  have hl : l.length = n := by have := h.len; rw [iv_len] at this; exact this
  have HL := Lib.hid hl
  have HO := Lib.hid h
  clear h hl
  rcases hp : isPar l with _ | _
  · have HF := Lib.hid (show clo l = ([], false) by simp [clo, hp])
    have HP := Lib.hid hp
    clear hp
    go_enter Try.func40, Try.ntmps40
    go_wp2_with fail
    refine (specIsPartition_any _ _ _ _ _ HO.out hn).mono ?_
    rintro e w' ⟨rfl, rfl⟩
    rw [HP.out]
    go_wp2_with fail
    go_ret2
    rw [HF.out]
    exact ⟨_, 0, 0, rfl, rfl, own_empty w, (Below.refl _ _).alloc (Nat.le_refl _) _⟩
  have HF := Lib.hid (show clo l = (renL (closB l), true) by simp [clo, hp])
  have h8 : n ≤ 8 := by have := (isPar_iff hp).1; rw [HL.out] at this; exact this
  have HP := Lib.hid hp
  have HX := Lib.hid (show (renL (closB l)).length = n by rw [renL_len, clos_len, HL.out])
  have HC := Lib.hid (show closB l = itS n l (n + 1) by unfold closB; rw [HL.out])
  clear hp
  go_enter Try.func40, Try.ntmps40
  go_wp2_with fail
  refine (specIsPartition_any _ _ _ _ _ HO.out hn).mono ?_
  rintro e w' ⟨rfl, rfl⟩
  rw [HP.out]
  go_wp2_with (at_builtin; refine appAll' _ rfl _ _ rfl w.heap.size (some ⟨w.heap.size, 0, none⟩) 0 0 (iv []) rfl (own_empty w) A0 n c0 l rfl (HO.out.alloc _) (by omega) (by simp) ?_; intro A c w1 hown' hg' hb')
  have HW := Lib.hid (show Own w1 3 w.heap.size A n c (iv l) by simpa [iv] using hown')
  have hb1 := ((Below.refl w.heap.size w).alloc (Nat.le_refl _) (.cells #[] 3)).trans hb'
  clear hown' hg' hb'
  go_wp2_with fail
  go_loopw [5, 6, 7, 8, 9, 10, 11] (fun i _ _ _ _ _ _ wr => ∃ k : Nat, k ≤ n + 1 ∧ i = .int .i64 k ∧ Own wr 3 w.heap.size A n c (iv (itS n l k)) ∧ Below w.heap.size w wr) (fun i _ _ _ _ _ _ _ => n + 1 - (intOf i).toNat)
  case atStart => exact ⟨0, Nat.zero_le _, rfl, HW.out, hb1⟩
  case round =>
    obtain ⟨j, hj, rfl, ho, hbl⟩ := hrel
    by_cases hltj0 : j ≤ n
    · have PJ := Lib.hid ho
      clear ho
      have jj0 : (j : Int) ≤ (n : Int) := by omega
      go_wp2_with fail
      go_loopw [6, 7, 8, 9, 10, 11] (fun i _ _ _ _ _ wr => ∃ ka : Nat, ka ≤ n ∧ i = .int .i64 ka ∧ ∃ (L : List Int) (f : Bool), Hid (lp (swB n) (itS n l j, false) 0 ka = (L, f)) ∧ Own wr 3 w.heap.size A n c (iv L) ∧ Below w.heap.size w wr) (fun i _ _ _ _ _ _ => n - (intOf i).toNat)
      case atStart => exact ⟨0, Nat.zero_le _, rfl, _, _, rfl, PJ.out, hbl⟩
      case round =>
        obtain ⟨ka, hka, rfl, La, fa, HA, hoa, hba⟩ := hrel
        have PA := Lib.hid hoa
        clear hoa
        by_cases hlta : ka < n
        · have i0 : (0 : Int) ≤ (ka : Int) := by omega
          have i1 : (ka : Int) < (n : Int) := by omega
          go_wp2_with fail
          go_loopw [7, 8, 9, 10, 11] (fun i _ _ _ _ wr => ∃ kb : Nat, kb ≤ n - (ka + 1) ∧ i = .int .i64 ((ka : Int) + 1 + kb) ∧ ∃ (L : List Int) (f : Bool), Hid (lp (swC n ka) (La, fa) (ka + 1) kb = (L, f)) ∧ Own wr 3 w.heap.size A n c (iv L) ∧ Below w.heap.size w wr) (fun i _ _ _ _ _ => n - (intOf i).toNat)
          case atStart => exact ⟨0, Nat.zero_le _, by go_num, _, _, rfl, PA.out, hba⟩
          case round =>
            obtain ⟨kb, hkb, rfl, Lb, fb, HB, hob, hbb⟩ := hrel
            have PB := Lib.hid hob
            clear hob
            by_cases hltb : ka + 1 + kb < n
            · have i2 : (0 : Int) ≤ (ka : Int) + 1 + kb := by omega
              have i3 : (ka : Int) + 1 + kb < (n : Int) := by omega
              go_wp2_with fail
              go_loopw [8, 9, 10, 11] (fun i _ _ _ wr => ∃ kc : Nat, kc ≤ n - (ka + 1 + kb + 1) ∧ i = .int .i64 ((ka : Int) + 1 + kb + 1 + kc) ∧ ∃ (L : List Int) (f : Bool), Hid (lp (swD n ka (ka + 1 + kb)) (Lb, fb) (ka + 1 + kb + 1) kc = (L, f)) ∧ Own wr 3 w.heap.size A n c (iv L) ∧ Below w.heap.size w wr) (fun i _ _ _ _ => n - (intOf i).toNat)
              case atStart => exact ⟨0, Nat.zero_le _, by go_num, _, _, rfl, PB.out, hbb⟩
              case round =>
                obtain ⟨kc, hkc, rfl, Lc, fc, HC, hoc, hbc⟩ := hrel
                have PC := Lib.hid hoc
                clear hoc
                by_cases hltc : ka + 1 + kb + 1 + kc < n
                · have i4 : (0 : Int) ≤ (ka : Int) + 1 + kb + 1 + kc := by omega
                  have i5 : (ka : Int) + 1 + kb + 1 + kc < (n : Int) := by omega
                  go_wp2_with fail
                  go_loopw [9, 10, 11] (fun i _ _ wr => ∃ kd : Nat, kd ≤ n - (ka + 1 + kb + 1 + kc + 1) ∧ i = .int .i64 ((ka : Int) + 1 + kb + 1 + kc + 1 + kd) ∧ ∃ (L : List Int) (f : Bool), Hid (lp (stp ka (ka + 1 + kb) (ka + 1 + kb + 1 + kc)) (Lc, fc) (ka + 1 + kb + 1 + kc + 1) kd = (L, f)) ∧ Own wr 3 w.heap.size A n c (iv L) ∧ Below w.heap.size w wr) (fun i _ _ _ => n - (intOf i).toNat)
                  case atStart => exact ⟨0, Nat.zero_le _, by go_num, _, _, rfl, PC.out, hbc⟩
                  case round =>
                    obtain ⟨kd, hkd, rfl, Ld, fd, HDD, hod, hbd⟩ := hrel
                    by_cases hltd : ka + 1 + kb + 1 + kc + 1 + kd < n
                    · obtain ⟨g, xa, hA1, hgB, _, hxa, hca, _⟩ := hod.ati (show ka < n by omega)
                      obtain ⟨_, xb, hA2, _, _, hxb, hcb, _⟩ := hod.ati (show ka + 1 + kb < n by omega)
                      obtain ⟨_, xc, hA3, _, _, hxc, hcc, _⟩ := hod.ati (show ka + 1 + kb + 1 + kc < n by omega)
                      obtain ⟨_, xd, hA4, _, _, hxd, hcd, _⟩ := hod.ati hltd
                      subst hA1
                      cases hA2
                      cases hA3
                      cases hA4
                      have EA := Lib.hid (getD_of' hxa)
                      have EB := Lib.hid (getD_of' hxb)
                      have EC := Lib.hid (getD_of' hxc)
                      have ED := Lib.hid (getD_of' hxd)
                      have XA := Lib.hid hxa
                      have XB := Lib.hid hxb
                      have PD := Lib.hid hod
                      have HDL := Lib.hid (show Ld.length = n by have := hod.len; rw [iv_len] at this; exact this)
                      have i6 : (0 : Int) ≤ (ka : Int) + 1 + kb + 1 + kc + 1 + kd := by omega
                      have i7 : (ka : Int) + 1 + kb + 1 + kc + 1 + kd < (n : Int) := by omega
                      have t2 : ((ka : Int) + 1 + kb).toNat = ka + 1 + kb := by omega
                      have t4 : ((ka : Int) + 1 + kb + 1 + kc).toNat = ka + 1 + kb + 1 + kc := by omega
                      have t6 : ((ka : Int) + 1 + kb + 1 + kc + 1 + kd).toNat = ka + 1 + kb + 1 + kc + 1 + kd := by omega
                      clear hxa hxb hxc hxd hod
                      by_cases e1 : xa = xc
                      · by_cases e2 : xb = xd
                        · by_cases e3 : xa = xb
                          · have HS := Lib.hid (show lp (stp ka (ka + 1 + kb) (ka + 1 + kb + 1 + kc)) (Lc, fc) (ka + 1 + kb + 1 + kc + 1) (kd + 1) = (Ld, fd) by rw [lp_succ, HDD.out, stp_no (by unfold crs; rw [EA.out, EB.out, EC.out, ED.out]; simp [e3])])
                            have q1 : (xa == xc) = true := by simp [e1]
                            have q2 : (xb == xd) = true := by simp [e2]
                            have q3 : (xa != xb) = false := by simp [e3]
                            clear e1 e2 e3
                            go_wp2_with fail
                            go_quiet (fail)
                            go_wp2_with fail
                            go_roundw
                            case rel => exact ⟨kd + 1, by omega, by go_num, Ld, fd, HS, (by repeat (first | exact PD.out | refine Own.drewN ?_ _)), (by repeat (first | exact hbd | apply below_drewN'))⟩
                            case measure => simp [intOf]; omega

                          · have HS := Lib.hid (show lp (stp ka (ka + 1 + kb) (ka + 1 + kb + 1 + kc)) (Lc, fc) (ka + 1 + kb + 1 + kc + 1) (kd + 1) = (mrg Ld xa xb, true) by rw [lp_succ, HDD.out, stp_yes (by unfold crs; rw [EA.out, EB.out, EC.out, ED.out]; simp [e1, e2]; rw [← e1, ← e2]; exact e3), EA.out, EB.out])
                            have q1 : (xa == xc) = true := by simp [e1]
                            have q2 : (xb == xd) = true := by simp [e2]
                            have q3 : (xa != xb) = true := by simp [e3]
                            have HMA := Lib.hid (show ∀ kj, (mrgTo Ld xa xb kj)[ka]? = some xa from fun kj => mrgTo_keep XA.out)
                            clear e1 e2 e3
                            go_wp2_with fail
                            go_quiet (fail)
                            go_wp2_with fail
                            go_loopw [11] (fun i wr => ∃ kj : Nat, kj ≤ n ∧ i = .int .i64 kj ∧ Own wr 3 w.heap.size (some ⟨g, 0, none⟩) n c (iv (mrgTo Ld xa xb kj)) ∧ Below w.heap.size w wr) (fun i _ => n - (intOf i).toNat)
                            case atStart => exact ⟨0, Nat.zero_le _, rfl, (by repeat (first | exact PD.out | refine Own.drewN ?_ _)), (by repeat (first | exact hbd | apply below_drewN'))⟩
                            case round =>
                              obtain ⟨kj, hkj, rfl, hoj, hbj⟩ := hrel
                              by_cases hltj : kj < n
                              · obtain ⟨_, xj, hA5, _, _, hxj, hcj, hfj⟩ := hoj.ati hltj
                                obtain ⟨_, xx, hA6, _, _, hxx, hcx, _⟩ := hoj.ati (show ka < n by omega)
                                cases hA5
                                cases hA6
                                rw [HMA.out] at hxx
                                cases hxx
                                rw [mrgTo_at] at hxj
                                have PK := Lib.hid hoj
                                clear hoj
                                have j0 : (0 : Int) ≤ (kj : Int) := by omega
                                have j1 : (kj : Int) < (n : Int) := by omega
                                by_cases hzy : xj = xb
                                · have HS2 := Lib.hid (show (mrgTo Ld xa xb kj).set kj xa = mrgTo Ld xa xb (kj + 1) by have := mrgTo_set (x := xa) (y := xb) hxj; rw [if_pos hzy] at this; exact this)
                                  have hzb : (xj == xb) = true := by simp [hzy]
                                  clear hxj hzy
                                  go_wp2_with fail
                                  go_roundw
                                  case rel => exact ⟨kj + 1, by omega, by go_num, by rw [← HS2.out]; exact PK.out.puti kj xa, hbj.setCell (p := ⟨g, kj, none⟩) hgB _⟩
                                  case measure => simp [intOf]; omega
                                · have HS2 := Lib.hid (mrgTo_step (x := xa) hxj hzy)
                                  have hzb : (xj == xb) = false := by simp [hzy]
                                  clear hxj hzy
                                  go_wp2_with fail
                                  go_roundw
                                  case rel => exact ⟨kj + 1, by omega, by go_num, by rw [HS2.out]; exact PK.out, hbj⟩
                                  case measure => simp [intOf]; omega
                              · have hkn : kj = n := by omega
                                have P5 := Lib.hid (show Own wr 3 w.heap.size (some ⟨g, 0, none⟩) n c (iv (mrg Ld xa xb)) by
                                  rw [hkn, mrgTo_all (by rw [HDL.out]; exact Nat.le_refl _)] at hoj; exact hoj)
                                clear hoj hkn
                                go_wp2_with fail
                                go_roundw
                                case rel => exact ⟨kd + 1, by omega, by go_num, _, true, HS, P5.out, hbj⟩
                                case measure => simp [intOf]; omega
                        · have HS := Lib.hid (show lp (stp ka (ka + 1 + kb) (ka + 1 + kb + 1 + kc)) (Lc, fc) (ka + 1 + kb + 1 + kc + 1) (kd + 1) = (Ld, fd) by rw [lp_succ, HDD.out, stp_no (by unfold crs; rw [EA.out, EB.out, EC.out, ED.out]; simp [e2])])
                          have q1 : (xa == xc) = true := by simp [e1]
                          have q2 : (xb == xd) = false := by simp [e2]
                          clear e1 e2
                          go_wp2_with fail
                          go_quiet (fail)
                          go_wp2_with fail
                          go_roundw
                          case rel => exact ⟨kd + 1, by omega, by go_num, Ld, fd, HS, (by repeat (first | exact PD.out | refine Own.drewN ?_ _)), (by repeat (first | exact hbd | apply below_drewN'))⟩
                          case measure => simp [intOf]; omega

                      · have HS := Lib.hid (show lp (stp ka (ka + 1 + kb) (ka + 1 + kb + 1 + kc)) (Lc, fc) (ka + 1 + kb + 1 + kc + 1) (kd + 1) = (Ld, fd) by rw [lp_succ, HDD.out, stp_no (by unfold crs; rw [EA.out, EB.out, EC.out, ED.out]; simp [e1])])
                        have q1 : (xa == xc) = false := by simp [e1]
                        clear e1
                        go_wp2_with fail
                        go_quiet (fail)
                        go_wp2_with fail
                        go_roundw
                        case rel => exact ⟨kd + 1, by omega, by go_num, Ld, fd, HS, (by repeat (first | exact PD.out | refine Own.drewN ?_ _)), (by repeat (first | exact hbd | apply below_drewN'))⟩
                        case measure => simp [intOf]; omega
                    · have hkn : kd = n - (ka + 1 + kb + 1 + kc + 1) := by omega
                      have HN := Lib.hid (show lp (swD n ka (ka + 1 + kb)) (Lb, fb) (ka + 1 + kb + 1) (kc + 1) = (Ld, fd) by rw [lp_succ, HC.out]; unfold swD; rw [← hkn]; exact HDD.out)
                      have PD := Lib.hid hod
                      clear hod hkn
                      go_wp2_with fail
                      go_roundw
                      case rel => exact ⟨kc + 1, by omega, by go_num, Ld, fd, HN, PD.out, hbd⟩
                      case measure => simp [intOf]; omega
                · have hkn : kc = n - (ka + 1 + kb + 1) := by omega
                  have HN := Lib.hid (show lp (swC n ka) (La, fa) (ka + 1) (kb + 1) = (Lc, fc) by rw [lp_succ, HB.out]; unfold swC; rw [← hkn]; exact HC.out)
                  clear hkn
                  go_wp2_with fail
                  go_roundw
                  case rel => exact ⟨kb + 1, by omega, by go_num, Lc, fc, HN, PC.out, hbc⟩
                  case measure => simp [intOf]; omega
            · have hkn : kb = n - (ka + 1) := by omega
              have HN := Lib.hid (show lp (swB n) (itS n l j, false) 0 (ka + 1) = (Lb, fb) by rw [lp_succ, HA.out, Nat.zero_add]; unfold swB; rw [← hkn]; exact HB.out)
              clear hkn
              go_wp2_with fail
              go_roundw
              case rel => exact ⟨ka + 1, by omega, by go_num, Lb, fb, HN, PB.out, hbb⟩
              case measure => simp [intOf]; omega
        · have hkn : ka = n := by omega
          have HN := Lib.hid (show swA n (itS n l j, false) = (La, fa) by unfold swA; rw [hkn] at HA; exact HA.out)
          have HI := Lib.hid (show itS n l (j + 1) = La by show (swA n (itS n l j, false)).1 = _; rw [HN.out])
          clear hkn
          go_wp2_with fail
          go_roundw
          case rel => exact ⟨j + 1, by omega, by go_num, by rw [HI.out]; exact PA.out, hba⟩
          case measure => simp [intOf]; omega
    · have hjn : j = n + 1 := by omega
      have PJ := Lib.hid (show Own wr 3 w.heap.size A n c (iv (closB l)) by rw [HC.out, ← hjn]; exact ho)
      have hws := hbl.size
      have jj0 : ¬ (j : Int) ≤ (n : Int) := by omega
      clear ho hjn
      go_wp2_with fail
      refine (l8Renumber_any _ _ _ _ _ PJ.out.rd (by omega)).mono ?_
      rintro e w3 ⟨A3, n3, c3, hn3, rfl, ho4, hb4⟩
      have HO4 := Lib.hid ho4
      have HN3 := Lib.hid hn3
      clear ho4 hn3
      go_wp2_with fail
      go_ret2
      rw [HF.out]
      exact ⟨_, _, _, HN3.out, rfl, HO4.out.mono hws, hbl.trans (hb4.mono hws)⟩

end Go.Proofs.Ytdjkmeepkodhjaa
