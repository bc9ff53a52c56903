/- CoarserJoin of both sides. -/
import Derived.Test.YtdjkmeepkodhjaaJoinL
import Derived.Test.YtdjkmeepkodhjaaClos
namespace Go.Proofs.Ytdjkmeepkodhjaa
open Go.RowKit

set_option maxRecDepth 20000 in
set_option maxHeartbeats 2000000 in
theorem l19Join_any (A0 : Option Addr) (n c0 : Nat) (p : List Int) (A1 : Option Addr) (c1 : Nat) (q : List Int) (w : World) (h : Rd w A0 n (iv p)) (h' : Rd w A1 n (iv q)) (hn : n ≤ 8) :
    Calls Try.prog 70 #[.slice A0 n c0, .slice A1 n c1] w (RetI w (renL (jn p q n))) := by
  unfold RetI
  have HL := Lib.hid (show p.length = n by have := h.len; rw [iv_len] at this; exact this)
  have HX := Lib.hid (show (renL (jn p q n)).length = n by rw [renL_len, jn_len, HL.out])
  have HO := Lib.hid h
  have HQ := Lib.hid h'
  clear h h'
  go_enter Try.func70, Try.ntmps70
  go_wp2_with (at_builtin; refine appAll' _ rfl _ _ rfl w.heap.size (some ⟨w.heap.size, 0, none⟩) 0 0 (iv []) rfl (own_empty w) A0 n c0 p rfl (HO.out.alloc _) (by omega) (by simp) ?_; intro A c w1 hown' hg' hb')
  have HW := Lib.hid (show Own w1 3 w.heap.size A n c (iv p) by simpa [iv] using hown')
  have hb1 := ((Below.refl w.heap.size w).alloc (Nat.le_refl _) (.cells #[] 3)).trans hb'
  clear hown' hg' hb'
  go_wp2_with fail
  go_loopw [6, 7, 8, 9] (fun i _ _ _ wr => ∃ (ki : Nat) (L : List Int), ki ≤ n ∧ i = .int .i64 ki ∧ Hid (jn p q ki = L) ∧ Own wr 3 w.heap.size A n c (iv L) ∧ Below w.heap.size w wr) (fun i _ _ _ _ => n - (intOf i).toNat)
  case atStart => exact ⟨0, _, Nat.zero_le _, rfl, rfl, HW.out, hb1⟩
  case round =>
    obtain ⟨ki, Li, hki, rfl, HI, hoi, hbi⟩ := hrel
    have PI := Lib.hid hoi
    clear hoi
    by_cases hlti : ki < n
    · have i0 : (0 : Int) ≤ (ki : Int) := by omega
      have i1 : (ki : Int) < (n : Int) := by omega
      go_wp2_with fail
      go_loopw [7, 8, 9] (fun i _ _ wr => ∃ (kk : Nat) (L : List Int), kk ≤ ki ∧ i = .int .i64 kk ∧ Hid (lp (jst q ki) Li 0 kk = L) ∧ Own wr 3 w.heap.size A n c (iv L) ∧ Below w.heap.size w wr) (fun i _ _ _ => ki - (intOf i).toNat)
      case atStart => exact ⟨0, _, Nat.zero_le _, rfl, rfl, PI.out, hbi⟩
      case round =>
        obtain ⟨kk, Lk, hkk, rfl, HK, hok, hbk⟩ := hrel
        by_cases hltk : kk < ki
        · obtain ⟨g, xi, hA1, hgB, _, hxi, hci, _⟩ := hok.ati hlti
          obtain ⟨_, xk, hA2, _, _, hxk, hck, _⟩ := hok.ati (show kk < n by omega)
          obtain ⟨bq, oq, yi, hA3, hyi, hdi⟩ := (HQ.out.below hbk).ati hlti
          obtain ⟨_, _, yk, hA4, hyk, hdk⟩ := (HQ.out.below hbk).ati (show kk < n by omega)
          subst hA1
          cases hA2
          subst hA3
          cases hA4
          have EI := Lib.hid (getD_of' hxi)
          have EK := Lib.hid (getD_of' hxk)
          have FI := Lib.hid (getD_of' hyi)
          have FK := Lib.hid (getD_of' hyk)
          have XK := Lib.hid hxk
          have PK := Lib.hid hok
          have HDL := Lib.hid (show Lk.length = n by have := hok.len; rw [iv_len] at this; exact this)
          have k0 : (0 : Int) ≤ (kk : Int) := by omega
          have k1 : (kk : Int) < (n : Int) := by omega
          have k2 : (kk : Int) < (ki : Int) := by omega
          clear hxi hxk hyi hyk hok
          by_cases e1 : yi = yk
          · by_cases e2 : xi = xk
            · have HS := Lib.hid (show lp (jst q ki) Li 0 (kk + 1) = Lk by rw [lp_succ, HK.out, Nat.zero_add]; exact jst_eq EI.out (by rw [EK.out, e2]))
              have q1 : (yi == yk) = true := by simp [e1]
              have q2 : (xi != xk) = false := by simp [e2]
              clear e1 e2
              go_wp2_with fail
              go_quiet (fail)
              go_wp2_with fail
              go_roundw
              case rel => exact ⟨kk + 1, Lk, by omega, by go_num, HS, (by repeat (first | exact PK.out | refine Own.drewN ?_ _)), (by repeat (first | exact hbk | apply below_drewN'))⟩
              case measure => simp [intOf]; omega
            · have HS := Lib.hid (show lp (jst q ki) Li 0 (kk + 1) = mrg Lk xk xi by rw [lp_succ, HK.out, Nat.zero_add, jst_yes (by rw [FI.out, FK.out]; exact e1), EI.out, EK.out])
              have q1 : (yi == yk) = true := by simp [e1]
              have q2 : (xi != xk) = true := by simp [e2]
              have HMA := Lib.hid (show ∀ kj, (mrgTo Lk xk xi kj)[kk]? = some xk from fun kj => mrgTo_keep XK.out)
              clear e1 e2
              go_wp2_with fail
              go_quiet (fail)
              go_wp2_with fail
              go_loopw [9] (fun i wr => ∃ kj : Nat, kj ≤ n ∧ i = .int .i64 kj ∧ Own wr 3 w.heap.size (some ⟨g, 0, none⟩) n c (iv (mrgTo Lk xk xi kj)) ∧ Below w.heap.size w wr) (fun i _ => n - (intOf i).toNat)
              case atStart => exact ⟨0, Nat.zero_le _, rfl, (by repeat (first | exact PK.out | refine Own.drewN ?_ _)), (by repeat (first | exact hbk | apply below_drewN'))⟩
              case round =>
                obtain ⟨kj, hkj, rfl, hoj, hbj⟩ := hrel
                by_cases hltj : kj < n
                · obtain ⟨_, xj, hA5, _, _, hxj, hcj, hfj⟩ := hoj.ati hltj
                  obtain ⟨_, xx, hA6, _, _, hxx, hcx, _⟩ := hoj.ati (show kk < n by omega)
                  cases hA5
                  cases hA6
                  rw [HMA.out] at hxx
                  cases hxx
                  rw [mrgTo_at] at hxj
                  have PJ := Lib.hid hoj
                  clear hoj
                  have j0 : (0 : Int) ≤ (kj : Int) := by omega
                  have j1 : (kj : Int) < (n : Int) := by omega
                  by_cases hzy : xj = xi
                  · have HS2 := Lib.hid (show (mrgTo Lk xk xi kj).set kj xk = mrgTo Lk xk xi (kj + 1) by have := mrgTo_set (x := xk) (y := xi) hxj; rw [if_pos hzy] at this; exact this)
                    have hzb : (xj == xi) = true := by simp [hzy]
                    clear hxj hzy
                    go_wp2_with fail
                    go_roundw
                    case rel => exact ⟨kj + 1, by omega, by go_num, by rw [← HS2.out]; exact PJ.out.puti kj xk, hbj.setCell (p := ⟨g, kj, none⟩) hgB _⟩
                    case measure => simp [intOf]; omega
                  · have HS2 := Lib.hid (mrgTo_step (x := xk) hxj hzy)
                    have hzb : (xj == xi) = false := by simp [hzy]
                    clear hxj hzy
                    go_wp2_with fail
                    go_roundw
                    case rel => exact ⟨kj + 1, by omega, by go_num, by rw [HS2.out]; exact PJ.out, hbj⟩
                    case measure => simp [intOf]; omega
                · have hkn : kj = n := by omega
                  have P5 := Lib.hid (show Own wr 3 w.heap.size (some ⟨g, 0, none⟩) n c (iv (mrg Lk xk xi)) by
                    rw [hkn, mrgTo_all (by rw [HDL.out]; exact Nat.le_refl _)] at hoj; exact hoj)
                  clear hoj hkn
                  go_wp2_with fail
                  go_roundw
                  case rel => exact ⟨kk + 1, _, by omega, by go_num, HS, P5.out, hbj⟩
                  case measure => simp [intOf]; omega
          · have HS := Lib.hid (show lp (jst q ki) Li 0 (kk + 1) = Lk by rw [lp_succ, HK.out, Nat.zero_add]; exact jst_no (by rw [FI.out, FK.out]; exact e1))
            have q1 : (yi == yk) = false := by simp [e1]
            clear e1
            go_wp2_with fail
            go_quiet (fail)
            go_wp2_with fail
            go_roundw
            case rel => exact ⟨kk + 1, Lk, by omega, by go_num, HS, (by repeat (first | exact PK.out | refine Own.drewN ?_ _)), (by repeat (first | exact hbk | apply below_drewN'))⟩
            case measure => simp [intOf]; omega
        · have hkn : kk = ki := by omega
          have HN := Lib.hid (show jn p q (ki + 1) = Lk by unfold jn; rw [lp_succ, Nat.zero_add]; show jrow q ki (jn p q ki) = _; rw [HI.out]; unfold jrow; rw [← hkn]; rw [hkn] at HK ⊢; exact HK.out)
          have PK := Lib.hid hok
          clear hok hkn
          go_wp2_with fail
          go_roundw
          case rel => exact ⟨ki + 1, Lk, by omega, by go_num, HN, PK.out, hbk⟩
          case measure => simp [intOf]; omega
    · have hkn : ki = n := by omega
      have HF := Lib.hid (show jn p q n = Li by rw [← hkn]; exact HI.out)
      have hws := hbi.size
      have i1 : ¬ (ki : Int) < (n : Int) := by omega
      clear hkn
      go_wp2_with fail
      refine (l8Renumber_any _ _ _ _ _ PI.out.rd (by omega)).mono ?_
      rintro e w3 ⟨A3, n3, c3, hn3, rfl, ho4, hb4⟩
      have HO4 := Lib.hid ho4
      have HN3 := Lib.hid hn3
      clear ho4 hn3
      go_wp2_with fail
      go_ret
      rw [HF.out]
      exact ⟨_, _, _, HN3.out, rfl, HO4.out.mono hws, hbi.trans (hb4.mono hws)⟩

set_option maxRecDepth 20000 in
set_option maxHeartbeats 2000000 in
theorem specJoin_any (A1 : Option Addr) (n1 c1 : Nat) (xs : List Int) (A2 : Option Addr) (n2 c2 : Nat) (ys : List Int) (w : World) (h1 : Rd w A1 n1 (iv xs)) (h2 : Rd w A2 n2 (iv ys)) (hn1 : n1 ≤ 1000000000) (hn2 : n2 ≤ 1000000000) :
    Calls Try.prog 44 #[.slice A1 n1 c1, .slice A2 n2 c2] w (RetIB w (joi xs ys).1 (joi xs ys).2) := by
  unfold RetIB
  have HR1 := Lib.hid h1
  have HR2 := Lib.hid h2
  have HL1 := Lib.hid (show xs.length = n1 by have := h1.len; rw [iv_len] at this; exact this)
  have HL2 := Lib.hid (show ys.length = n2 by have := h2.len; rw [iv_len] at this; exact this)
  clear h1 h2
  rcases hp : nonc xs with _ | _
  · have HF := Lib.hid (show joi xs ys = ([], false) by simp [joi, hp])
    have HP := Lib.hid hp
    clear hp
    go_enter Try.func44, Try.ntmps44
    go_wp2_with fail
    refine (specIsNoncrossing_any _ _ _ _ _ HR1.out hn1).mono ?_
    rintro e w' ⟨rfl, m1, rfl⟩
    rw [HP.out]
    go_wp2_with fail
    go_ret2
    rw [HF.out]
    exact ⟨_, 0, 0, rfl, rfl, own_empty _, (below_drewN' (Below.refl _ _) _).alloc (Nat.le_refl _) _⟩
  rcases hq : nonc ys with _ | _
  · have HF := Lib.hid (show joi xs ys = ([], false) by simp [joi, hq])
    have HP := Lib.hid hp
    have HQ := Lib.hid hq
    clear hp hq
    go_enter Try.func44, Try.ntmps44
    go_wp2_with fail
    refine (specIsNoncrossing_any _ _ _ _ _ HR1.out hn1).mono ?_
    rintro e w' ⟨rfl, m1, rfl⟩
    rw [HP.out]
    go_wp2_with fail
    refine (specIsNoncrossing_any _ _ _ _ _ (HR2.out.drewN _) hn2).mono ?_
    rintro e w' ⟨rfl, m2, rfl⟩
    rw [HQ.out]
    go_wp2_with fail
    go_ret2
    rw [HF.out]
    exact ⟨_, 0, 0, rfl, rfl, own_empty _, (below_drewN' (Below.refl _ _) _).alloc (Nat.le_refl _) _⟩
  have HP := Lib.hid hp
  have HQ := Lib.hid hq
  have HPP := Lib.hid (nonc_par hp)
  have b1 := (isPar_iff HPP.out).1
  rw [HL1.out] at b1
  by_cases hnn : n1 = n2
  case neg =>
    have HF := Lib.hid (show joi xs ys = ([], false) by simp [joi, HL1.out, HL2.out, hnn])
    have e1 : ((n1 : Int) != (n2 : Int)) = true := by simp; omega
    clear hp hq hnn
    go_enter Try.func44, Try.ntmps44
    go_wp2_with fail
    refine (specIsNoncrossing_any _ _ _ _ _ HR1.out hn1).mono ?_
    rintro e w' ⟨rfl, m1, rfl⟩
    rw [HP.out]
    go_wp2_with fail
    refine (specIsNoncrossing_any _ _ _ _ _ (HR2.out.drewN _) hn2).mono ?_
    rintro e w' ⟨rfl, m2, rfl⟩
    rw [HQ.out]
    go_wp2_with fail
    go_ret2
    rw [HF.out]
    exact ⟨_, 0, 0, rfl, rfl, own_empty _, (below_drewN' (Below.refl _ _) _).alloc (Nat.le_refl _) _⟩
  have HF := Lib.hid (show joi xs ys = (renL (closB (jn xs ys n1)), true) by simp [joi, hp, hq, HL1.out, HL2.out, hnn])
  have HX := Lib.hid (show (renL (closB (jn xs ys n1))).length = n1 by rw [renL_len, clos_len, jn_len, HL1.out])
  subst hnn
  clear hp hq
  go_enter Try.func44, Try.ntmps44
  go_wp2_with fail
  refine (specIsNoncrossing_any _ _ _ _ _ HR1.out hn1).mono ?_
  rintro e w' ⟨rfl, m1, rfl⟩
  rw [HP.out]
  go_wp2_with fail
  refine (specIsNoncrossing_any _ _ _ _ _ (HR2.out.drewN _) hn2).mono ?_
  rintro e w' ⟨rfl, m2, rfl⟩
  rw [HQ.out]
  go_wp2_with fail
  refine (l19Join_any _ _ _ _ _ _ _ _ (HR1.out.drewN _) (HR2.out.drewN _) b1).mono ?_
  rintro e w1 ⟨A3, n3, c3, hn3, rfl, ho3, hb3⟩
  have P3 := Lib.hid ho3
  have hbw := (below_drewN' (Below.refl w.heap.size w) (m1 + m2)).trans hb3
  have hws := hbw.size
  have H3 := Lib.hid (show n3 = n1 by rw [hn3, renL_len, jn_len, HL1.out])
  have HC := Lib.hid (show clo (renL (jn xs ys n1)) = (renL (closB (jn xs ys n1)), true) by
    unfold clo; rw [renL_par (by rw [jn_len, HL1.out]; exact b1), ren_clos]; rfl)
  have h38 : n3 ≤ 1000000000 := by rw [H3.out]; omega
  clear ho3 hn3 hb3
  go_wp2_with fail
  refine (specClosure_any _ _ _ _ _ P3.out.rd h38).mono ?_
  rw [HC.out]
  rintro e w2 ⟨A4, n4, c4, hn4, rfl, ho4, hb4⟩
  have P4 := Lib.hid ho4
  have H4 := Lib.hid hn4
  clear ho4 hn4
  go_wp2_with fail
  go_ret2
  rw [HF.out]
  exact ⟨_, _, _, H4.out, rfl, P4.out.mono hws, hbw.trans (hb4.mono hws)⟩

set_option maxRecDepth 20000 in
set_option maxHeartbeats 2000000 in
theorem implJoin_any (A1 : Option Addr) (n1 c1 : Nat) (xs : List Int) (A2 : Option Addr) (n2 c2 : Nat) (ys : List Int) (w : World) (h1 : Rd w A1 n1 (iv xs)) (h2 : Rd w A2 n2 (iv ys)) (hn1 : n1 ≤ 1000000000) (hn2 : n2 ≤ 1000000000) :
    Calls Try.prog 45 #[.slice A1 n1 c1, .slice A2 n2 c2] w (RetIB w (joi xs ys).1 (joi xs ys).2) := by
  unfold RetIB
  have HR1 := Lib.hid h1
  have HR2 := Lib.hid h2
  have HL1 := Lib.hid (show xs.length = n1 by have := h1.len; rw [iv_len] at this; exact this)
  have HL2 := Lib.hid (show ys.length = n2 by have := h2.len; rw [iv_len] at this; exact this)
  clear h1 h2
  rcases hp : nonc xs with _ | _
  · have HF := Lib.hid (show joi xs ys = ([], false) by simp [joi, hp])
    have HP := Lib.hid hp
    clear hp
    go_enter Try.func45, Try.ntmps45
    go_wp2_with fail
    refine (implIsNoncrossing_any _ _ _ _ _ HR1.out hn1).mono ?_
    rintro e w' ⟨rfl, m1, rfl⟩
    rw [HP.out]
    go_wp2_with fail
    go_ret2
    rw [HF.out]
    exact ⟨_, 0, 0, rfl, rfl, own_empty _, (below_drewN' (Below.refl _ _) _).alloc (Nat.le_refl _) _⟩
  rcases hq : nonc ys with _ | _
  · have HF := Lib.hid (show joi xs ys = ([], false) by simp [joi, hq])
    have HP := Lib.hid hp
    have HQ := Lib.hid hq
    clear hp hq
    go_enter Try.func45, Try.ntmps45
    go_wp2_with fail
    refine (implIsNoncrossing_any _ _ _ _ _ HR1.out hn1).mono ?_
    rintro e w' ⟨rfl, m1, rfl⟩
    rw [HP.out]
    go_wp2_with fail
    refine (implIsNoncrossing_any _ _ _ _ _ (HR2.out.drewN _) hn2).mono ?_
    rintro e w' ⟨rfl, m2, rfl⟩
    rw [HQ.out]
    go_wp2_with fail
    go_ret2
    rw [HF.out]
    exact ⟨_, 0, 0, rfl, rfl, own_empty _, (below_drewN' (Below.refl _ _) _).alloc (Nat.le_refl _) _⟩
  have HP := Lib.hid hp
  have HQ := Lib.hid hq
  have HPP := Lib.hid (nonc_par hp)
  have b1 := (isPar_iff HPP.out).1
  rw [HL1.out] at b1
  by_cases hnn : n1 = n2
  case neg =>
    have HF := Lib.hid (show joi xs ys = ([], false) by simp [joi, HL1.out, HL2.out, hnn])
    have e1 : ((n1 : Int) != (n2 : Int)) = true := by simp; omega
    clear hp hq hnn
    go_enter Try.func45, Try.ntmps45
    go_wp2_with fail
    refine (implIsNoncrossing_any _ _ _ _ _ HR1.out hn1).mono ?_
    rintro e w' ⟨rfl, m1, rfl⟩
    rw [HP.out]
    go_wp2_with fail
    refine (implIsNoncrossing_any _ _ _ _ _ (HR2.out.drewN _) hn2).mono ?_
    rintro e w' ⟨rfl, m2, rfl⟩
    rw [HQ.out]
    go_wp2_with fail
    go_ret2
    rw [HF.out]
    exact ⟨_, 0, 0, rfl, rfl, own_empty _, (below_drewN' (Below.refl _ _) _).alloc (Nat.le_refl _) _⟩
  have HF := Lib.hid (show joi xs ys = (renL (closB (jn xs ys n1)), true) by simp [joi, hp, hq, HL1.out, HL2.out, hnn])
  have HX := Lib.hid (show (renL (closB (jn xs ys n1))).length = n1 by rw [renL_len, clos_len, jn_len, HL1.out])
  subst hnn
  clear hp hq
  go_enter Try.func45, Try.ntmps45
  go_wp2_with fail
  refine (implIsNoncrossing_any _ _ _ _ _ HR1.out hn1).mono ?_
  rintro e w' ⟨rfl, m1, rfl⟩
  rw [HP.out]
  go_wp2_with fail
  refine (implIsNoncrossing_any _ _ _ _ _ (HR2.out.drewN _) hn2).mono ?_
  rintro e w' ⟨rfl, m2, rfl⟩
  rw [HQ.out]
  go_wp2_with fail
  refine (copyInts_any _ _ _ _ _ (HR1.out.drewN _) (by omega)).mono ?_
  rintro e w1 ⟨A3, n3, c3, hn3, rfl, ho3, hb3⟩
  obtain rfl : n3 = n1 := hn3.trans HL1.out
  have hbw := (below_drewN' (Below.refl w.heap.size w) (m1 + m2)).trans hb3
  have P3 := Lib.hid (show Own w1 3 w.heap.size A3 n3 c3 (iv xs) from ho3)
  clear ho3 hn3 hb3
  go_wp2_with fail
  go_loopw [7, 8, 29] (fun _ _ i wr => ∃ (ki : Nat) (L : List Int), ki ≤ n3 ∧ i = .int .i64 ki ∧ Hid (jn xs ys ki = L) ∧ Own wr 3 w.heap.size A3 n3 c3 (iv L) ∧ Below w.heap.size w wr) (fun _ _ i _ => n3 - (intOf i).toNat)
  case atStart => exact ⟨0, _, Nat.zero_le _, rfl, rfl, P3.out, hbw⟩
  case round =>
    obtain ⟨ki, Li, hki, rfl, HI, hoi, hbi⟩ := hrel
    have PI := Lib.hid hoi
    clear hoi
    by_cases hlti : ki < n3
    · have i0 : (0 : Int) ≤ (ki : Int) := by omega
      have i1 : (ki : Int) < (n3 : Int) := by omega
      go_wp2_with fail
      go_loopw [8, 33] (fun _ i wr => ∃ (kk : Nat) (L : List Int), kk ≤ ki ∧ i = .int .i64 kk ∧ Hid (lp (jst ys ki) Li 0 kk = L) ∧ Own wr 3 w.heap.size A3 n3 c3 (iv L) ∧ Below w.heap.size w wr) (fun _ i _ => ki - (intOf i).toNat)
      case atStart => exact ⟨0, _, Nat.zero_le _, rfl, rfl, PI.out, hbi⟩
      case round =>
        obtain ⟨kk, Lk, hkk, rfl, HK, hok, hbk⟩ := hrel
        by_cases hltk : kk < ki
        · obtain ⟨g, xi, hA1, hgB, _, hxi, hci, _⟩ := hok.ati hlti
          obtain ⟨_, xk, hA2, _, _, hxk, hck, _⟩ := hok.ati (show kk < n3 by omega)
          obtain ⟨bq, oq, yi, hA3, hyi, hdi⟩ := (HR2.out.below hbk).ati hlti
          obtain ⟨_, _, yk, hA4, hyk, hdk⟩ := (HR2.out.below hbk).ati (show kk < n3 by omega)
          subst hA1
          cases hA2
          subst hA3
          cases hA4
          have EI := Lib.hid (getD_of' hxi)
          have EK := Lib.hid (getD_of' hxk)
          have FI := Lib.hid (getD_of' hyi)
          have FK := Lib.hid (getD_of' hyk)
          have XI := Lib.hid hxi
          have XK := Lib.hid hxk
          have PK := Lib.hid hok
          have k0 : (0 : Int) ≤ (kk : Int) := by omega
          have k1 : (kk : Int) < (n3 : Int) := by omega
          have k2 : (kk : Int) < (ki : Int) := by omega
          clear hxi hxk hyi hyk hok
          by_cases e1 : yi = yk
          · have HS := Lib.hid (show lp (jst ys ki) Li 0 (kk + 1) = mrg Lk xk xi by rw [lp_succ, HK.out, Nat.zero_add, jst_yes (by rw [FI.out, FK.out]; exact e1), EI.out, EK.out])
            have q1 : (yi == yk) = true := by simp [e1]
            have HM := Lib.hid (show ∀ W, Own W 3 w.heap.size (some ⟨g, 0, none⟩) n3 c3 (iv Lk) → Calls Try.prog 72 #[.slice (some ⟨g, 0, none⟩) n3 c3, .int .i64 kk, .int .i64 ki] W fun e w' => e = .returned (.tuple #[]) ∧ Own w' 3 w.heap.size (some ⟨g, 0, none⟩) n3 c3 (iv (mrg Lk xk xi)) ∧ Below w.heap.size W w' from
              fun W hW => merged_any g n3 c3 kk ki w.heap.size w.heap.size Lk xk xi W hW (by omega) (Nat.le_refl _) XK.out XI.out)
            clear e1
            go_wp2_with fail
            go_quiet (fail)
            go_wp2_with fail
            refine (HM.out _ ?_).mono ?_
            · repeat (first | exact PK.out | refine Own.drewN ?_ _)
            rintro e w5 ⟨rfl, ho5, hb5⟩
            have P5 := Lib.hid ho5
            have hb6 := (below_drewN' hbk _).trans hb5
            clear ho5 hb5
            go_wp2_with fail
            go_roundw
            case rel => exact ⟨kk + 1, _, by omega, by go_num, HS, P5.out, hb6⟩
            case measure => simp [intOf]; omega
          · have HS := Lib.hid (show lp (jst ys ki) Li 0 (kk + 1) = Lk by rw [lp_succ, HK.out, Nat.zero_add]; exact jst_no (by rw [FI.out, FK.out]; exact e1))
            have q1 : (yi == yk) = false := by simp [e1]
            clear e1
            go_wp2_with fail
            go_quiet (fail)
            go_wp2_with fail
            go_roundw
            case rel => exact ⟨kk + 1, Lk, by omega, by go_num, HS, (by repeat (first | exact PK.out | refine Own.drewN ?_ _)), (by repeat (first | exact hbk | apply below_drewN'))⟩
            case measure => simp [intOf]; omega
        · have hkn : kk = ki := by omega
          have HN := Lib.hid (show jn xs ys (ki + 1) = Lk by unfold jn; rw [lp_succ, Nat.zero_add]; show jrow ys ki (jn xs ys ki) = _; rw [HI.out]; unfold jrow; rw [← hkn]; rw [hkn] at HK ⊢; exact HK.out)
          have PK := Lib.hid hok
          clear hok hkn
          go_wp2_with fail
          go_roundw
          case rel => exact ⟨ki + 1, Lk, by omega, by go_num, HN, PK.out, hbk⟩
          case measure => simp [intOf]; omega
    · have hkn : ki = n3 := by omega
      have HJ := Lib.hid (show jn xs ys n3 = Li by rw [← hkn]; exact HI.out)
      have hws := hbi.size
      have i1 : ¬ (ki : Int) < (n3 : Int) := by omega
      clear hkn
      go_wp2_with fail
      refine (closure_any _ _ _ w.heap.size w.heap.size Li _ PI.out b1 (Nat.le_refl _) hws).mono ?_
      rintro e w2 ⟨A2, c2, rfl, ho2, hb2⟩
      have P2 := Lib.hid ho2
      clear ho2
      go_wp2_with fail
      go_ret2
      rw [HF.out, HJ.out]
      exact ⟨A2, _, c2, by rw [← HJ.out]; exact HX.out.symm, rfl, P2.out, hbi.trans hb2⟩

end Go.Proofs.Ytdjkmeepkodhjaa
