/- MatchingOfPartition of both sides. -/
import Derived.Test.YtghfhkbncjgaeaaMat
import Derived.Test.YtghfhkbncjgaeaaBlocks
namespace Go.Proofs.Ytghfhkbncjgaeaa
set_option linter.unusedVariables false
open Go.RowKit

def mopP (p : List Int) : List Int × Bool := if nonc p then (mop p, true) else ([], false)
theorem O2.set_low {w : World} {lo : Nat} {A : Option Addr} {n c : Nat} {vs : List Value} {xss : List (List Int)} (h : O2 w lo A n c vs xss) {p : Addr} (hp : p.block < lo) (u : Value) : O2 (w.setCell p u) lo A n c vs xss where
  outer := h.outer.set_far (fun g hA => by have := (h.outer.blk g (by rw [hA]; rfl)).1; omega) u
  len := h.len
  row j xs hj := by
    obtain ⟨Aj, cj, h1, h2⟩ := h.row j xs hj
    exact ⟨Aj, cj, h1, h2.set_far (fun g hA => by have := (h2.blk g (by rw [hA]; rfl)).1; omega) u⟩
  apart := h.apart

set_option maxRecDepth 20000 in
set_option maxHeartbeats 4000000 in
theorem specMatchingOfPartition_any (A : Option Addr) (n c : Nat) (p : List Int) (w : World) (h : Rd w A n (iv p)) (hn : n ≤ 1000000000) :
    Calls Try.prog 19 #[.slice A n c] w (RetIB w (mopP p).1 (mopP p).2) := by
  unfold RetIB
  have HR := Lib.hid h
  have hl := (show p.length = n by have := h.len; rw [iv_len] at this; exact this)
  have HL := Lib.hid hl
  clear h
  rcases hN : nonc p with _ | _
  · have HF := Lib.hid (show mopP p = ([], false) by unfold mopP; rw [hN]; rfl)
    have HN := Lib.hid hN
    clear hN hl
    go_enter Try.func19, Try.ntmps19
    go_wp2_with fail
    refine (specIsNoncrossing_any _ _ _ _ _ HR.out hn).mono ?_
    rintro e w1 ⟨rfl, d1, hw⟩
    have HB1 := Lib.hid (show Below w.heap.size w w1 by rw [hw]; exact below_drewN' (Below.refl _ _) d1)
    have HS1 := Lib.hid (show w1.heap.size = w.heap.size by rw [hw]; rfl)
    rw [HN.out]
    clear hw
    go_wp2_with fail
    go_ret2
    rw [HF.out]
    exact ⟨_, 0, 0, rfl, rfl, (own_empty w1).mono (by rw [HS1.out]; exact Nat.le_refl _), HB1.out.alloc (by rw [HS1.out]; exact Nat.le_refl _) _⟩
  have hpar := nonc_par hN
  have h8 : n ≤ 8 := by have := (isPar_iff hpar).1; omega
  have HF := Lib.hid (show mopP p = (mpB (blocksB p) (List.replicate (2 * n) 0) (blocksB p).length, true) by unfold mopP; rw [hN]; unfold mop; rw [hl]; rfl)
  have HN := Lib.hid hN
  have HEL := Lib.hid (fun (r : List Int) (hr : r ∈ blocksB p) (e : Int) (he : e ∈ r) => (show ∃ j : Nat, e = (j : Int) ∧ j < n by rw [← hl]; exact blocks_el hpar hr he))
  have HRL := Lib.hid (fun (r : List Int) (hr : r ∈ blocksB p) => (show r.length ≤ 8 from by
    unfold blocksB at hr
    rw [if_pos hpar] at hr
    have := blk_row_len _ r hr
    omega))
  have HC := Lib.hid (fun w (h : Rd w A n (iv p)) => specBlocksOf_any A n c p w h hn)
  have HBL := Lib.hid (show (blocksB p).length ≤ 8 by
    unfold blocksB
    rw [if_pos hpar]
    have h1 := blk_len (xs := p) p.length (Nat.le_refl _)
    have h2 := nx_bd p p.length
    omega)
  have HML := Lib.hid (fun i => show (mpB (blocksB p) (List.replicate (2 * n) 0) i).length = 2 * n by rw [mpB_len, List.length_replicate])
  obtain ⟨BS, hBS⟩ : ∃ B, B = blocksB p := ⟨_, rfl⟩
  rw [← hBS] at HF HEL HRL HC HBL HML
  clear hBS hN hpar hl
  go_enter Try.func19, Try.ntmps19
  go_wp2_with fail
  refine (specIsNoncrossing_any _ _ _ _ _ HR.out hn).mono ?_
  rintro e w1 ⟨rfl, d1, hw⟩
  have HB1 := Lib.hid (show Below w.heap.size w w1 by rw [hw]; exact below_drewN' (Below.refl _ _) d1)
  have HS1 := Lib.hid (show w1.heap.size = w.heap.size by rw [hw]; rfl)
  have HR1 := Lib.hid (HR.out.below HB1.out)
  rw [HN.out]
  clear hw
  have hmk := mkI (2 * n) (by omega) w1
  rw [show ((2 * n : Nat) : Int) = 2 * (n : Int) by omega] at hmk
  have hw2 : IntKind.i64.wrap (2 * (n : Int)) = 2 * (n : Int) := IntWalk.i64_in _ (by omega)
  have HO0 := Lib.hid (show Own (w1.alloc (.cells (madeCells #[.int .i64 0] (2 * n)) 3)) 3 w1.heap.size (some ⟨w1.heap.size, 0, none⟩) (2 * n) (2 * n) (iv (mpB BS (List.replicate (2 * n) 0) 0)) by
    have := Own.made w1 3 (.int .i64 0) (2 * n) (by unfold maxLen; omega)
    rw [iv_rep] at this
    exact this)
  go_wp2_with fail
  refine (HC.out _ (HR1.out.alloc _)).mono ?_
  rintro e w2 ⟨A', nb, c', vs, rfl, ho, hb⟩
  have HO := Lib.hid ho
  have HNB := Lib.hid ho.n_eq
  have HOW := Lib.hid (HO0.out.below hb)
  have hb2 : Below w1.heap.size w1 w2 := ((Below.refl _ _).alloc (Nat.le_refl _) (.cells (madeCells #[.int .i64 0] (2 * n)) 3)).trans (hb.mono (by simp))
  have hnb8 : nb ≤ 8 := by have := HBL.out; have := HNB.out; omega
  obtain ⟨lo, hlo⟩ : ∃ lo, lo = (w1.alloc (.cells (madeCells #[.int .i64 0] (2 * n)) 3)).heap.size := ⟨_, rfl⟩
  rw [← hlo] at HO
  have hlo1 : w1.heap.size < lo := by rw [hlo]; simp
  clear ho hb hlo hmk HO0
  go_wp2_with fail
  go_loopw [6, 7, 8, 9] (fun ix _ _ _ wr => ∃ i : Nat, i ≤ nb ∧ ix = .int .i64 i ∧ Own wr 3 w1.heap.size (some ⟨w1.heap.size, 0, none⟩) (2 * n) (2 * n) (iv (mpB BS (List.replicate (2 * n) 0) i)) ∧ O2 wr lo A' nb c' vs BS ∧ Below w1.heap.size w1 wr) (fun ix _ _ _ _ => nb - (intOf ix).toNat)
  case atStart => exact ⟨0, Nat.zero_le _, rfl, HOW.out, HO.out, hb2⟩
  case round =>
    obtain ⟨i, hi, rfl, how, ho, hbl⟩ := hrel
    obtain ⟨w3, rfl⟩ : ∃ W, W = wr := ⟨wr, rfl⟩
    have OW := Lib.hid how
    have O := Lib.hid ho
    have hs3 := hbl.size
    clear how ho
    by_cases hlt : i < nb
    · have h1 : BS[i]? = some (BS.getD i []) := by rw [List.getD_eq_getElem?_getD, List.getElem?_eq_getElem (by have := HNB.out; omega)]; rfl
      have HNX := Lib.hid (show mpB BS (List.replicate (2 * n) 0) (i + 1) = mpS (BS.getD i []) (mpB BS (List.replicate (2 * n) 0) i) (BS.getD i []).length from rfl)
      have hU : (mpB BS (List.replicate (2 * n) 0) i).length = 2 * n := HML.out i
      obtain ⟨U, hUe⟩ : ∃ U, U = mpB BS (List.replicate (2 * n) 0) i := ⟨_, rfl⟩
      rw [← hUe] at HNX OW hU
      obtain ⟨r, hr⟩ : ∃ r, r = BS.getD i [] := ⟨_, rfl⟩
      rw [← hr] at h1 HNX
      have hrm := List.mem_of_getElem? h1
      have HE := Lib.hid (HEL.out r hrm)
      have hr8 := HRL.out r hrm
      obtain ⟨g, Ar, cr, hAg, hg0, hg1, hv, hcg, hfg, hor⟩ := O.out.head h1
      subst hAg
      have HROW := Lib.hid h1
      have HV := Lib.hid hv
      have HU := Lib.hid hU
      obtain ⟨ln, hln⟩ : ∃ l, l = r.length := ⟨_, rfl⟩
      have HLN := Lib.hid hln
      rw [← hln] at hr8 hcg HNX
      have i1 : (0 : Int) ≤ (i : Int) := by omega
      have i2 : (i : Int) < (nb : Int) := by omega
      clear h1 hr hv hor hUe hU hln
      go_wp2_with fail
      go_loopw [7, 8, 9] (fun kx _ _ wr => ∃ k : Nat, k ≤ ln ∧ kx = .int .i64 k ∧ Own wr 3 w1.heap.size (some ⟨w1.heap.size, 0, none⟩) (2 * n) (2 * n) (iv (mpS r U k)) ∧ O2 wr lo (some ⟨g, 0, none⟩) nb c' vs BS ∧ Below w1.heap.size w1 wr) (fun kx _ _ _ => ln - (intOf kx).toNat)
      case atStart => exact ⟨0, Nat.zero_le _, rfl, OW.out, O.out, hbl⟩
      case round =>
        obtain ⟨k, hk, rfl, how, ho, hbk⟩ := hrel
        obtain ⟨w4, rfl⟩ : ∃ W, W = wr := ⟨wr, rfl⟩
        have OW4 := Lib.hid how
        have O4 := Lib.hid ho
        have hs4 := hbk.size
        clear how
        obtain ⟨g', Ar', cr', hAg, -, hg4, hv, hcg4, hfg4, hor⟩ := ho.head HROW.out
        cases hAg
        have he := HV.out.symm.trans hv
        injection he with he
        injection he with he1 _ he3
        subst he1 he3
        have HOR := Lib.hid hor
        rw [← HLN.out] at hcg4
        clear ho hv hor hcg hfg hg1
        by_cases hkl : k < ln
        · obtain ⟨P, hP⟩ : ∃ P, P = (k + 1) % ln := ⟨_, rfl⟩
          have hPl : P < ln := by rw [hP]; exact Nat.mod_lt _ (by omega)
          obtain ⟨gr, x, hAr, -, hgr, hx, hcx, -⟩ := HOR.out.ati (show k < r.length by rw [← HLN.out]; exact hkl)
          obtain ⟨gr', y, hAr', -, -, hy, hcy, -⟩ := HOR.out.ati (show P < r.length by rw [← HLN.out]; exact hPl)
          subst hAr
          cases hAr'
          obtain ⟨a, hax, ha⟩ := HE.out x (List.mem_of_getElem? hx)
          obtain ⟨b, hby, hb⟩ := HE.out y (List.mem_of_getElem? hy)
          subst hax hby
          have HNS := Lib.hid (show ((mpS r U k).set (2 * a + 1) (2 * (b : Int))).set (2 * b) (2 * (a : Int) + 1) = mpS r U (k + 1) by
            have e1 : r.getD k 0 = (a : Int) := by rw [List.getD_eq_getElem?_getD, hx]; rfl
            have e2 : r.getD ((k + 1) % r.length) 0 = (b : Int) := by rw [← HLN.out, ← hP, List.getD_eq_getElem?_getD, hy]; rfl
            rw [mpS, e1, e2]; rfl)
          have m1 : Int.tmod ((k : Int) + 1) (ln : Int) = (P : Int) := by rw [hP]; rfl
          have m2 : ((k : Int) + 1) % (ln : Int) = (P : Int) := by rw [hP]; rfl
          have m3 : (P : Int) ≤ 9 := by omega
          have n0 : ((ln : Int) == 0) = false := by rw [beq_eq_false_iff_ne]; omega
          have n0' : ¬ (ln : Int) = 0 := by omega
          have n0'' : ¬ ln = 0 := by omega
          have u1 : IntKind.i64.wrap ((k : Int) + 1) = (k : Int) + 1 := IntWalk.i64_in _ (by omega)
          have u2 : IntKind.i64.wrap (P : Int) = (P : Int) := IntWalk.i64_in _ (by omega)
          have u3 : IntKind.i64.wrap (2 * (a : Int)) = 2 * (a : Int) := IntWalk.i64_in _ (by omega)
          have u4 : IntKind.i64.wrap (2 * (a : Int) + 1) = 2 * (a : Int) + 1 := IntWalk.i64_in _ (by omega)
          have u5 : IntKind.i64.wrap (2 * (b : Int)) = 2 * (b : Int) := IntWalk.i64_in _ (by omega)
          have k1 : (0 : Int) ≤ (k : Int) := by omega
          have k2 : (k : Int) < (ln : Int) := by omega
          have p1 : (0 : Int) ≤ (P : Int) := by omega
          have p2 : (P : Int) < (ln : Int) := by omega
          have p3 : ((P : Int)).toNat = P := by omega
          have a1 : (0 : Int) ≤ 2 * (a : Int) + 1 := by omega
          have a2 : 2 * (a : Int) + 1 < 2 * (n : Int) := by omega
          have a3 : (2 * (a : Int) + 1).toNat = 2 * a + 1 := by omega
          have b1 : (0 : Int) ≤ 2 * (b : Int) := by omega
          have b2 : 2 * (b : Int) < 2 * (n : Int) := by omega
          have b3 : (2 * (b : Int)).toNat = 2 * b := by omega
          obtain ⟨go, y1, hg1, -, -, hy1, hcy1, hfy1⟩ := OW4.out.ati (show 2 * a + 1 < 2 * n by omega)
          obtain ⟨go', y2, hg2, -, -, hy2, hcy2, hfy2⟩ := OW4.out.ati (show 2 * b < 2 * n by omega)
          cases hg1
          cases hg2
          clear hx hy hP hy1 hy2
          go_wp2_with fail
          go_quiet (fail)
          have hbk5 : Below w1.heap.size w1 (w4.drewN nq) := below_drewN' hbk nq
          have OW5 := Lib.hid (OW4.out.drewN nq)
          have O5 := Lib.hid (O4.out.drewN nq)
          have hcy15 : (w4.drewN nq).cell? ⟨w1.heap.size, 2 * a + 1, none⟩ = some (.int .i64 y1) := hcy1
          have hcy25 : (w4.drewN nq).cell? ⟨w1.heap.size, 2 * b, none⟩ = some (.int .i64 y2) := hcy2
          have hfy15 : (w4.drewN nq).frozen? ⟨w1.heap.size, 2 * a + 1, none⟩ = false := hfy1
          have hfy25 : (w4.drewN nq).frozen? ⟨w1.heap.size, 2 * b, none⟩ = false := hfy2
          obtain ⟨w5, hw5⟩ : ∃ W, W = w4.drewN nq := ⟨_, rfl⟩
          rw [← hw5] at hbk5 OW5 O5 hcy15 hcy25 hfy15 hfy25 ⊢
          clear hw5 hcy1 hcy2 hfy1 hfy2 hcy hcx hcg4 hfg4
          go_wp2_with fail
          go_roundw
          case rel => exact ⟨k + 1, by omega, by go_num, by rw [← HNS.out]; exact (OW5.out.puti (2 * a + 1) (2 * (b : Int))).puti (2 * b) (2 * (a : Int) + 1), (O5.out.set_low (p := ⟨w1.heap.size, 2 * a + 1, none⟩) hlo1 _).set_low (p := ⟨w1.heap.size, 2 * b, none⟩) hlo1 _, (hbk5.setCell (p := ⟨w1.heap.size, 2 * a + 1, none⟩) (Nat.le_refl _) _).setCell (p := ⟨w1.heap.size, 2 * b, none⟩) (Nat.le_refl _) _⟩
          case measure => simp [intOf]; omega
        · have hkn : k = ln := by omega
          have HX := Lib.hid (show mpB BS (List.replicate (2 * n) 0) (i + 1) = mpS r U k by rw [HNX.out, hkn])
          clear hkn
          go_wp2_with fail
          go_roundw
          case rel => exact ⟨i + 1, by omega, by go_num, by rw [HX.out]; exact OW4.out, O4.out, hbk⟩
          case measure => simp [intOf]; omega
    · have HI := Lib.hid (show mpB BS (List.replicate (2 * n) 0) BS.length = mpB BS (List.replicate (2 * n) 0) i by rw [← HNB.out, show nb = i by omega])
      have HLX := Lib.hid (show 2 * n = (mpB BS (List.replicate (2 * n) 0) BS.length).length from (HML.out _).symm)
      go_wp2_with fail
      go_ret2
      rw [HF.out]
      exact ⟨_, 2 * n, 2 * n, HLX.out, rfl, by rw [HI.out]; exact OW.out.mono (by rw [HS1.out]; exact Nat.le_refl _), HB1.out.trans (hbl.mono (by rw [HS1.out]; exact Nat.le_refl _))⟩

set_option maxRecDepth 20000 in
set_option maxHeartbeats 4000000 in
theorem implMatchingOfPartition_any (A : Option Addr) (n c : Nat) (p : List Int) (w : World) (h : Rd w A n (iv p)) (hn : n ≤ 1000000000) :
    Calls Try.prog 22 #[.slice A n c] w (RetIB w (mopP p).1 (mopP p).2) := by
  unfold RetIB
  have HR := Lib.hid h
  have hl := (show p.length = n by have := h.len; rw [iv_len] at this; exact this)
  have HL := Lib.hid hl
  clear h
  rcases hN : nonc p with _ | _
  · have HF := Lib.hid (show mopP p = ([], false) by unfold mopP; rw [hN]; rfl)
    have HN := Lib.hid hN
    clear hN hl
    go_enter Try.func22, Try.ntmps22
    go_wp2_with fail
    refine (implIsNoncrossing_any _ _ _ _ _ HR.out hn).mono ?_
    rintro e w1 ⟨rfl, d1, hw⟩
    have HB1 := Lib.hid (show Below w.heap.size w w1 by rw [hw]; exact below_drewN' (Below.refl _ _) d1)
    have HS1 := Lib.hid (show w1.heap.size = w.heap.size by rw [hw]; rfl)
    rw [HN.out]
    clear hw
    go_wp2_with fail
    go_ret2
    rw [HF.out]
    exact ⟨_, 0, 0, rfl, rfl, (own_empty w1).mono (by rw [HS1.out]; exact Nat.le_refl _), HB1.out.alloc (by rw [HS1.out]; exact Nat.le_refl _) _⟩
  have hpar := nonc_par hN
  have h8 : n ≤ 8 := by have := (isPar_iff hpar).1; omega
  have HF := Lib.hid (show mopP p = (mpB (blocksB p) (List.replicate (2 * n) 0) (blocksB p).length, true) by unfold mopP; rw [hN]; unfold mop; rw [hl]; rfl)
  have HN := Lib.hid hN
  have HEL := Lib.hid (fun (r : List Int) (hr : r ∈ blocksB p) (e : Int) (he : e ∈ r) => (show ∃ j : Nat, e = (j : Int) ∧ j < n by rw [← hl]; exact blocks_el hpar hr he))
  have HRL := Lib.hid (fun (r : List Int) (hr : r ∈ blocksB p) => (show r.length ≤ 8 from by
    unfold blocksB at hr
    rw [if_pos hpar] at hr
    have := blk_row_len _ r hr
    omega))
  have HC := Lib.hid (fun w (h : Rd w A n (iv p)) => implBlocksOf_any A n c p w h hn)
  have HBL := Lib.hid (show (blocksB p).length ≤ 8 by
    unfold blocksB
    rw [if_pos hpar]
    have h1 := blk_len (xs := p) p.length (Nat.le_refl _)
    have h2 := nx_bd p p.length
    omega)
  have HML := Lib.hid (fun i => show (mpB (blocksB p) (List.replicate (2 * n) 0) i).length = 2 * n by rw [mpB_len, List.length_replicate])
  obtain ⟨BS, hBS⟩ : ∃ B, B = blocksB p := ⟨_, rfl⟩
  rw [← hBS] at HF HEL HRL HC HBL HML
  clear hBS hN hpar hl
  go_enter Try.func22, Try.ntmps22
  go_wp2_with fail
  refine (implIsNoncrossing_any _ _ _ _ _ HR.out hn).mono ?_
  rintro e w1 ⟨rfl, d1, hw⟩
  have HB1 := Lib.hid (show Below w.heap.size w w1 by rw [hw]; exact below_drewN' (Below.refl _ _) d1)
  have HS1 := Lib.hid (show w1.heap.size = w.heap.size by rw [hw]; rfl)
  have HR1 := Lib.hid (HR.out.below HB1.out)
  rw [HN.out]
  clear hw
  have hmk := mkI (2 * n) (by omega) w1
  rw [show ((2 * n : Nat) : Int) = 2 * (n : Int) by omega] at hmk
  have hw2 : IntKind.i64.wrap (2 * (n : Int)) = 2 * (n : Int) := IntWalk.i64_in _ (by omega)
  have HO0 := Lib.hid (show Own (w1.alloc (.cells (madeCells #[.int .i64 0] (2 * n)) 3)) 3 w1.heap.size (some ⟨w1.heap.size, 0, none⟩) (2 * n) (2 * n) (iv (mpB BS (List.replicate (2 * n) 0) 0)) by
    have := Own.made w1 3 (.int .i64 0) (2 * n) (by unfold maxLen; omega)
    rw [iv_rep] at this
    exact this)
  go_wp2_with fail
  refine (HC.out _ (HR1.out.alloc _)).mono ?_
  rintro e w2 ⟨A', nb, c', vs, rfl, ho, hb⟩
  have HO := Lib.hid ho
  have HNB := Lib.hid ho.n_eq
  have HOW := Lib.hid (HO0.out.below hb)
  have hb2 : Below w1.heap.size w1 w2 := ((Below.refl _ _).alloc (Nat.le_refl _) (.cells (madeCells #[.int .i64 0] (2 * n)) 3)).trans (hb.mono (by simp))
  have hnb8 : nb ≤ 8 := by have := HBL.out; have := HNB.out; omega
  obtain ⟨lo, hlo⟩ : ∃ lo, lo = (w1.alloc (.cells (madeCells #[.int .i64 0] (2 * n)) 3)).heap.size := ⟨_, rfl⟩
  rw [← hlo] at HO
  have hlo1 : w1.heap.size < lo := by rw [hlo]; simp
  clear ho hb hlo hmk HO0
  go_wp2_with fail
  go_loopw [6, 7, 8, 9, 21, 27] (fun _ _ _ _ ix _ wr => ∃ i : Nat, i ≤ nb ∧ ix = .int .i64 i ∧ Own wr 3 w1.heap.size (some ⟨w1.heap.size, 0, none⟩) (2 * n) (2 * n) (iv (mpB BS (List.replicate (2 * n) 0) i)) ∧ O2 wr lo A' nb c' vs BS ∧ Below w1.heap.size w1 wr) (fun _ _ _ _ ix _ _ => nb - (intOf ix).toNat)
  case atStart => exact ⟨0, Nat.zero_le _, rfl, HOW.out, HO.out, hb2⟩
  case round =>
    obtain ⟨i, hi, rfl, how, ho, hbl⟩ := hrel
    obtain ⟨w3, rfl⟩ : ∃ W, W = wr := ⟨wr, rfl⟩
    have OW := Lib.hid how
    have O := Lib.hid ho
    have hs3 := hbl.size
    clear how ho
    by_cases hlt : i < nb
    · have h1 : BS[i]? = some (BS.getD i []) := by rw [List.getD_eq_getElem?_getD, List.getElem?_eq_getElem (by have := HNB.out; omega)]; rfl
      have HNX := Lib.hid (show mpB BS (List.replicate (2 * n) 0) (i + 1) = mpS (BS.getD i []) (mpB BS (List.replicate (2 * n) 0) i) (BS.getD i []).length from rfl)
      have hU : (mpB BS (List.replicate (2 * n) 0) i).length = 2 * n := HML.out i
      obtain ⟨U, hUe⟩ : ∃ U, U = mpB BS (List.replicate (2 * n) 0) i := ⟨_, rfl⟩
      rw [← hUe] at HNX OW hU
      obtain ⟨r, hr⟩ : ∃ r, r = BS.getD i [] := ⟨_, rfl⟩
      rw [← hr] at h1 HNX
      have hrm := List.mem_of_getElem? h1
      have HE := Lib.hid (HEL.out r hrm)
      have hr8 := HRL.out r hrm
      obtain ⟨g, Ar, cr, hAg, hg0, hg1, hv, hcg, hfg, hor⟩ := O.out.head h1
      subst hAg
      have HROW := Lib.hid h1
      have HV := Lib.hid hv
      have HU := Lib.hid hU
      obtain ⟨ln, hln⟩ : ∃ l, l = r.length := ⟨_, rfl⟩
      have HLN := Lib.hid hln
      rw [← hln] at hr8 hcg HNX
      have i1 : (0 : Int) ≤ (i : Int) := by omega
      have i2 : (i : Int) < (nb : Int) := by omega
      clear h1 hr hv hor hUe hU hln
      go_wp2_with fail
      go_loopw [7, 8, 9, 27] (fun _ _ _ kx wr => ∃ k : Nat, k ≤ ln ∧ kx = .int .i64 k ∧ Own wr 3 w1.heap.size (some ⟨w1.heap.size, 0, none⟩) (2 * n) (2 * n) (iv (mpS r U k)) ∧ O2 wr lo (some ⟨g, 0, none⟩) nb c' vs BS ∧ Below w1.heap.size w1 wr) (fun _ _ _ kx _ => ln - (intOf kx).toNat)
      case atStart => exact ⟨0, Nat.zero_le _, rfl, OW.out, O.out, hbl⟩
      case round =>
        obtain ⟨k, hk, rfl, how, ho, hbk⟩ := hrel
        obtain ⟨w4, rfl⟩ : ∃ W, W = wr := ⟨wr, rfl⟩
        have OW4 := Lib.hid how
        have O4 := Lib.hid ho
        have hs4 := hbk.size
        clear how
        obtain ⟨g', Ar', cr', hAg, -, hg4, hv, hcg4, hfg4, hor⟩ := ho.head HROW.out
        cases hAg
        have he := HV.out.symm.trans hv
        injection he with he
        injection he with he1 _ he3
        subst he1 he3
        have HOR := Lib.hid hor
        rw [← HLN.out] at hcg4
        clear ho hv hor hcg hfg hg1
        by_cases hkl : k < ln
        · obtain ⟨P, hP⟩ : ∃ P, P = (k + 1) % ln := ⟨_, rfl⟩
          have hPl : P < ln := by rw [hP]; exact Nat.mod_lt _ (by omega)
          obtain ⟨gr, x, hAr, -, hgr, hx, hcx, -⟩ := HOR.out.ati (show k < r.length by rw [← HLN.out]; exact hkl)
          obtain ⟨gr', y, hAr', -, -, hy, hcy, -⟩ := HOR.out.ati (show P < r.length by rw [← HLN.out]; exact hPl)
          subst hAr
          cases hAr'
          obtain ⟨a, hax, ha⟩ := HE.out x (List.mem_of_getElem? hx)
          obtain ⟨b, hby, hb⟩ := HE.out y (List.mem_of_getElem? hy)
          subst hax hby
          have HNS := Lib.hid (show ((mpS r U k).set (2 * a + 1) (2 * (b : Int))).set (2 * b) (2 * (a : Int) + 1) = mpS r U (k + 1) by
            have e1 : r.getD k 0 = (a : Int) := by rw [List.getD_eq_getElem?_getD, hx]; rfl
            have e2 : r.getD ((k + 1) % r.length) 0 = (b : Int) := by rw [← HLN.out, ← hP, List.getD_eq_getElem?_getD, hy]; rfl
            rw [mpS, e1, e2]; rfl)
          have m1 : Int.tmod ((k : Int) + 1) (ln : Int) = (P : Int) := by rw [hP]; rfl
          have m2 : ((k : Int) + 1) % (ln : Int) = (P : Int) := by rw [hP]; rfl
          have m3 : (P : Int) ≤ 9 := by omega
          have n0 : ((ln : Int) == 0) = false := by rw [beq_eq_false_iff_ne]; omega
          have n0' : ¬ (ln : Int) = 0 := by omega
          have n0'' : ¬ ln = 0 := by omega
          have u1 : IntKind.i64.wrap ((k : Int) + 1) = (k : Int) + 1 := IntWalk.i64_in _ (by omega)
          have u2 : IntKind.i64.wrap (P : Int) = (P : Int) := IntWalk.i64_in _ (by omega)
          have u3 : IntKind.i64.wrap (2 * (a : Int)) = 2 * (a : Int) := IntWalk.i64_in _ (by omega)
          have u4 : IntKind.i64.wrap (2 * (a : Int) + 1) = 2 * (a : Int) + 1 := IntWalk.i64_in _ (by omega)
          have u5 : IntKind.i64.wrap (2 * (b : Int)) = 2 * (b : Int) := IntWalk.i64_in _ (by omega)
          have k1 : (0 : Int) ≤ (k : Int) := by omega
          have k2 : (k : Int) < (ln : Int) := by omega
          have p1 : (0 : Int) ≤ (P : Int) := by omega
          have p2 : (P : Int) < (ln : Int) := by omega
          have p3 : ((P : Int)).toNat = P := by omega
          have a1 : (0 : Int) ≤ 2 * (a : Int) + 1 := by omega
          have a2 : 2 * (a : Int) + 1 < 2 * (n : Int) := by omega
          have a3 : (2 * (a : Int) + 1).toNat = 2 * a + 1 := by omega
          have b1 : (0 : Int) ≤ 2 * (b : Int) := by omega
          have b2 : 2 * (b : Int) < 2 * (n : Int) := by omega
          have b3 : (2 * (b : Int)).toNat = 2 * b := by omega
          obtain ⟨go, y1, hg1, -, -, hy1, hcy1, hfy1⟩ := OW4.out.ati (show 2 * a + 1 < 2 * n by omega)
          obtain ⟨go', y2, hg2, -, -, hy2, hcy2, hfy2⟩ := OW4.out.ati (show 2 * b < 2 * n by omega)
          cases hg1
          cases hg2
          clear hx hy hP hy1 hy2
          go_wp2_with fail
          have hbk5 := hbk
          have OW5 := Lib.hid OW4.out
          have O5 := Lib.hid O4.out
          go_wp2_with fail
          go_roundw
          case rel => exact ⟨k + 1, by omega, by go_num, by rw [← HNS.out]; exact (OW5.out.puti (2 * a + 1) (2 * (b : Int))).puti (2 * b) (2 * (a : Int) + 1), (O5.out.set_low (p := ⟨w1.heap.size, 2 * a + 1, none⟩) hlo1 _).set_low (p := ⟨w1.heap.size, 2 * b, none⟩) hlo1 _, (hbk5.setCell (p := ⟨w1.heap.size, 2 * a + 1, none⟩) (Nat.le_refl _) _).setCell (p := ⟨w1.heap.size, 2 * b, none⟩) (Nat.le_refl _) _⟩
          case measure => simp [intOf]; omega
        · have hkn : k = ln := by omega
          have HX := Lib.hid (show mpB BS (List.replicate (2 * n) 0) (i + 1) = mpS r U k by rw [HNX.out, hkn])
          clear hkn
          go_wp2_with fail
          go_roundw
          case rel => exact ⟨i + 1, by omega, by go_num, by rw [HX.out]; exact OW4.out, O4.out, hbk⟩
          case measure => simp [intOf]; omega
    · have HI := Lib.hid (show mpB BS (List.replicate (2 * n) 0) BS.length = mpB BS (List.replicate (2 * n) 0) i by rw [← HNB.out, show nb = i by omega])
      have HLX := Lib.hid (show 2 * n = (mpB BS (List.replicate (2 * n) 0) BS.length).length from (HML.out _).symm)
      go_wp2_with fail
      go_ret2
      rw [HF.out]
      exact ⟨_, 2 * n, 2 * n, HLX.out, rfl, by rw [HI.out]; exact OW.out.mono (by rw [HS1.out]; exact Nat.le_refl _), HB1.out.trans (hbl.mono (by rw [HS1.out]; exact Nat.le_refl _))⟩

end Go.Proofs.Ytghfhkbncjgaeaa
