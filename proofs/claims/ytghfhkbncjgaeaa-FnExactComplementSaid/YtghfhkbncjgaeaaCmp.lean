/- Complement of both sides. -/
import Derived.Test.YtghfhkbncjgaeaaMop
import Derived.Test.YtghfhkbncjgaeaaTurn
import Derived.Test.YtghfhkbncjgaeaaRenum2
import Derived.Test.YtghfhkbncjgaeaaRenum3
import Derived.Test.YtghfhkbncjgaeaaTwo
import Derived.Deep.LoopGhost
namespace Go.Proofs.Ytghfhkbncjgaeaa
set_option linter.unusedVariables false
open Go.RowKit

theorem cmp_len (p : List Int) : (cmpP p).1.length ≤ 1048576 := by
  unfold cmpP
  split
  · next h => have := (isPar_iff (nonc_par h)).1; show (renL _).length ≤ _; rw [renL_len, cyA_len]; omega
  · simp
def onM (N i : Nat) : List Int := List.replicate i (-1) ++ List.replicate (N - i) 0
theorem onM_set {N i : Nat} (h : i < N) : (onM N i).set i (-1) = onM N (i + 1) := by
  unfold onM
  rw [List.set_append_right _ _ (by simp), List.replicate_succ', List.append_assoc]
  congr 1
  rw [show N - i = (N - (i + 1)) + 1 by omega, List.replicate_succ]
  simp

set_option maxRecDepth 20000 in
set_option maxHeartbeats 4000000 in
theorem specComplement_any (A : Option Addr) (n c : Nat) (p : List Int) (w : World) (h : Rd w A n (iv p)) (hn : n ≤ 1000000000) :
    Calls Try.prog 7 #[.slice A n c] w (RetIB w (cmpP p).1 (cmpP p).2) := by
  unfold RetIB
  have HR := Lib.hid h
  have hl := (show p.length = n by have := h.len; rw [iv_len] at this; exact this)
  have HL := Lib.hid hl
  clear h
  rcases hN : nonc p with _ | _
  · have HF := Lib.hid (show cmpP p = ([], false) by unfold cmpP; rw [hN]; rfl)
    have HMP := Lib.hid (show mopP p = ([], false) by unfold mopP; rw [hN]; rfl)
    clear hN hl
    go_enter Try.func7, Try.ntmps7
    go_wp2_with fail
    refine (specMatchingOfPartition_any _ _ _ _ _ HR.out hn).mono ?_
    rw [HMP.out]
    rintro e w1 ⟨Am, nm, cm, hnm, rfl, hom, hb1⟩
    have HB1 := Lib.hid hb1
    have hs1 := hb1.size
    clear hnm hom hb1
    go_wp2_with fail
    go_ret2
    rw [HF.out]
    exact ⟨_, 0, 0, rfl, rfl, (own_empty w1).mono hs1, HB1.out.alloc hs1 _⟩
  have hpar := nonc_par hN
  have h8 : n ≤ 8 := by have := (isPar_iff hpar).1; omega
  have HF := Lib.hid (show cmpP p = (renL (cyA (turnM (mop p) 1).1 n n), true) by unfold cmpP; rw [hN, hl]; rfl)
  have HMP := Lib.hid (show mopP p = (mop p, true) by unfold mopP; rw [hN]; rfl)
  have hml := mop_len p
  rw [hl] at hml
  have HML := Lib.hid hml
  by_cases hn0 : n = 0
  · have HF0 := Lib.hid (show cmpP p = ([], true) by rw [HF.out, hn0]; rfl)
    have h0 : ((n : Int) == 0) = true := by rw [beq_iff_eq]; omega
    clear hN hl hpar hml hn0
    go_enter Try.func7, Try.ntmps7
    go_wp2_with fail
    refine (specMatchingOfPartition_any _ _ _ _ _ HR.out hn).mono ?_
    rw [HMP.out]
    rintro e w1 ⟨Am, nm, cm, hnm, rfl, hom, hb1⟩
    have HOM := Lib.hid hom
    have HNM := Lib.hid (show nm = 2 * n by rw [hnm]; exact HML.out)
    have hnm2 : nm = 2 * n := HNM.out
    have HB1 := Lib.hid hb1
    have hs1 := hb1.size
    clear hnm hom hb1
    clear hnm2
    go_wp2_with fail
    go_ret2
    rw [HF0.out]
    exact ⟨_, 0, 0, rfl, rfl, (own_empty w1).mono hs1, HB1.out.alloc hs1 _⟩
  have h0 : ((n : Int) == 0) = false := by rw [beq_eq_false_iff_ne]; omega
  have HTM := Lib.hid (show turnM (mop p) 1 = (tuS (mop p) 1 (2 * n), true) by unfold turnM; rw [mop_mat hpar, hml, inB_true (by omega) (by omega)]; rfl)
  have HXL := Lib.hid (show (turnM (mop p) 1).1.length = 2 * n by rw [HTM.out]; show (tuS _ _ _).length = _; rw [tuS_len, hml])
  have HXB := Lib.hid (fun x (hx : x ∈ (turnM (mop p) 1).1) => (show 0 ≤ x ∧ x < 2 * (n : Int) by rw [HTM.out] at hx; have := tuS_bd (show 0 < (mop p).length by omega) 1 _ x hx; omega))
  obtain ⟨XX, hXX⟩ : ∃ X, X = (turnM (mop p) 1).1 := ⟨_, rfl⟩
  have HTR := Lib.hid (show (turnM (mop p) 1) = (XX, true) by rw [hXX, HTM.out])
  rw [← hXX] at HF HXL HXB
  have hmk := fun w => mkI n (by omega) w
  have HAL := Lib.hid (fun i => cyA_len XX n i)
  clear hN hl hpar hml
  all_goals
    go_enter Try.func7, Try.ntmps7
    go_wp2_with fail
    refine (specMatchingOfPartition_any _ _ _ _ _ HR.out hn).mono ?_
    rw [HMP.out]
    rintro e w1 ⟨Am, nm, cm, hnm, rfl, hom, hb1⟩
    have HOM := Lib.hid hom
    have HNM := Lib.hid (show nm = 2 * n by rw [hnm]; exact HML.out)
    have hnm2 : nm = 2 * n := HNM.out
    have HB1 := Lib.hid hb1
    have hs1 := hb1.size
    clear hnm hom hb1
    have HNZ := Lib.hid hnm2
    clear hnm2
    go_wp2_with fail
    refine (specTurnMatching_any _ _ _ _ _ _ HOM.out.rd (by have := HNZ.out; omega)).mono ?_
    rw [HTR.out]
    rintro e w2 ⟨At, nx, ct, hnx, rfl, hot, hb2⟩
    have HXR := Lib.hid hot.rd
    have HNXL := Lib.hid (show nx = 2 * n by rw [hnx]; exact HXL.out)
    have hbw : Below w.heap.size w w2 := HB1.out.trans (hb2.mono hs1)
    have hsw := hbw.size
    clear hnx hot hb2
    have HO0 := Lib.hid (show Own (w2.alloc (.cells (madeCells #[.int .i64 0] n) 3)) 3 w2.heap.size (some ⟨w2.heap.size, 0, none⟩) n n (iv (onM n 0)) by
      have := Own.made w2 3 (.int .i64 0) n (by unfold maxLen; omega)
      rw [iv_rep] at this
      unfold onM
      simpa using this)
    have hb0 := (Below.refl w2.heap.size w2).alloc (Nat.le_refl _) (.cells (madeCells #[.int .i64 0] n) 3)
    go_wp2_with fail
    clear hmk
    go_loopw [9] (fun ix wr => ∃ i : Nat, i ≤ n ∧ ix = .int .i64 i ∧ Own wr 3 w2.heap.size (some ⟨w2.heap.size, 0, none⟩) n n (iv (onM n i)) ∧ Below w2.heap.size w2 wr) (fun ix _ => n - (intOf ix).toNat)
    case atStart => exact ⟨0, Nat.zero_le _, rfl, HO0.out, hb0⟩
    case round =>
      obtain ⟨i, hi, rfl, ho, hb⟩ := hrel
      have O := Lib.hid ho
      by_cases hlt : i < n
      · obtain ⟨g, y, hg, -, -, hy, hcy, hfy⟩ := ho.ati hlt
        cases hg
        have HS := Lib.hid (onM_set hlt)
        clear ho hy
        go_wp2_with fail
        go_roundw
        case rel => exact ⟨i + 1, by omega, by go_num, by rw [← HS.out]; exact O.out.puti i (-1), hb.setCell (p := ⟨w2.heap.size, i, none⟩) (Nat.le_refl _) _⟩
        case measure => simp [intOf]; omega
      · have HIN := Lib.hid (show onM n i = cyA XX n 0 by rw [cyA, show i = n by omega]; unfold onM; simp)
        rw [HIN.out] at O
        obtain ⟨w3, rfl⟩ : ∃ W, W = wr := ⟨wr, rfl⟩
        clear ho HIN
        go_wp2_with fail
        go_loopw [10, 11, 12] (fun nx ix _ wr => ∃ i : Nat, i ≤ n ∧ ix = .int .i64 i ∧ nx = .int .i64 i ∧ Own wr 3 w2.heap.size (some ⟨w2.heap.size, 0, none⟩) n n (iv (cyA XX n i)) ∧ Below w2.heap.size w2 wr) (fun _ ix _ _ => n - (intOf ix).toNat)
        case atStart => exact ⟨0, Nat.zero_le _, rfl, rfl, O.out, hb⟩
        case round =>
          obtain ⟨i, hi, rfl, rfl, ho, hb⟩ := hrel
          have O := Lib.hid ho
          obtain ⟨w4, rfl⟩ : ∃ W, W = wr := ⟨wr, rfl⟩
          clear ho
          by_cases hlt : i < n
          · have HNX := Lib.hid (show cyA XX n (i + 1) = cyF XX i (n + 1) (cyA XX n i) ((i : Nat) : Int) from rfl)
            obtain ⟨T, hT⟩ : ∃ T, T = cyA XX n (i + 1) := ⟨_, rfl⟩
            have HT := Lib.hid hT
            rw [← hT] at HNX
            have HAI := Lib.hid (HAL.out i)
            clear hT
            go_wp2_with fail
            go_loopg [12] (n + 1) (fun gk kx wr => ∃ (kk : Nat) (o : List Int), kk < n ∧ kx = .int .i64 kk ∧ Own wr 3 w2.heap.size (some ⟨w2.heap.size, 0, none⟩) n n (iv o) ∧ Hid (o.length = n ∧ cyF XX i gk o ((kk : Nat) : Int) = T) ∧ negs o < gk ∧ Below w2.heap.size w2 wr)
            case atStart => exact ⟨i, _, hlt, rfl, O.out, Lib.hid ⟨HAI.out, HNX.out.symm⟩, by have := negs_le (cyA XX n i); have := HAI.out; omega, hb⟩
            case round =>
              obtain ⟨kk, o, hkk, rfl, ho, HCY, hneg, hb5⟩ := hrel
              obtain ⟨w5, rfl⟩ : ∃ W, W = wr := ⟨wr, rfl⟩
              have O5 := Lib.hid ho
              obtain ⟨g, y, hg, -, -, hy, hcy, hfy⟩ := ho.ati hkk
              cases hg
              have hyd : o.getD kk 0 = y := by rw [List.getD_eq_getElem?_getD, hy]; rfl
              obtain ⟨f, hf⟩ : ∃ f, gk = f + 1 := ⟨gk - 1, by omega⟩
              have k1 : (0 : Int) ≤ (kk : Int) := by omega
              have k2 : (kk : Int) < (n : Int) := by omega
              clear ho
              by_cases hy0 : y < 0
              · obtain ⟨bx, ox, x, hAx, hx, hcx⟩ := (HXR.out.below hb5).ati (show 2 * kk + 1 < nx by have := HNXL.out; omega)
                subst hAx
                have hxb := HXB.out x (List.mem_of_getElem? hx)
                obtain ⟨X, rfl⟩ := Int.eq_ofNat_of_zero_le hxb.1
                have hX : X / 2 < n := by omega
                have HC2 := Lib.hid (show (o.set kk i).length = n ∧ cyF XX i f (o.set kk i) ((X / 2 : Nat) : Int) = T by
                  refine ⟨by rw [List.length_set]; exact HCY.out.1, ?_⟩
                  rw [← HCY.out.2, hf, cyF, Int.toNat_natCast, hyd, if_pos hy0]
                  rw [show (2 * (kk : Int) + 1).toNat = 2 * kk + 1 by omega, List.getD_eq_getElem?_getD (l := XX), hx]
                  rfl)
                have hng2 : negs (o.set kk i) < f := by have := negs_set (i := (i : Int)) hy hy0 (by omega); omega
                have HFG := Lib.hid hf
                have u1 : IntKind.i64.wrap (2 * (kk : Int)) = 2 * (kk : Int) := IntWalk.i64_in _ (by omega)
                have u2 : IntKind.i64.wrap (2 * (kk : Int) + 1) = 2 * (kk : Int) + 1 := IntWalk.i64_in _ (by omega)
                have j1 : (0 : Int) ≤ 2 * (kk : Int) + 1 := by omega
                have HNL := Lib.hid (HNXL.out)
                have j2 : 2 * (kk : Int) + 1 < (nx : Int) := by have := HNXL.out; omega
                have j3 : (2 * (kk : Int) + 1).toNat = 2 * kk + 1 := by omega
                clear hx hy hyd hf
                go_wp2_with fail
                go_roundg f
                case measure => have := HFG.out; omega
                case rel => exact ⟨X / 2, _, hX, by go_num, O5.out.puti kk i, HC2, hng2, hb5.setCell (p := ⟨w2.heap.size, kk, none⟩) (Nat.le_refl _) _⟩
              · have HE := Lib.hid (show o = cyA XX n (i + 1) by rw [← HT.out, ← HCY.out.2, hf, cyF, Int.toNat_natCast, hyd, if_neg hy0])
                clear hy hyd hf
                go_wp2_with fail
                go_roundw
                case rel => exact ⟨i + 1, by omega, by go_num, by go_num, by rw [← HE.out]; exact O5.out, hb5⟩
                case measure => simp [intOf]; omega
          · have HI := Lib.hid (show cyA XX n n = cyA XX n i by rw [show n = i by omega])
            have hs4 := hb.size
            go_wp2_with fail
            refine (l8Renumber_any _ _ _ _ _ O.out.rd (by omega)).mono ?_
            rintro e w5 ⟨A3, n3, c3, hn3, rfl, ho3, hb3⟩
            have HO3 := Lib.hid ho3
            have HN3 := Lib.hid hn3
            have HBF := Lib.hid (hbw.trans ((hb.trans (hb3.mono hs4)).mono hsw))
            have hs34 := hs4
            clear ho3 hn3 hb3
            go_wp2_with fail
            go_ret2
            rw [HF.out, HI.out]
            exact ⟨A3, n3, c3, HN3.out, rfl, HO3.out.mono (by omega), HBF.out⟩

set_option maxRecDepth 20000 in
set_option maxHeartbeats 4000000 in
theorem implComplement_any (A : Option Addr) (n c : Nat) (p : List Int) (w : World) (h : Rd w A n (iv p)) (hn : n ≤ 1000000000) :
    Calls Try.prog 9 #[.slice A n c] w (RetIB w (cmpP p).1 (cmpP p).2) := by
  unfold RetIB
  have HR := Lib.hid h
  have hl := (show p.length = n by have := h.len; rw [iv_len] at this; exact this)
  have HL := Lib.hid hl
  clear h
  rcases hN : nonc p with _ | _
  · have HF := Lib.hid (show cmpP p = ([], false) by unfold cmpP; rw [hN]; rfl)
    have HMP := Lib.hid (show mopP p = ([], false) by unfold mopP; rw [hN]; rfl)
    clear hN hl
    go_enter Try.func9, Try.ntmps9
    go_wp2_with fail
    refine (implMatchingOfPartition_any _ _ _ _ _ HR.out hn).mono ?_
    rw [HMP.out]
    rintro e w1 ⟨Am, nm, cm, hnm, rfl, hom, hb1⟩
    have HB1 := Lib.hid hb1
    have hs1 := hb1.size
    clear hnm hom hb1
    go_wp2_with fail
    go_ret2
    rw [HF.out]
    exact ⟨_, 0, 0, rfl, rfl, (own_empty w1).mono hs1, HB1.out.alloc hs1 _⟩
  have hpar := nonc_par hN
  have h8 : n ≤ 8 := by have := (isPar_iff hpar).1; omega
  have HF := Lib.hid (show cmpP p = (renL (cyA (turnM (mop p) 1).1 n n), true) by unfold cmpP; rw [hN, hl]; rfl)
  have HMP := Lib.hid (show mopP p = (mop p, true) by unfold mopP; rw [hN]; rfl)
  have hml := mop_len p
  rw [hl] at hml
  have HML := Lib.hid hml
  by_cases hn0 : n = 0
  · obtain ⟨XX, hXX⟩ : ∃ X : List Int, X = [] := ⟨_, rfl⟩
    have HF := Lib.hid (show cmpP p = (renL (cyA XX n n), true) by rw [HF.out, hn0]; rfl)
    have HXB := Lib.hid (fun x (hx : x ∈ XX) => (show 0 ≤ x ∧ x < 2 * (n : Int) by rw [hXX] at hx; cases hx))
    have hmk := fun w => mkI n (by omega) w
    have HAL := Lib.hid (fun i => cyA_len XX n i)
    have HX0 := Lib.hid (show mop p = XX by rw [hXX]; exact List.eq_nil_of_length_eq_zero (by omega))
    have HN0 := Lib.hid hn0
    clear hN hl hpar hml hn0 hXX
    go_enter Try.func9, Try.ntmps9
    go_wp2_with fail
    refine (implMatchingOfPartition_any _ _ _ _ _ HR.out hn).mono ?_
    rw [HMP.out]
    rintro e w1 ⟨Am, nm, cm, hnm, rfl, hom, hb1⟩
    have HOM := Lib.hid hom
    have HNM := Lib.hid (show nm = 2 * n by rw [hnm]; exact HML.out)
    have hnm2 : nm = 2 * n := HNM.out
    have HB1 := Lib.hid hb1
    have hs1 := hb1.size
    clear hnm hom hb1
    have hnmp : ¬ (0 : Int) < (nm : Int) := by have := HN0.out; omega
    rw [HX0.out] at HOM
    obtain ⟨w2, rfl⟩ : ∃ W, W = w1 := ⟨w1, rfl⟩
    obtain ⟨nx, rfl⟩ : ∃ x, x = nm := ⟨nm, rfl⟩
    have HXR := Lib.hid HOM.out.rd
    have HNXL := Lib.hid hnm2
    have hbw : Below w.heap.size w w2 := HB1.out
    have hsw := hbw.size
    clear hnm2
    go_wp2_with fail
    have HO0 := Lib.hid (show Own (w2.alloc (.cells (madeCells #[.int .i64 0] n) 3)) 3 w2.heap.size (some ⟨w2.heap.size, 0, none⟩) n n (iv (onM n 0)) by
      have := Own.made w2 3 (.int .i64 0) n (by unfold maxLen; omega)
      rw [iv_rep] at this
      unfold onM
      simpa using this)
    have hb0 := (Below.refl w2.heap.size w2).alloc (Nat.le_refl _) (.cells (madeCells #[.int .i64 0] n) 3)
    clear hmk
    go_loopw [8, 33] (fun _ ix wr => ∃ i : Nat, i ≤ n ∧ ix = .int .i64 i ∧ Own wr 3 w2.heap.size (some ⟨w2.heap.size, 0, none⟩) n n (iv (onM n i)) ∧ Below w2.heap.size w2 wr) (fun _ ix _ => n - (intOf ix).toNat)
    case atStart => exact ⟨0, Nat.zero_le _, rfl, HO0.out, hb0⟩
    case round =>
      obtain ⟨i, hi, rfl, ho, hb⟩ := hrel
      have O := Lib.hid ho
      by_cases hlt : i < n
      · exfalso; have := HN0.out; omega
      · have HIN := Lib.hid (show onM n i = cyA XX n 0 by rw [cyA, show i = n by omega]; unfold onM; simp)
        rw [HIN.out] at O
        obtain ⟨w3, rfl⟩ : ∃ W, W = wr := ⟨wr, rfl⟩
        clear ho HIN
        go_wp2_with fail
        go_loopw [9, 10, 42] (fun _ _ ix wr => ∃ i : Nat, i ≤ n ∧ ix = .int .i64 i ∧ Own wr 3 w2.heap.size (some ⟨w2.heap.size, 0, none⟩) n n (iv (cyA XX n i)) ∧ Below w2.heap.size w2 wr) (fun _ _ ix _ => n - (intOf ix).toNat)
        case atStart => exact ⟨0, Nat.zero_le _, rfl, O.out, hb⟩
        case round =>
          obtain ⟨i, hi, rfl, ho, hb⟩ := hrel
          have O := Lib.hid ho
          obtain ⟨w4, rfl⟩ : ∃ W, W = wr := ⟨wr, rfl⟩
          clear ho
          by_cases hlt : i < n
          · exfalso; have := HN0.out; omega
          · have HI := Lib.hid (show cyA XX n n = cyA XX n i by rw [show n = i by omega])
            have hs4 := hb.size
            have HRB := Lib.hid (show renB (cyA XX n i) = (renL (cyA XX n i), true) by unfold renB; rw [if_pos (by rw [HAL.out]; omega)])
            obtain ⟨hcc1, hcc2⟩ := own_capT2 O.out
            go_wp2_with fail
            refine (implRenumberBlocks_any _ _ _ _ _ O.out.rd (by omega) hcc1 hcc2).mono ?_
            rw [HRB.out]
            rintro e w5 ⟨A3, n3, c3, hn3, rfl, ho3, hb3⟩
            have HO3 := Lib.hid ho3
            have HN3 := Lib.hid hn3
            have HBF := Lib.hid (hbw.trans ((hb.trans (hb3.mono hs4)).mono hsw))
            have hs34 := hs4
            clear ho3 hn3 hb3
            go_wp2_with fail
            go_ret2
            rw [HF.out, HI.out]
            exact ⟨A3, n3, c3, HN3.out, rfl, HO3.out.mono (by omega), HBF.out⟩
  have HTM := Lib.hid (show turnM (mop p) 1 = (tuS (mop p) 1 (2 * n), true) by unfold turnM; rw [mop_mat hpar, hml, inB_true (by omega) (by omega)]; rfl)
  have HXL := Lib.hid (show (turnM (mop p) 1).1.length = 2 * n by rw [HTM.out]; show (tuS _ _ _).length = _; rw [tuS_len, hml])
  have HXB := Lib.hid (fun x (hx : x ∈ (turnM (mop p) 1).1) => (show 0 ≤ x ∧ x < 2 * (n : Int) by rw [HTM.out] at hx; have := tuS_bd (show 0 < (mop p).length by omega) 1 _ x hx; omega))
  obtain ⟨XX, hXX⟩ : ∃ X, X = (turnM (mop p) 1).1 := ⟨_, rfl⟩
  have HTR := Lib.hid (show (turnM (mop p) 1) = (XX, true) by rw [hXX, HTM.out])
  rw [← hXX] at HF HXL HXB
  have hmk := fun w => mkI n (by omega) w
  have HAL := Lib.hid (fun i => cyA_len XX n i)
  clear hN hl hpar hml
  all_goals
    go_enter Try.func9, Try.ntmps9
    go_wp2_with fail
    refine (implMatchingOfPartition_any _ _ _ _ _ HR.out hn).mono ?_
    rw [HMP.out]
    rintro e w1 ⟨Am, nm, cm, hnm, rfl, hom, hb1⟩
    have HOM := Lib.hid hom
    have HNM := Lib.hid (show nm = 2 * n by rw [hnm]; exact HML.out)
    have hnm2 : nm = 2 * n := HNM.out
    have HB1 := Lib.hid hb1
    have hs1 := hb1.size
    clear hnm hom hb1
    have hnmp : (0 : Int) < (nm : Int) := by omega
    have HNZ := Lib.hid hnm2
    clear hnm2
    go_wp2_with fail
    refine (implTurnMatching_any _ _ _ _ _ _ HOM.out.rd (by have := HNZ.out; omega)).mono ?_
    rw [HTR.out]
    rintro e w2 ⟨At, nx, ct, hnx, rfl, hot, hb2⟩
    have HXR := Lib.hid hot.rd
    have HNXL := Lib.hid (show nx = 2 * n by rw [hnx]; exact HXL.out)
    have hbw : Below w.heap.size w w2 := HB1.out.trans (hb2.mono hs1)
    have hsw := hbw.size
    clear hnx hot hb2
    have HO0 := Lib.hid (show Own (w2.alloc (.cells (madeCells #[.int .i64 0] n) 3)) 3 w2.heap.size (some ⟨w2.heap.size, 0, none⟩) n n (iv (onM n 0)) by
      have := Own.made w2 3 (.int .i64 0) n (by unfold maxLen; omega)
      rw [iv_rep] at this
      unfold onM
      simpa using this)
    have hb0 := (Below.refl w2.heap.size w2).alloc (Nat.le_refl _) (.cells (madeCells #[.int .i64 0] n) 3)
    go_wp2_with fail
    clear hmk
    go_loopw [8, 33] (fun _ ix wr => ∃ i : Nat, i ≤ n ∧ ix = .int .i64 i ∧ Own wr 3 w2.heap.size (some ⟨w2.heap.size, 0, none⟩) n n (iv (onM n i)) ∧ Below w2.heap.size w2 wr) (fun _ ix _ => n - (intOf ix).toNat)
    case atStart => exact ⟨0, Nat.zero_le _, rfl, HO0.out, hb0⟩
    case round =>
      obtain ⟨i, hi, rfl, ho, hb⟩ := hrel
      have O := Lib.hid ho
      by_cases hlt : i < n
      · obtain ⟨g, y, hg, -, -, hy, hcy, hfy⟩ := ho.ati hlt
        cases hg
        have HS := Lib.hid (onM_set hlt)
        clear ho hy
        go_wp2_with fail
        go_roundw
        case rel => exact ⟨i + 1, by omega, by go_num, by rw [← HS.out]; exact O.out.puti i (-1), hb.setCell (p := ⟨w2.heap.size, i, none⟩) (Nat.le_refl _) _⟩
        case measure => simp [intOf]; omega
      · have HIN := Lib.hid (show onM n i = cyA XX n 0 by rw [cyA, show i = n by omega]; unfold onM; simp)
        rw [HIN.out] at O
        obtain ⟨w3, rfl⟩ : ∃ W, W = wr := ⟨wr, rfl⟩
        clear ho HIN
        go_wp2_with fail
        go_loopw [9, 10, 42] (fun _ _ ix wr => ∃ i : Nat, i ≤ n ∧ ix = .int .i64 i ∧ Own wr 3 w2.heap.size (some ⟨w2.heap.size, 0, none⟩) n n (iv (cyA XX n i)) ∧ Below w2.heap.size w2 wr) (fun _ _ ix _ => n - (intOf ix).toNat)
        case atStart => exact ⟨0, Nat.zero_le _, rfl, O.out, hb⟩
        case round =>
          obtain ⟨i, hi, rfl, ho, hb⟩ := hrel
          have O := Lib.hid ho
          obtain ⟨w4, rfl⟩ : ∃ W, W = wr := ⟨wr, rfl⟩
          clear ho
          by_cases hlt : i < n
          · have HNX := Lib.hid (show cyA XX n (i + 1) = cyF XX i (n + 1) (cyA XX n i) ((i : Nat) : Int) from rfl)
            obtain ⟨T, hT⟩ : ∃ T, T = cyA XX n (i + 1) := ⟨_, rfl⟩
            have HT := Lib.hid hT
            rw [← hT] at HNX
            have HAI := Lib.hid (HAL.out i)
            clear hT
            go_wp2_with fail
            go_loopg [10] (n + 1) (fun gk kx wr => ∃ (kk : Nat) (o : List Int), kk < n ∧ kx = .int .i64 kk ∧ Own wr 3 w2.heap.size (some ⟨w2.heap.size, 0, none⟩) n n (iv o) ∧ Hid (o.length = n ∧ cyF XX i gk o ((kk : Nat) : Int) = T) ∧ negs o < gk ∧ Below w2.heap.size w2 wr)
            case atStart => exact ⟨i, _, hlt, rfl, O.out, Lib.hid ⟨HAI.out, HNX.out.symm⟩, by have := negs_le (cyA XX n i); have := HAI.out; omega, hb⟩
            case round =>
              obtain ⟨kk, o, hkk, rfl, ho, HCY, hneg, hb5⟩ := hrel
              obtain ⟨w5, rfl⟩ : ∃ W, W = wr := ⟨wr, rfl⟩
              have O5 := Lib.hid ho
              obtain ⟨g, y, hg, -, -, hy, hcy, hfy⟩ := ho.ati hkk
              cases hg
              have hyd : o.getD kk 0 = y := by rw [List.getD_eq_getElem?_getD, hy]; rfl
              obtain ⟨f, hf⟩ : ∃ f, gk = f + 1 := ⟨gk - 1, by omega⟩
              have k1 : (0 : Int) ≤ (kk : Int) := by omega
              have k2 : (kk : Int) < (n : Int) := by omega
              clear ho
              by_cases hy0 : y < 0
              · obtain ⟨bx, ox, x, hAx, hx, hcx⟩ := (HXR.out.below hb5).ati (show 2 * kk + 1 < nx by have := HNXL.out; omega)
                subst hAx
                have hxb := HXB.out x (List.mem_of_getElem? hx)
                obtain ⟨X, rfl⟩ := Int.eq_ofNat_of_zero_le hxb.1
                have hX : X / 2 < n := by omega
                have HC2 := Lib.hid (show (o.set kk i).length = n ∧ cyF XX i f (o.set kk i) ((X / 2 : Nat) : Int) = T by
                  refine ⟨by rw [List.length_set]; exact HCY.out.1, ?_⟩
                  rw [← HCY.out.2, hf, cyF, Int.toNat_natCast, hyd, if_pos hy0]
                  rw [show (2 * (kk : Int) + 1).toNat = 2 * kk + 1 by omega, List.getD_eq_getElem?_getD (l := XX), hx]
                  rfl)
                have hng2 : negs (o.set kk i) < f := by have := negs_set (i := (i : Int)) hy hy0 (by omega); omega
                have HFG := Lib.hid hf
                have u1 : IntKind.i64.wrap (2 * (kk : Int)) = 2 * (kk : Int) := IntWalk.i64_in _ (by omega)
                have u2 : IntKind.i64.wrap (2 * (kk : Int) + 1) = 2 * (kk : Int) + 1 := IntWalk.i64_in _ (by omega)
                have j1 : (0 : Int) ≤ 2 * (kk : Int) + 1 := by omega
                have HNL := Lib.hid (HNXL.out)
                have j2 : 2 * (kk : Int) + 1 < (nx : Int) := by have := HNXL.out; omega
                have j3 : (2 * (kk : Int) + 1).toNat = 2 * kk + 1 := by omega
                clear hx hy hyd hf
                go_wp2_with fail
                go_roundg f
                case measure => have := HFG.out; omega
                case rel => exact ⟨X / 2, _, hX, by go_num, O5.out.puti kk i, HC2, hng2, hb5.setCell (p := ⟨w2.heap.size, kk, none⟩) (Nat.le_refl _) _⟩
              · have HE := Lib.hid (show o = cyA XX n (i + 1) by rw [← HT.out, ← HCY.out.2, hf, cyF, Int.toNat_natCast, hyd, if_neg hy0])
                clear hy hyd hf
                go_wp2_with fail
                go_roundw
                case rel => exact ⟨i + 1, by omega, by go_num, by rw [← HE.out]; exact O5.out, hb5⟩
                case measure => simp [intOf]; omega
          · have HI := Lib.hid (show cyA XX n n = cyA XX n i by rw [show n = i by omega])
            have hs4 := hb.size
            have HRB := Lib.hid (show renB (cyA XX n i) = (renL (cyA XX n i), true) by unfold renB; rw [if_pos (by rw [HAL.out]; omega)])
            obtain ⟨hcc1, hcc2⟩ := own_capT2 O.out
            go_wp2_with fail
            refine (implRenumberBlocks_any _ _ _ _ _ O.out.rd (by omega) hcc1 hcc2).mono ?_
            rw [HRB.out]
            rintro e w5 ⟨A3, n3, c3, hn3, rfl, ho3, hb3⟩
            have HO3 := Lib.hid ho3
            have HN3 := Lib.hid hn3
            have HBF := Lib.hid (hbw.trans ((hb.trans (hb3.mono hs4)).mono hsw))
            have hs34 := hs4
            clear ho3 hn3 hb3
            go_wp2_with fail
            go_ret2
            rw [HF.out, HI.out]
            exact ⟨A3, n3, c3, HN3.out, rfl, HO3.out.mono (by omega), HBF.out⟩

end Go.Proofs.Ytghfhkbncjgaeaa
