/- IsRotationWay of both sides. -/
import Derived.Test.YteekkcjbflehlaaHas
import Derived.Test.YteekkcjbflehlaaChnL
import Derived.Test.YteekkcjbflehlaaNbS
import Derived.Test.YteekkcjbflehlaaNbI
import Derived.Deep.RegionHeld3
namespace Go.Proofs.Yteekkcjbflehlaa
set_option linter.unusedVariables false
open Go.RowKit Go.Deep

theorem rtsG_mem {f : Tr → Nat → Option Tr} {t : Tr} {x : List UInt8} : ∀ {k : Nat}, x ∈ rts f t k → ∃ v y, v < k ∧ f t v = some y ∧ x = tx y
  | 0, h => by cases h
  | k + 1, h => by
    rcases hr : f t k with _ | y
    · rw [rts_none hr] at h
      obtain ⟨v, y, h1, h2, h3⟩ := rtsG_mem h
      exact ⟨v, y, by omega, h2, h3⟩
    · rw [rts_some hr, List.mem_append] at h
      rcases h with h | h
      · obtain ⟨v, y, h1, h2, h3⟩ := rtsG_mem h
        exact ⟨v, y, by omega, h2, h3⟩
      · simp at h; exact ⟨k, y, by omega, hr, h⟩
theorem rotL_nodes {t x : Tr} {v : Nat} (h : rotL t v = some x) : v < nodes t ∧ nodes x = nodes t := by
  unfold rotL at h
  rw [Option.map_eq_some_iff] at h
  obtain ⟨y, hy, rfl⟩ := h
  have hv : v < nodes t := by
    rcases Nat.lt_or_ge v (nodes t) with h1 | h1
    · exact h1
    · rw [nodeAt_big h1] at hy; cases hy
  have hn := rotLt_nodes hy
  have := nodes_repl t v y hv
  exact ⟨hv, by omega⟩
theorem rotL_sh {t x : Tr} {v : Nat} (hs : sh t = t) (h : rotL t v = some x) : sh x = x := by
  unfold rotL at h
  rw [Option.map_eq_some_iff] at h
  obtain ⟨y, hy, rfl⟩ := h
  have h2 : sh y = y := by
    have := rotLt_sh (nodeAt t v)
    rw [← nodeAt_sh, hs, hy] at this
    injection this with this
    exact this.symm
  rw [replAt_sh, hs, h2]
theorem nb_form {l x : List UInt8} (h : x ∈ nbB l) : ∃ t y, l = tx t ∧ sh t = t ∧ nodes t ≤ 8 ∧ x = tx y ∧ sh y = y ∧ nodes y = nodes t ∧ ((∃ v, v < nodes t ∧ rotR t v = some y) ∨ ∃ v, v < nodes t ∧ rotL t v = some y) := by
  rcases isB_cases l with hb | ⟨t, rfl, h8, hs⟩
  · rw [nbB, rtsB_no hb, rtsB_no hb] at h; cases h
  · rw [nbB, rtsB_tx h8 hs, rtsB_tx h8 hs, List.mem_append] at h
    rcases h with h | h
    · obtain ⟨v, y, hv, hr, rfl⟩ := rtsG_mem h
      obtain ⟨h1, h2, _, _⟩ := rotR_up hr
      exact ⟨t, y, rfl, hs, h8, rfl, rotR_sh hs hr, h2, Or.inl ⟨v, h1, hr⟩⟩
    · obtain ⟨v, y, hv, hr, rfl⟩ := rtsG_mem h
      obtain ⟨h1, h2⟩ := rotL_nodes hr
      exact ⟨t, y, rfl, hs, h8, rfl, rotL_sh hs hr, h2, Or.inr ⟨v, h1, hr⟩⟩
theorem nb_isB {l x : List UInt8} (h : x ∈ nbB l) : isB x = true := by
  obtain ⟨t, y, rfl, _, h8, rfl, _, hn, _⟩ := nb_form h
  exact isB_tx (by omega)
theorem nbB_len (l : List UInt8) : (nbB l).length ≤ 16 := by
  have h1 := rtsB_len rotR l
  have h2 := rtsB_len rotL l
  rw [nbB, List.length_append]; omega

def irwTo (L : List (List UInt8)) : Nat → Bool
  | 0 => true
  | k + 1 => irwTo L k && (if k = 0 then isB (L.getD 0 []) else hasB (nbB (L.getD (k - 1) [])) (L.getD k []))
def irwB (L : List (List UInt8)) : Bool := decide (1 ≤ L.length ∧ L.length ≤ 40) && irwTo L L.length
theorem irw_isB {L : List (List UInt8)} {k : Nat} (h : irwTo L (k + 1) = true) : isB (L.getD k []) = true := by
  rw [irwTo, Bool.and_eq_true] at h
  by_cases hk : k = 0
  · subst hk; simpa using h.2
  · rw [if_neg hk] at h
    exact nb_isB (of_decide_eq_true h.2)
theorem irwTo_false {L : List (List UInt8)} {k n : Nat} (h : irwTo L k = false) (hk : k ≤ n) : irwTo L n = false := by
  induction n with
  | zero => obtain rfl : k = 0 := by omega
            exact h
  | succ n ih =>
    rcases Nat.lt_or_ge k (n + 1) with h1 | h1
    · rw [irwTo, ih (by omega)]; rfl
    · obtain rfl : k = n + 1 := by omega
      exact h
theorem getDt {xs : List (List UInt8)} {k : Nat} {x : List UInt8} (h : xs[k]? = some x) : xs.getD k [] = x := by rw [List.getD_eq_getElem?_getD, h]; rfl

set_option maxRecDepth 20000 in
set_option maxHeartbeats 1000000 in
theorem specIsRotationWay_any (A : Option Addr) (n c : Nat) (L : List (List UInt8)) (w : World) (h : Rd w A n (sv L)) (hL : ∀ x ∈ L, x.length ≤ 1000000000) (hn : n ≤ 1000000000) :
    Calls Try.prog 42 #[.slice A n c] w fun e w' => e = .returned (.bool (irwB L)) ∧ Below w.heap.size w w' := by
  have HR := Lib.hid h
  have HL := Lib.hid (show L.length = n by have := h.len; rw [sv_len] at this; exact this)
  have HM := Lib.hid hL
  clear h hL
  by_cases h40 : 40 < n
  · have HF := Lib.hid (show irwB L = false by unfold irwB; rw [HL.out, decide_eq_false (by omega)]; rfl)
    have h1 : (0 : Int) < (n : Int) := by omega
    have h2 : (40 : Int) < (n : Int) := by omega
    go_enter Try.func42, Try.ntmps42
    go_wp2_with fail
    go_loop [3] (fun i => i = .int .i64 0) (fun _ => 0)
    case atStart => rfl
    case round =>
      obtain rfl := hrel
      go_wp2_with fail
      go_quiet (fail)
      go_wp2_with fail
      go_ret
      exact ⟨ret_bool (by rw [HF.out]), below_drewN' (Below.refl _ _) _⟩
  have h2 : decide ((40 : Int) < (n : Int)) = false := by simp; omega
  go_enter Try.func42, Try.ntmps42
  go_wp2_with fail
  go_loopw [3] (fun i wr => ∃ k : Nat, k ≤ n ∧ i = .int .i64 k ∧ Hid (irwTo L k = true) ∧ Below w.heap.size w wr) (fun i _ => n - (intOf i).toNat)
  case atStart => exact ⟨0, Nat.zero_le _, rfl, Lib.hid rfl, Below.refl _ _⟩
  case round =>
    obtain ⟨k, hk, rfl, HI, hb⟩ := hrel
    have hbs := hb.size
    by_cases hlt : k < n
    · obtain ⟨bl, off, x, rfl, hx, hc⟩ := (HR.out.below hb).ats hlt
      have hxl := HM.out x (List.mem_of_getElem? hx)
      have HX := Lib.hid (getDt hx)
      have k0 : (0 : Int) ≤ (k : Int) := by omega
      have k1 : (k : Int) < (n : Int) := by omega
      clear hx
      rcases hB : isB x with _ | _
      · have HBB := Lib.hid hB
        have HF := Lib.hid (show irwB L = false by
          unfold irwB
          rcases hh : irwTo L (k + 1) with _ | _
          · rw [HL.out, irwTo_false hh (by omega)]; simp
          · have := irw_isB hh; rw [HX.out, hB] at this; cases this)
        clear hB
        have HCB := Lib.hid (show ∀ w, Calls Try.prog 64 #[.string (bs x)] w fun e w' => e = .returned (.bool false) ∧ ∃ q, w' = w.drewN q from fun w => by rw [← HBB.out]; exact (specIsBinary_any _ w hxl).mono fun _ _ ⟨he, hw⟩ => ⟨he, 0, by rw [← hw]; rfl⟩)
        go_wp2_with fail
        go_quiet ((go_at_call 64; exact Calls.quiet_of (HCB.out _)))
        go_wp2_with fail
        go_ret
        exact ⟨ret_bool (by rw [HF.out]), below_drewN' hb _⟩
      · have HBB := Lib.hid hB
        by_cases hk0 : k = 0
        · subst hk0
          have HN := Lib.hid (show irwTo L (0 + 1) = true by rw [irwTo, HI.out, if_pos rfl, HX.out, hB]; rfl)
          rw [Nat.add_zero] at hc
          clear hB
          have HCB := Lib.hid (show ∀ w, Calls Try.prog 64 #[.string (bs x)] w fun e w' => e = .returned (.bool true) ∧ ∃ q, w' = w.drewN q from fun w => by rw [← HBB.out]; exact (specIsBinary_any _ w hxl).mono fun _ _ ⟨he, hw⟩ => ⟨he, 0, by rw [← hw]; rfl⟩)
          go_wp2_with fail
          go_quiet ((go_at_call 64; exact Calls.quiet_of (HCB.out _)))
          go_wp2_with fail
          go_roundw
          case rel => exact ⟨0 + 1, by omega, by go_num, HN, below_drewN' hb _⟩
          case measure => simp [intOf]; omega
        · obtain ⟨_, _, y, hA, hy, hcy⟩ := (HR.out.below hb).ats (show k - 1 < n by omega)
          cases hA
          have HY := Lib.hid (getDt hy)
          have hyl := HM.out y (List.mem_of_getElem? hy)
          have k2 : decide (0 < k) = true := by simp; omega
          have k2' : 0 < k := by omega
          have k7a : (1 : Int) ≤ (k : Int) := by omega
          have k7b : 1 ≤ k := by omega
          have k7c : (k : Int) ≤ (n : Int) := by omega
          have k7d : k ≤ n := by omega
          have k3 : (0 : Int) ≤ (k : Int) - 1 := by omega
          have k4 : (k : Int) - 1 < (n : Int) := by omega
          have k5 : ((k : Int) - 1).toNat = k - 1 := by omega
          have k6 : IntKind.i64.wrap ((k : Int) - 1) = (k : Int) - 1 := IntWalk.i64_in _ (by omega)
          have HCN := Lib.hid (show irwTo L (k + 1) = hasB (nbB y) x by rw [irwTo, HI.out, if_neg hk0, HX.out, HY.out]; rfl)
          have HCB := Lib.hid (show ∀ w, Calls Try.prog 64 #[.string (bs x)] w fun e w' => e = .returned (.bool true) ∧ w = w' from fun w => by rw [← HBB.out]; exact specIsBinary_any _ w hxl)
          have hbl : bl < wr.heap.size := World.block_lt_of_cell? _ _ hc
          have HN := Lib.hid (nbB_len y)
          clear hy hB hk0
          rcases hh : hasB (nbB y) x with _ | _
          · have HH := Lib.hid hh
            have HF := Lib.hid (show irwB L = false by unfold irwB; rw [HL.out, irwTo_false (k := k + 1) (by rw [HCN.out, hh]) (by omega)]; simp)
            clear hh
            go_wp2_with fail
            go_region_held3 (fun w' => w'.cell? ⟨bl, off + k, none⟩ = some (.string (bs x)) ∧ w'.cell? ⟨bl, off + (k - 1), none⟩ = some (.string (bs y))) (first | go_keep | exact ⟨by assumption, by assumption⟩)
              (first | (go_at_call 64; refine (HCB.out _).mono ?_; rintro e w' ⟨rfl, rfl⟩) | (go_at_call 78; refine (specNeighboursOf_any _ _ hyl).mono ?_; rintro e w1 ⟨A1, m1, c1, hm1, rfl, ho1, hb1⟩; have k7 := (hb1.cell (p := ⟨bl, off + k, none⟩) hbl).trans hc; have k8 := (hb1.cell (p := ⟨bl, off + (k - 1), none⟩) hbl).trans hcy; have HO1 := Lib.hid ho1.rd; have HM1 := HN.out; rw [← hm1] at HM1; clear ho1 hm1) | (go_at_call 99; refine (l15Has_any _ _ _ _ _ _ HO1.out (by omega)).mono ?_; rintro e w2 ⟨rfl, rfl⟩; rw [HH.out]))
            go_wp2_with fail
            go_ret
            exact ⟨ret_bool (by rw [HF.out]), hb.trans ((show Below wr.heap.size wr w1 from ⟨hb1.os, hb1.tape, hb1.output, hb1.size, hb1.block⟩).mono hbs)⟩
          · have HH := Lib.hid hh
            have HNX := Lib.hid (show irwTo L (k + 1) = true by rw [HCN.out, hh])
            clear hh
            go_wp2_with fail
            go_region_held3 (fun w' => w'.cell? ⟨bl, off + k, none⟩ = some (.string (bs x)) ∧ w'.cell? ⟨bl, off + (k - 1), none⟩ = some (.string (bs y))) (first | go_keep | exact ⟨by assumption, by assumption⟩)
              (first | (go_at_call 64; refine (HCB.out _).mono ?_; rintro e w' ⟨rfl, rfl⟩) | (go_at_call 78; refine (specNeighboursOf_any _ _ hyl).mono ?_; rintro e w1 ⟨A1, m1, c1, hm1, rfl, ho1, hb1⟩; have k7 := (hb1.cell (p := ⟨bl, off + k, none⟩) hbl).trans hc; have k8 := (hb1.cell (p := ⟨bl, off + (k - 1), none⟩) hbl).trans hcy; have HO1 := Lib.hid ho1.rd; have HM1 := HN.out; rw [← hm1] at HM1; clear ho1 hm1) | (go_at_call 99; refine (l15Has_any _ _ _ _ _ _ HO1.out (by omega)).mono ?_; rintro e w2 ⟨rfl, rfl⟩; rw [HH.out]))
            go_wp2_with fail
            go_roundw
            case rel => exact ⟨k + 1, by omega, by go_num, HNX, hb.trans ((show Below wr.heap.size wr w1 from ⟨hb1.os, hb1.tape, hb1.output, hb1.size, hb1.block⟩).mono hbs)⟩
            case measure => simp [intOf]; omega
    · have hkn : k = n := by omega
      have HK := Lib.hid (show irwB L = decide (0 < n) by
        unfold irwB
        rw [HL.out, ← hkn, HI.out, Bool.and_true]
        by_cases h0 : 0 < k
        · rw [decide_eq_true h0, decide_eq_true (by omega)]
        · rw [decide_eq_false h0, decide_eq_false (by omega)])
      clear hkn
      go_wp2_with fail
      go_ret
      exact ⟨ret_bool (by rw [HK.out]), hb⟩

set_option maxRecDepth 20000 in
set_option maxHeartbeats 1000000 in
theorem implIsRotationWay_any (A : Option Addr) (n c : Nat) (L : List (List UInt8)) (w : World) (h : Rd w A n (sv L)) (hL : ∀ x ∈ L, x.length ≤ 1000000000) (hn : n ≤ 1000000000) :
    Calls Try.prog 44 #[.slice A n c] w fun e w' => e = .returned (.bool (irwB L)) ∧ Below w.heap.size w w' := by
  have HR := Lib.hid h
  have HL := Lib.hid (show L.length = n by have := h.len; rw [sv_len] at this; exact this)
  have HM := Lib.hid hL
  clear h hL
  rcases hin : inB n 1 40 with _ | _
  · have HIN := Lib.hid hin
    have HF := Lib.hid (show irwB L = false by
      unfold irwB
      rw [HL.out, decide_eq_false]
      · rfl
      · intro h; rw [inB_true (by omega) (by omega)] at hin; cases hin)
    clear hin
    go_enter Try.func44, Try.ntmps44
    go_wp2_with fail
    refine (within_any _ _ _ _).mono ?_
    rintro e w' ⟨rfl, rfl⟩
    rw [HIN.out]
    go_wp2_with fail
    go_ret
    exact ⟨ret_bool (by rw [HF.out]), Below.refl _ _⟩
  have hib := inB_iff.1 hin
  have HIN := Lib.hid hin
  have hn1 : 1 ≤ n := by omega
  have hn2 : n ≤ 40 := by omega
  obtain ⟨bl, off, x0, hA, hx0, hc0⟩ := HR.out.ats (show 0 < n by omega)
  subst hA
  have hxl0 := HM.out x0 (List.mem_of_getElem? hx0)
  have HX0 := Lib.hid (getDt hx0)
  rw [Nat.add_zero] at hc0
  have p0 : (0 : Int) < (n : Int) := by omega
  have p1 : 0 < n := by omega
  clear hin hib hx0
  rcases hB : isB x0 with _ | _
  · have HBB := Lib.hid hB
    have HF := Lib.hid (show irwB L = false by
      unfold irwB
      rw [irwTo_false (k := 1) (by rw [irwTo, if_pos rfl, HX0.out, hB]; rfl) (by rw [HL.out]; exact hn1)]; simp)
    clear hB
    go_enter Try.func44, Try.ntmps44
    go_wp2_with fail
    refine (within_any _ _ _ _).mono ?_
    rintro e w' ⟨rfl, rfl⟩
    rw [HIN.out]
    go_wp2_with fail
    refine (implIsBinary_any _ _ hxl0).mono ?_
    rintro e w1 ⟨rfl, hb1⟩
    rw [HBB.out]
    go_wp2_with fail
    go_ret
    exact ⟨ret_bool (by rw [HF.out]), hb1⟩
  have HBB := Lib.hid hB
  have HI1 := Lib.hid (show irwTo L 1 = true by rw [irwTo, if_pos rfl, HX0.out, hB]; rfl)
  clear hB
  go_enter Try.func44, Try.ntmps44
  go_wp2_with fail
  refine (within_any _ _ _ _).mono ?_
  rintro e w' ⟨rfl, rfl⟩
  rw [HIN.out]
  go_wp2_with fail
  refine (implIsBinary_any _ _ hxl0).mono ?_
  rintro e w1 ⟨rfl, hb1⟩
  rw [HBB.out]
  go_wp2_with fail
  go_loopw [3] (fun i wr => ∃ k : Nat, 1 ≤ k ∧ k ≤ n ∧ i = .int .i64 k ∧ Hid (irwTo L k = true) ∧ Below w.heap.size w wr) (fun i _ => n - (intOf i).toNat)
  case atStart => exact ⟨1, Nat.le_refl _, hn1, rfl, HI1, hb1⟩
  case round =>
    obtain ⟨k, hk1, hk, rfl, HI, hb⟩ := hrel
    have hbs := hb.size
    by_cases hlt : k < n
    · obtain ⟨_, _, x, hA1, hx, hc⟩ := (HR.out.below hb).ats hlt
      obtain ⟨_, _, y, hA2, hy, hcy⟩ := (HR.out.below hb).ats (show k - 1 < n by omega)
      cases hA1
      cases hA2
      have HX := Lib.hid (getDt hx)
      have HY := Lib.hid (getDt hy)
      have hyl := HM.out y (List.mem_of_getElem? hy)
      have k0 : (0 : Int) ≤ (k : Int) := by omega
      have k1 : (k : Int) < (n : Int) := by omega
      have k3 : (0 : Int) ≤ (k : Int) - 1 := by omega
      have k4 : (k : Int) - 1 < (n : Int) := by omega
      have k5 : ((k : Int) - 1).toNat = k - 1 := by omega
      have k6 : IntKind.i64.wrap ((k : Int) - 1) = (k : Int) - 1 := IntWalk.i64_in _ (by omega)
      have k7a : (1 : Int) ≤ (k : Int) := by omega
      have k7c : (k : Int) ≤ (n : Int) := by omega
      have HCN := Lib.hid (show irwTo L (k + 1) = hasB (nbB y) x by rw [irwTo, HI.out, if_neg (by omega), HX.out, HY.out]; rfl)
      have hbl : bl < wr.heap.size := World.block_lt_of_cell? _ _ hc
      have HN := Lib.hid (nbB_len y)
      clear hx hy
      rcases hh : hasB (nbB y) x with _ | _
      · have HH := Lib.hid hh
        have HF := Lib.hid (show irwB L = false by unfold irwB; rw [HL.out, irwTo_false (k := k + 1) (by rw [HCN.out, hh]) (by omega)]; simp)
        clear hh
        go_wp2_with fail
        go_region_held3 (fun w' => w'.cell? ⟨bl, off + k, none⟩ = some (.string (bs x)) ∧ w'.cell? ⟨bl, off + (k - 1), none⟩ = some (.string (bs y))) (first | go_keep | exact ⟨by assumption, by assumption⟩)
          (first | (go_at_call 60; refine (implNeighboursOf_any _ _ hyl).mono ?_; rintro e w1 ⟨A1, m1, c1, hm1, rfl, ho1, hb1⟩; have k7 := (hb1.cell (p := ⟨bl, off + k, none⟩) hbl).trans hc; have k8 := (hb1.cell (p := ⟨bl, off + (k - 1), none⟩) hbl).trans hcy; have HO1 := Lib.hid ho1.rd; have HM1 := HN.out; rw [← hm1] at HM1; clear ho1 hm1) | (go_at_call 100; refine (containsS_any _ _ _ _ _ _ HO1.out (by omega)).mono ?_; rintro e w2 ⟨rfl, rfl⟩; rw [HH.out]))
        go_wp2_with fail
        go_ret
        exact ⟨ret_bool (by rw [HF.out]), hb.trans ((show Below wr.heap.size wr w1 from ⟨hb1.os, hb1.tape, hb1.output, hb1.size, hb1.block⟩).mono hbs)⟩
      · have HH := Lib.hid hh
        have HNX := Lib.hid (show irwTo L (k + 1) = true by rw [HCN.out, hh])
        clear hh
        go_wp2_with fail
        go_region_held3 (fun w' => w'.cell? ⟨bl, off + k, none⟩ = some (.string (bs x)) ∧ w'.cell? ⟨bl, off + (k - 1), none⟩ = some (.string (bs y))) (first | go_keep | exact ⟨by assumption, by assumption⟩)
          (first | (go_at_call 60; refine (implNeighboursOf_any _ _ hyl).mono ?_; rintro e w1 ⟨A1, m1, c1, hm1, rfl, ho1, hb1⟩; have k7 := (hb1.cell (p := ⟨bl, off + k, none⟩) hbl).trans hc; have k8 := (hb1.cell (p := ⟨bl, off + (k - 1), none⟩) hbl).trans hcy; have HO1 := Lib.hid ho1.rd; have HM1 := HN.out; rw [← hm1] at HM1; clear ho1 hm1) | (go_at_call 100; refine (containsS_any _ _ _ _ _ _ HO1.out (by omega)).mono ?_; rintro e w2 ⟨rfl, rfl⟩; rw [HH.out]))
        go_wp2_with fail
        go_roundw
        case rel => exact ⟨k + 1, by omega, by omega, by go_num, HNX, hb.trans ((show Below wr.heap.size wr w1 from ⟨hb1.os, hb1.tape, hb1.output, hb1.size, hb1.block⟩).mono hbs)⟩
        case measure => simp [intOf]; omega
    · have hkn : k = n := by omega
      have HK := Lib.hid (show irwB L = true by
        unfold irwB
        rw [HL.out, ← hkn, HI.out, decide_eq_true (by omega)]; rfl)
      clear hkn
      go_wp2_with fail
      go_ret
      exact ⟨ret_bool (by rw [HK.out]), hb⟩

end Go.Proofs.Yteekkcjbflehlaa
