/- spec.OrbitSizes. -/
import Derived.Test.YtghfhkbncjgaeaaGreatOrbL
import Derived.Test.YtghfhkbncjgaeaaGreatMg41
import Derived.Test.YtghfhkbncjgaeaaGreatMg5
import Derived.Test.YtghfhkbncjgaeaaGreatMg30
namespace Go.Proofs.YtghfhkbncjgaeaaGreat
set_option linter.unusedVariables false
open Go.RowKit

set_option maxRecDepth 20000 in
set_option maxHeartbeats 2000000 in
theorem l15Has_any (A : Option Addr) (n c : Nat) (l : List (List UInt8)) (x : List UInt8) (w : World) (h : Rd w A n (sv l)) (hn : n ≤ 1000000000) :
    Calls Tryz.prog 41 #[.slice A n c, .string (bs x)] w fun e w' => e = .returned (.bool (hasT l x)) ∧ w = w' := by
  have HR := Lib.hid h
  have HL := Lib.hid (show l.length = n by have := h.len; rw [sv_len] at this; exact this)
  clear h
  go_enter Tryz.func41, Tryz.ntmps41
  go_wp2_with fail
  go_loop [5] (fun ix => ∃ i : Nat, i ≤ n ∧ ix = .int .i64 i ∧ (∀ j, j < i → (l.getD j [] == x) = false)) (fun ix => n - (intOf ix).toNat)
  case atStart => exact ⟨0, Nat.zero_le _, rfl, fun j hj => by omega⟩
  case round =>
    obtain ⟨i, hi, rfl, hok⟩ := hrel
    have HOK := Lib.hid hok
    clear hok
    by_cases hlt : i < n
    · obtain ⟨b, off, y, hA, hy, hc⟩ := HR.out.ats hlt
      subst hA
      have i1 : (0 : Int) ≤ (i : Int) := by omega
      have i2 : (i : Int) < (n : Int) := by omega
      by_cases hyx : y = x
      · have HF := Lib.hid (show hasT l x = true from hasT_yes (j := i) (by rw [← hyx]; exact hy))
        have e1 : (y == x) = true := by rw [beq_iff_eq]; exact hyx
        clear hy hyx
        go_wp2_with fail
        go_ret
        exact ⟨ret_bool (by rw [HF.out]), rfl⟩
      · have e1 : (y == x) = false := by rw [beq_eq_false_iff_ne]; exact hyx
        have HD := Lib.hid (show l.getD i [] = y by rw [List.getD_eq_getElem?_getD, hy]; rfl)
        have E1 := Lib.hid e1
        clear hy hyx
        go_wp2_with fail
        go_round
        case rel => exact ⟨i + 1, by omega, by go_num, fun j hj => by
          rcases Nat.lt_or_ge j i with h1 | h1
          · exact HOK.out j h1
          · obtain rfl : j = i := by omega
            rw [HD.out]; exact E1.out⟩
        case measure => simp [intOf]; omega
    · have HF := Lib.hid (show hasT l x = false from hasT_no fun j hj => HOK.out j (by have := HL.out; omega))
      go_wp2_with fail
      go_ret
      exact ⟨ret_bool (by rw [HF.out]), rfl⟩

/-- The sizes, the paths, those that were seen. -/
structure OrS (w0 wr : World) (A : Option Addr) (k c : Nat) (o : List Int) (Ap : Option Addr) (m cp : Nat) (xs : List (List UInt8)) (A1 : Option Addr) (q c1 : Nat) (ys : List (List UInt8)) : Prop where
  out : Own wr 3 w0.heap.size A k c (iv o)
  inp : Own wr 9 w0.heap.size Ap m cp (sv xs)
  sn : Own wr 9 w0.heap.size A1 q c1 (sv ys)
  apart : ∀ g : Nat, Ap = some ⟨g, 0, none⟩ → Value.ownBlock (.slice A1 q c1) ≠ some g
  below : Below w0.heap.size w0 wr
section
variable {w0 wr w' : World} {A Ap A1 : Option Addr} {k c m cp q c1 : Nat} {o : List Int} {xs ys : List (List UInt8)}
theorem OrS.by_ (h : OrS w0 wr A k c o Ap m cp xs A1 q c1 ys) (hb : Below wr.heap.size wr w') : OrS w0 w' A k c o Ap m cp xs A1 q c1 ys :=
  ⟨h.out.below hb, h.inp.below hb, h.sn.below hb, h.apart, h.below.trans (hb.mono h.below.size)⟩
theorem OrS.grow {g' c' : Nat} {x : Int} (ow : Obj) (h : OrS w0 wr A k c o Ap m cp xs A1 q c1 ys) (ho : Own w' 3 w0.heap.size (some ⟨g', 0, none⟩) (k + 1) c' (iv o ++ [.int .i64 x])) (hg : (wr.alloc ow).grownBy w' (Value.ownBlock (.slice A k c))) (hb : Below w0.heap.size (wr.alloc ow) w') : OrS w0 w' (some ⟨g', 0, none⟩) (k + 1) c' (o ++ [x]) Ap m cp xs A1 q c1 ys where
  out := by rw [iv_snoc]; exact ho
  inp := (h.out.alloc ow).otherN (h.inp.alloc ow) (by decide) hg
  sn := (h.out.alloc ow).otherN (h.sn.alloc ow) (by decide) hg
  apart := h.apart
  below := (h.below.alloc h.below.size _).trans hb
theorem OrS.seen {g' c' : Nat} {x : List UInt8} (ow : Obj) (h : OrS w0 wr A k c o Ap m cp xs A1 q c1 ys) (ho : Own w' 9 w0.heap.size (some ⟨g', 0, none⟩) (q + 1) c' (sv ys ++ [.string (bs x)])) (hg : (wr.alloc ow).grownBy w' (Value.ownBlock (.slice A1 q c1))) (hb : Below w0.heap.size (wr.alloc ow) w')
    (hat : Value.ownBlock (.slice A1 q c1) = some g' ∨ g' = (wr.alloc ow).heap.size) : OrS w0 w' A k c o Ap m cp xs (some ⟨g', 0, none⟩) (q + 1) c' (ys ++ [x]) where
  out := (h.sn.alloc ow).otherN (h.out.alloc ow) (by decide) hg
  inp := (h.inp.alloc _).grown hg (fun g hA => h.apart g hA)
  sn := by rw [sv_snoc]; exact ho
  apart g hA he := by
    have e : g' = g := by simpa [Value.ownBlock] using he
    subst e
    rcases hat with hat | hat
    · exact h.apart g' hA hat
    · have := (h.inp.blk g' (by rw [hA]; rfl)).2
      simp at hat
      omega
  below := (h.below.alloc h.below.size _).trans hb
theorem OrS.start {w w1 : World} (ho : Own w1 9 (w.alloc (.cells #[] 3)).heap.size Ap m cp (sv xs)) (hb : Below (w.alloc (.cells #[] 3)).heap.size (w.alloc (.cells #[] 3)) w1) :
    OrS w (w1.alloc (.cells #[] 9)) (some ⟨w.heap.size, 0, none⟩) 0 0 [] Ap m cp xs (some ⟨w1.heap.size, 0, none⟩) 0 0 [] where
  out := ((own_empty w).below hb).alloc _
  inp := (ho.mono (by simp)).alloc _
  sn := by
    have h1 := hb.size
    simp at h1
    exact (own_emptyS w1).mono (by omega)
  apart := by
    intro g hg he
    have h1 := (ho.blk g (by rw [hg]; rfl)).2
    simp [Value.ownBlock] at h1 he
    omega
  below := by
    have h1 := hb.size
    simp at h1
    exact (((Below.refl w.heap.size w).alloc (Nat.le_refl _) _).trans (hb.mono (by simp))).alloc (by omega) _
end

set_option maxRecDepth 20000 in
set_option maxHeartbeats 4000000 in
theorem specOrbitSizes_any (f : List UInt8) (n : Int) (w : World) : Calls Tryz.prog 13 #[.string (bs f), .int .i64 n] w (RetIB w (orbT f n).1 (orbT f n).2) := by
  unfold RetIB
  rcases ordT_cases f n with h1 | ⟨N, rfl, hN1, hN5, hf, ho, ho1, ho2⟩
  · have HO := Lib.hid h1
    rw [orbT_no h1]
    clear h1
    go_enter Tryz.func13, Tryz.ntmps13
    go_wp2_with fail
    refine (specOrderOfTurn_any _ _ _).mono ?_
    rintro e w' ⟨rfl, rfl⟩
    rw [HO.out]
    go_wp2_with fail
    go_ret2
    exact ⟨_, 0, 0, rfl, rfl, own_empty w, (Below.refl _ _).alloc (Nat.le_refl _) _⟩
  obtain ⟨R, hR⟩ := orb_ok hf hN5
  have hres : orbT f N = (R.2, true) := by unfold orbT; rw [if_neg (by omega), Int.toNat_natCast, hR]; rfl
  rw [hres]
  obtain ⟨od, hod⟩ : ∃ od, od = ordN f N := ⟨_, rfl⟩
  rw [← hod] at ho ho1 ho2
  have HO := Lib.hid ho
  have n1 : ¬ (od : Int) < 0 := by omega
  have HPA := Lib.hid (fun w => specPathsOf_any N w (by omega))
  have HL0 := Lib.hid (fun i (hi : i < (paths N).length) w => l15Turn_any hf hN1 hN5 hi (k := 1) (Or.inr (Nat.le_refl _)) w)
  have HBD := Lib.hid (fun i (hi : i < (paths N).length) => bd_lt (nxT_bd hf hN5) hi)
  have HAT := Lib.hid (fun i (hi : i < (paths N).length) => P_at hi)
  have HPL := Lib.hid (fun i (hi : i < (paths N).length) => P_len hN5 hi)
  have HHP := Lib.hid (fun (v : List Nat) (a : Nat) (hv : ∀ j ∈ v, j < (paths N).length) (ha : a < (paths N).length) => hasT_P hN5 hv ha)
  have h42 := paths_5 hN5
  obtain ⟨nx, hnx⟩ : ∃ nx, nx = nxT f N := ⟨_, rfl⟩
  obtain ⟨LL, hLL⟩ : ∃ L, L = (paths N).length := ⟨_, rfl⟩
  rw [← hnx] at HL0 HBD hR
  rw [← hLL] at HL0 HBD HAT HPL HHP h42 hR
  have HR := Lib.hid hR
  have HLL := Lib.hid hLL
  clear ho hf hnx hLL hod hres hR
  go_enter Tryz.func13, Tryz.ntmps13
  go_wp2_with fail
  refine (specOrderOfTurn_any _ _ _).mono ?_
  rintro e w' ⟨rfl, rfl⟩
  rw [HO.out]
  go_wp2_with fail
  refine (HPA.out _).mono ?_
  rintro e w1 ⟨Ap, m, cp, hm, rfl, hown, hb1⟩
  obtain rfl : m = LL := by rw [hm]; exact HLL.out.symm
  have T0 := Lib.hid (OrS.start hown.1 hb1)
  clear hm hown hb1
  go_wp2_with fail
  go_loopw [6, 8, 9, 10, 11] (fun s sn kv _ _ wr => ∃ (i k : Nat) (A : Option Addr) (c : Nat) (o : List Int) (v : List Nat) (q : Nat) (A1 : Option Addr) (c1 : Nat), i ≤ m ∧ kv = .int .i64 i ∧ s = .slice A k c ∧ sn = .slice A1 q c1 ∧ k ≤ i ∧ q ≤ 50 * i ∧ orb nx i = some (v, o) ∧ (∀ j ∈ v, j < m) ∧ OrS w wr A k c o Ap m cp (paths N) A1 q c1 (v.map (P N))) (fun _ _ kv _ _ _ => m - (intOf kv).toNat)
  case atStart => exact ⟨0, 0, _, _, [], [], 0, _, _, Nat.zero_le _, rfl, rfl, rfl, Nat.zero_le _, Nat.zero_le _, rfl, (fun j hj => by cases hj), T0.out⟩
  case round =>
    obtain ⟨i, k, A, c, o, v, q, A1, c1, hi, rfl, rfl, rfl, hki, hqi, hv, hvm, ht⟩ := hrel
    have T := Lib.hid ht
    have VM := Lib.hid hvm
    have HV := Lib.hid hv
    by_cases hlt : i < m
    · obtain ⟨bl, off, x, hA, hx, hc⟩ := ht.inp.rd.ats hlt
      subst hA
      have hxP : x = P N i := by have h := HAT.out i hlt; rw [hx] at h; injection h
      subst hxP
      obtain ⟨v', S, hin, hnext⟩ := orb_step HR.out hlt hv
      have HN := Lib.hid hnext
      have HI := Lib.hid hin
      have l1 := HPL.out i hlt
      have HSH := Lib.hid l1
      clear ht hvm hin hnext hv hx l1
      go_wp2_with fail
      refine (l15Has_any A1 q c1 _ (P N i) wr T.out.sn.rd (by omega)).mono ?_
      rintro e w' ⟨rfl, rfl⟩
      rw [HHP.out v i VM.out hlt]
      by_cases hiv : i ∈ v
      · have hq := inn_stop HI.out hiv
        injection hq with hq1 hq2
        subst hq1 hq2
        rw [decide_eq_true hiv]
        clear hiv
        go_wp2_with fail
        go_roundw
        case rel => exact ⟨i + 1, k, A, c, o, v', q, A1, c1, by omega, by go_num, rfl, rfl, by omega, by omega, by rw [HN.out]; rfl, VM.out, T.out⟩
        case measure => simp [intOf]; omega
      · rw [decide_eq_false hiv]
        have hS : S ≠ 0 := by
          intro h
          have h2 := HI.out
          rw [h] at h2
          exact hiv (inn_zero h2)
        clear hiv
        go_wp2_with fail
        go_loopw [8, 10, 11] (fun sn sv xv wz => ∃ (s a : Nat) (u : List Nat) (q : Nat) (A1 : Option Addr) (c1 : Nat), sn = .slice A1 q c1 ∧ sv = .int .i64 s ∧ xv = .string (bs (P N a)) ∧ s ≤ 50 ∧ a < m ∧ q ≤ 50 * i + s ∧ (∀ j ∈ u, j < m) ∧ inn nx (50 - s) u a s = some (v', S) ∧ OrS w wz A k c o (some ⟨bl, off, none⟩) m cp (paths N) A1 q c1 (u.map (P N))) (fun _ sv _ _ => 50 - (intOf sv).toNat)
        case atStart => exact ⟨0, i, v, q, A1, c1, rfl, rfl, rfl, by omega, hlt, by omega, VM.out, HI.out, T.out⟩
        case round =>
          obtain ⟨s, a, u, q2, A2, c2, rfl, rfl, rfl, hs50, ha, hq2, hum, hinn, hz⟩ := hrel
          have Z := Lib.hid hz
          have UM := Lib.hid hum
          have HIN := Lib.hid hinn
          clear hz hum hinn
          by_cases hau : a ∈ u
          · have hq := inn_stop HIN.out hau
            injection hq with hq1 hq2'
            subst hq1 hq2'
            have HAU := Lib.hid hau
            clear hau
            go_wp2_with fail
            refine (l15Has_any A2 q2 c2 _ (P N a) _ Z.out.sn.rd (by omega)).mono ?_
            rintro e w' ⟨rfl, rfl⟩
            rw [HHP.out v' a UM.out ha, decide_eq_true HAU.out]
            go_wp2_with (at_builtin; refine appIL _ rfl _ _ rfl w.heap.size A k c _ rfl (Z.out.out.alloc _) _ (S : Int) rfl (by simp) (by omega) Z.out.below.size ?_; intro g6 c6 w6 hown6 hgr6 hb6 hat6)
            have T6 := Lib.hid (Z.out.grow _ hown6 hgr6 hb6)
            clear hown6 hgr6 hb6 hat6
            go_wp2_with fail
            go_roundw
            case rel => exact ⟨i + 1, k + 1, _, c6, _, v', q2, A2, c2, by omega, by go_num, rfl, rfl, by omega, by omega, by rw [HN.out, if_neg hS], UM.out, T6.out⟩
            case measure => simp [intOf]; omega
          · obtain ⟨hs, hstep⟩ := inn_go HIN.out hau
            have HST := Lib.hid hstep
            have HAU := Lib.hid hau
            have hJ := HBD.out a ha
            have HC := Lib.hid (fun w => HL0.out a ha w)
            have UM2 := Lib.hid (show ∀ j ∈ u ++ [a], j < m by
              intro j hj
              rw [List.mem_append] at hj
              rcases hj with hj | hj
              · exact UM.out j hj
              · simp at hj; rw [hj]; exact ha)
            clear hstep hau
            go_wp2_with fail
            refine (l15Has_any A2 q2 c2 _ (P N a) _ Z.out.sn.rd (by omega)).mono ?_
            rintro e w' ⟨rfl, rfl⟩
            rw [HHP.out u a UM.out ha, decide_eq_false HAU.out]
            go_wp2_with (at_builtin; refine appSL _ rfl _ _ rfl w.heap.size A2 q2 c2 _ rfl (Z.out.sn.alloc _) _ (bs (P N a)) rfl (by simp) (by omega) Z.out.below.size ?_; intro g6 c6 w6 hown6 hgr6 hb6 hat6)
            have T6 := Lib.hid (Z.out.seen _ hown6 hgr6 hb6 hat6)
            clear hown6 hgr6 hb6 hat6
            go_wp2_with fail
            refine (HC.out _).mono ?_
            rintro e w7 ⟨rfl, hb7⟩
            have T7 := Lib.hid (T6.out.by_ hb7)
            clear hb7
            go_wp2_with fail
            go_roundw
            case rel => exact ⟨s + 1, nx.getD a 0, _, q2 + 1, _, c6, rfl, by go_num, rfl, by omega, hJ, by omega, UM2.out, HST.out, by rw [List.map_append]; exact T7.out⟩
            case measure => simp [intOf]; omega
    · obtain rfl : i = m := by omega
      have hr := HR.out
      rw [hv] at hr
      injection hr with hr
      have HL := Lib.hid (show k = R.2.length by have := ht.out.len; rw [iv_len] at this; rw [← hr]; exact this.symm)
      have HE := Lib.hid (show o = R.2 by rw [← hr])
      clear ht hv hr hvm
      go_wp2_with fail
      go_ret2
      exact ⟨A, k, c, HL.out, rfl, by rw [← HE.out]; exact T.out.out, T.out.below⟩

end Go.Proofs.YtghfhkbncjgaeaaGreat
