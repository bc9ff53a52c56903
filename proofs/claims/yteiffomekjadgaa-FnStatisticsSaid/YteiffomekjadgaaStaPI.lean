/- The plane tree of a path and its leaves, by the program. -/
import Derived.Test.YteiffomekjadgaaStaPS
namespace Go.Proofs.Yteiffomekjadgaa
set_option linter.unusedVariables false
open Go.RowKit

/-- Two slices of ints of the call's own that grow, apart. -/
structure Tw2 (w0 wr : World) (A1 : Option Addr) (q1 c1 : Nat) (xs : List Int) (A2 : Option Addr) (q2 c2 : Nat) (ys : List Int) : Prop where
  a : Own wr 3 w0.heap.size A1 q1 c1 (iv xs)
  b : Own wr 3 w0.heap.size A2 q2 c2 (iv ys)
  apart : ∀ g, Value.ownBlock (.slice A1 q1 c1) = some g → Value.ownBlock (.slice A2 q2 c2) ≠ some g
  below : Below w0.heap.size w0 wr
section
variable {w0 wr w' : World} {A1 A2 : Option Addr} {q1 c1 q2 c2 : Nat} {xs ys : List Int}
theorem Tw2.symm (h : Tw2 w0 wr A1 q1 c1 xs A2 q2 c2 ys) : Tw2 w0 wr A2 q2 c2 ys A1 q1 c1 xs := ⟨h.b, h.a, fun g h1 h2 => h.apart g h2 h1, h.below⟩
theorem Tw2.grow {g' c' : Nat} {x : Int} {zs : List Int} (ow : Obj) (h : Tw2 w0 wr A1 q1 c1 xs A2 q2 c2 ys) (ho : Own w' 3 w0.heap.size (some ⟨g', 0, none⟩) (q1 + 1) c' (iv xs ++ [.int .i64 x])) (hz : zs = xs ++ [x]) (hg : (wr.alloc ow).grownBy w' (Value.ownBlock (.slice A1 q1 c1))) (hb : Below w0.heap.size (wr.alloc ow) w')
    (hat : Value.ownBlock (.slice A1 q1 c1) = some g' ∨ g' = (wr.alloc ow).heap.size) : Tw2 w0 w' (some ⟨g', 0, none⟩) (q1 + 1) c' zs A2 q2 c2 ys where
  a := by rw [hz, iv_snoc]; exact ho
  b := (h.b.alloc _).grown hg (fun g hA => fun h1 => h.apart g h1 (by rw [hA]; rfl))
  apart g h1 h2 := by
    have e : g' = g := by simpa [Value.ownBlock] using h1
    subst e
    rcases hat with hat | hat
    · exact h.apart g' hat h2
    · have := (h.b.blk g' h2).2
      simp at hat
      omega
  below := (h.below.alloc h.below.size _).trans hb
theorem Tw2.pop {p : Nat} (h : Tw2 w0 wr A1 q1 c1 xs A2 q2 c2 ys) (hp : p ≤ q2) : Tw2 w0 wr A1 q1 c1 xs A2 p c2 (ys.take p) :=
  ⟨h.a, by rw [← iv_take]; exact h.b.front hp, fun g h1 h2 => by
    apply h.apart g h1
    rcases h.b.form with ⟨rfl, _⟩ | ⟨g0, rfl, _⟩
    · cases h2
    · exact h2, h.below⟩
end
set_option maxRecDepth 20000 in
set_option maxHeartbeats 2000000 in
theorem implPlaneOf_any (l : List UInt8) (w : World) (hd : dyck l = true) :
    Calls Try.prog 56 #[.string (bs l)] w (RetIB w (plP l l.length) true) := by
  unfold RetIB
  obtain ⟨h16, hok, _⟩ := dyck_pathB hd
  have HD := Lib.hid hd
  have HO := Lib.hid hok
  have hl9 : l.length ≤ 1000000000 := by omega
  have HTP := Lib.hid (fun k => stk_top l k)
  have HPL := Lib.hid (plP_len l)
  have HUM := Lib.hid (fun k (h : k ≤ l.length) => ups_mono l h)
  have HUH := Lib.hid (show ups l l.length ≤ 16 by have := ups_hat l l.length; omega)
  have HSL := Lib.hid (fun k (h : k ≤ l.length) => stkS_len (okB_mono hok h))
  clear hd hok
  go_enter Try.func56, Try.ntmps56
  go_wp2_with fail
  refine (implIsDyck_any l _ hl9).mono ?_
  rintro e w1 ⟨rfl, hb1⟩
  rw [HD.out]
  have hs1 := hb1.size
  have T0 := Lib.hid (show Tw2 w ((w1.alloc (.cells #[.int .i64 (-1)] 3)).alloc (.cells #[.int .i64 0] 3)) (some ⟨w1.heap.size, 0, none⟩) 1 1 [-1] (some ⟨w1.heap.size + 1, 0, none⟩) 1 1 [0] from
    ⟨((Own.lit w1 3 #[.int .i64 (-1)] 1 rfl (by decide)).mono hs1).alloc _,
     by
      have h := Own.lit (w1.alloc (.cells #[.int .i64 (-1)] 3)) 3 #[.int .i64 0] 1 rfl (by decide)
      rw [show (w1.alloc (.cells #[.int .i64 (-1)] 3)).heap.size = w1.heap.size + 1 by simp] at h
      exact h.mono (by omega),
     fun g h1 h2 => by
      have e1 : w1.heap.size = g := by simpa [Value.ownBlock] using h1
      have e2 : w1.heap.size + 1 = g := by simpa [Value.ownBlock] using h2
      omega,
     (hb1.alloc hs1 _).alloc (by simp; omega) _⟩)
  clear hb1
  go_wp2_with fail
  go_loopw [4, 5, 6] (fun s t i wr => ∃ (k q1 : Nat) (A1 : Option Addr) (c1 q2 : Nat) (A2 : Option Addr) (c2 : Nat), k ≤ l.length ∧ i = .int .i64 k ∧ s = .slice A1 q1 c1 ∧ t = .slice A2 q2 c2 ∧ q1 = ups l k + 1 ∧ q2 = (stkS l k).length ∧ Tw2 w wr A1 q1 c1 (plP l k) A2 q2 c2 (stkS l k)) (fun _ _ i _ => l.length - (intOf i).toNat)
  case atStart => exact ⟨0, 1, _, _, 1, _, _, Nat.zero_le _, rfl, rfl, rfl, rfl, rfl, T0.out⟩
  case round =>
    obtain ⟨k, q1, A1, c1, q2, A2, c2, hk, rfl, rfl, rfl, hq1, hq2, ht⟩ := hrel
    have T := Lib.hid ht
    have hs := ht.below.size
    have huk := HUM.out k hk
    have hu16 := HUH.out
    have hq17 : q1 ≤ 17 := by omega
    have hq27 : q2 ≤ 17 := by have h1 := HSL.out k hk; have h2 := hat_bd l k; omega
    have hq21 : 1 ≤ q2 := by have h1 := HSL.out k hk; omega
    have HQ1 := Lib.hid hq1
    have HQ2 := Lib.hid hq2
    clear hq1 huk hu16
    by_cases hlt : k < l.length
    · obtain ⟨ch, hc⟩ : ∃ c, l[k] = c := ⟨_, rfl⟩
      have HC := Lib.hid (show l[k]? = some ch by rw [List.getElem?_eq_getElem hlt, hc])
      have HOK := Lib.hid (okB_mono HO.out hk)
      by_cases hp : ch = 100
      · have e1 : (((l[k]'hlt).toNat : Int) == 100) = true := by rw [hc, hp]; rfl
        have hu : ¬ l[k]? = some 117 := by rw [HC.out, hp]; decide
        have hd1 : 1 ≤ hat l k := by
          have h1 := okB_nn (okB_mono HO.out (show k + 1 ≤ l.length by omega))
          rw [hat_d HC.out (by rw [hp]; decide)] at h1
          omega
        have HN := Lib.hid (show plP l (k + 1) = plP l k by rw [plP, if_neg hu])
        have HU := Lib.hid (show ups l (k + 1) = ups l k by rw [ups, if_neg hu])
        have HSN := Lib.hid (show stkS l (k + 1) = (stkS l k).take (q2 - 1) by rw [stkS_d HOK.out hu hd1, ← hq2])
        have HL2 := Lib.hid (show q2 - 1 = (stkS l (k + 1)).length by rw [HSN.out, List.length_take, ← hq2]; omega)
        have T2 := Lib.hid (T.out.pop (show q2 - 1 ≤ q2 by omega))
        have hqc := own_capT T.out.b
        have i1 : (0 : Int) ≤ (q2 : Int) - 1 := by omega
        have i3 : ((q2 : Int) - 1).toNat = q2 - 1 := by omega
        have i7 : (q2 : Int) - 1 ≤ (c2 : Int) := by omega
        have i4 : ((q2 - 1 : Nat) : Int) = (q2 : Int) - 1 := by omega
        clear hc hp hu hd1 ht hq2
        go_wp2_with fail
        go_roundw
        case rel => exact ⟨k + 1, q1, A1, c1, q2 - 1, A2, c2, by omega, by go_num, rfl, rfl, by rw [HU.out]; exact HQ1.out, HL2.out, by rw [HN.out, HSN.out]; exact T2.out⟩
        case measure => simp [intOf]; omega
      · have e1 : (((l[k]'hlt).toNat : Int) == 100) = false := by rw [hc]; exact u8_ne hp
        have hu : l[k]? = some 117 := by
          rcases dk_let HD.out hlt with h | h
          · exact h
          · rw [HC.out] at h; injection h with h; exact absurd h hp
        obtain ⟨h1, h2⟩ := HTP.out k
        obtain ⟨g, y, hA, hgB, hgs, hy, hcy, hfy⟩ := ht.b.ati (show q2 - 1 < q2 by omega)
        subst hA
        rw [hq2, h1] at hy
        injection hy with hy
        subst hy
        have HN := Lib.hid (show plP l (k + 1) = plP l k ++ [(tpS l k : Int)] by rw [plP, if_pos hu])
        have HU := Lib.hid (show ups l (k + 1) = ups l k + 1 by rw [ups, if_pos hu])
        have HSN := Lib.hid (show stkS l (k + 1) = stkS l k ++ [(q1 : Int)] by rw [stkS_u hu, HQ1.out])
        obtain ⟨x, hx⟩ : ∃ x, x = tpS l k := ⟨_, rfl⟩
        rw [← hx] at HN hcy h2
        have i1 : (0 : Int) ≤ (q2 : Int) - 1 := by omega
        have i2 : (q2 : Int) - 1 < (q2 : Int) := by omega
        have i3 : ((q2 : Int) - 1).toNat = q2 - 1 := by omega
        have hx16 : x ≤ 1000 := by have := HQ1.out; omega
        clear hc hp hu ht hq2 h1 hx h2
        go_wp2_with (first | (at_builtin; refine appIL _ rfl _ _ rfl w.heap.size A1 q1 c1 _ rfl (T.out.a.alloc _) wr.heap.size (x : Int) rfl (by simp) (by omega) hs ?_; intro g6 c6 w6 hown6 hgr6 hb6 hat6; have T6 := Lib.hid (T.out.grow _ hown6 HN.out hgr6 hb6 hat6); have hs6 := T6.out.below.size; clear hown6 hgr6 hb6 hat6) | (at_builtin; refine appIL _ rfl _ _ rfl w.heap.size _ q2 c2 _ rfl (T6.out.b.alloc _) w6.heap.size (q1 : Int) rfl (by simp) (by omega) hs6 ?_; intro g7 c7 w7 hown7 hgr7 hb7 hat7; have T7 := Lib.hid ((T6.out.symm.grow _ hown7 HSN.out hgr7 hb7 hat7).symm); clear hown7 hgr7 hb7 hat7))
        go_roundw
        case rel => exact ⟨k + 1, q1 + 1, _, c6, q2 + 1, _, c7, by omega, by go_num, rfl, rfl, by rw [HU.out, HQ1.out], by rw [HSN.out, List.length_append, ← HQ2.out]; rfl, T7.out⟩
        case measure => simp [intOf]; omega
    · have hkl : k = l.length := by omega
      have HQ := Lib.hid (show q1 = (plP l l.length).length by rw [HPL.out, ← hkl]; exact HQ1.out)
      have OWL := Lib.hid (show Own wr 3 w.heap.size A1 q1 c1 (iv (plP l l.length)) by rw [← hkl]; exact T.out.a)
      clear hkl ht hq2
      go_wp2_with fail
      go_ret2
      exact ⟨A1, q1, c1, HQ.out, rfl, OWL.out, T.out.below⟩
set_option maxRecDepth 20000 in
set_option maxHeartbeats 2000000 in
theorem implIsPlane_ok (A : Option Addr) (n c : Nat) (xs : List Int) (w : World) (h : Rd w A n (iv xs)) (hp : PlOk xs n) :
    Calls Try.prog 99 #[.slice A n c] w fun e w' => e = .returned (.bool true) ∧ w = w' := by
  have HR := Lib.hid h
  have HP := Lib.hid hp
  have hn1 := hp.lo
  have hn9 := hp.hi
  have HIN := Lib.hid (show inB (n : Int) 1 9 = true from inB_iff.2 (by omega))
  obtain ⟨bl0, off0, x0, hA0, hx0, hcx0⟩ := h.ati (show 0 < n by omega)
  subst hA0
  have hx1 : x0 = -1 := by have := hp.root; rw [hx0] at this; injection this
  subst hx1
  have hc0 : w.cell? ⟨bl0, off0, none⟩ = some (.int .i64 (-1)) := hcx0
  have n0 : (0 : Int) < (n : Int) := by omega
  clear h hp hx0 hcx0
  go_enter Try.func99, Try.ntmps99
  go_wp2_with (go_at_call 74; refine (within_any _ _ _ _).mono ?_; rintro e w' ⟨rfl, rfl⟩; rw [HIN.out])
  go_loop [3, 4] (fun i _ => ∃ k : Nat, 1 ≤ k ∧ k ≤ n ∧ i = .int .i64 k) (fun i _ => n - (intOf i).toNat)
  case atStart => exact ⟨1, Nat.le_refl _, hn1, rfl⟩
  case round =>
    obtain ⟨k, hk1, hk, rfl⟩ := hrel
    by_cases hlt : k < n
    · obtain ⟨bl, off, x, hA, hx, hcx⟩ := HR.out.ati hlt
      cases hA
      obtain ⟨y0, y1, y2⟩ := HP.out.par k x (by omega) hx
      have j0 : (0 : Int) ≤ (k : Int) := by omega
      have j1 : (k : Int) < (n : Int) := by omega
      have HCH := Lib.hid y2
      clear hx y2
      go_wp2_with fail
      go_loop [4] (fun v => ∃ (u F : Nat), v = .int .i64 u ∧ u < k ∧ Hid (onCh xs F u x = true)) (fun v => (intOf v + 1).toNat)
      case atStart => exact ⟨k - 1, 10, by go_num, by omega, HCH⟩
      case round =>
        obtain ⟨u, F, rfl, huk, HZ⟩ := hrel
        have u0 : (0 : Int) ≤ (u : Int) := by omega
        have u1 : (u : Int) < (n : Int) := by omega
        by_cases hux : (u : Int) = x
        · have e1 : ((u : Int) != x) = false := by rw [hux]; simp
          have nn : ¬ (u : Int) < 0 := by omega
          clear hux
          go_wp2_with fail
          go_round
          case rel => exact ⟨k + 1, by omega, by omega, by go_num⟩
          case measure => simp [intOf]; omega
        · have e1 : ((u : Int) != x) = true := by rw [bne_iff_ne]; exact hux
          obtain ⟨h3, G, h4⟩ := onCh_step HZ.out hux
          obtain ⟨bl', off', y, hA', hy, hcy⟩ := HR.out.ati (show u < n by omega)
          cases hA'
          obtain ⟨p0, p1, _⟩ := HP.out.par u y (by omega) hy
          have hg : xs.getD u 0 = y := by rw [List.getD_eq_getElem?_getD, hy]; rfl
          rw [hg] at h4
          obtain ⟨Y, rfl⟩ := Int.eq_ofNat_of_zero_le p0
          have HG := Lib.hid (show onCh xs G Y x = true from h4)
          have hYu : Y < u := by omega
          clear hux hy hg h4 h3
          go_wp2_with fail
          go_round
          case rel => exact ⟨Y, G, rfl, by omega, HG⟩
          case measure => simp [intOf]; omega
    · obtain rfl : k = n := by omega
      go_wp2_with fail
      go_ret
      exact ⟨rfl, rfl⟩
set_option maxRecDepth 20000 in
set_option maxHeartbeats 2000000 in
theorem implChildrenOf_ok (A : Option Addr) (n c v : Nat) (xs : List Int) (w : World) (h : Rd w A n (iv xs)) (hp : PlOk xs n) :
    Calls Try.prog 100 #[.slice A n c, .int .i64 v] w (RetI w (chP xs v n)) := by
  unfold RetI
  have HR := Lib.hid h
  have HP := Lib.hid hp
  have hn1 := hp.lo
  have hn9 := hp.hi
  have v0 : (0 : Int) ≤ (v : Int) := by omega
  clear h hp
  go_enter Try.func100, Try.ntmps100
  have HRA := Lib.hid (HR.out.below ((Below.refl w.heap.size w).alloc (Nat.le_refl _) (.cells #[] 3)))
  go_wp2_with (go_at_call 99; refine (implIsPlane_ok _ _ _ xs _ HRA.out HP.out).mono ?_; rintro e w' ⟨rfl, rfl⟩)
  go_loopw [5, 6, 7, 19] (fun s _ _ i wr => ∃ (k q : Nat) (A1 : Option Addr) (c1 : Nat), k ≤ n ∧ i = .int .i64 k ∧ s = .slice A1 q c1 ∧ q ≤ k ∧ Own wr 3 w.heap.size A1 q c1 (iv (chP xs v k)) ∧ Below w.heap.size w wr) (fun _ _ _ i _ => n - (intOf i).toNat)
  case atStart => exact ⟨0, 0, _, _, Nat.zero_le _, rfl, rfl, by omega, own_empty w, (Below.refl _ _).alloc (Nat.le_refl _) _⟩
  case round =>
    obtain ⟨k, q, A1, c1, hk, rfl, rfl, hqk, hown, hb⟩ := hrel
    have OW := Lib.hid hown
    have hs := hb.size
    have HRW := Lib.hid (HR.out.below hb)
    clear hown
    by_cases hlt : k < n
    · obtain ⟨bl, off, x, hA, hx, hcx⟩ := HRW.out.ati hlt
      subst hA
      have j0 : (0 : Int) ≤ (k : Int) := by omega
      have j1 : (k : Int) < (n : Int) := by omega
      have HXG := Lib.hid (show xs.getD k 0 = x by rw [List.getD_eq_getElem?_getD, hx]; rfl)
      clear hx
      by_cases hxv : x = (v : Int)
      · have e1 : (x == (v : Int)) = true := by rw [beq_iff_eq]; exact hxv
        have HN := Lib.hid (show chP xs v (k + 1) = chP xs v k ++ [(k : Int)] by rw [chP, HXG.out, if_pos hxv])
        clear hxv
        go_wp2_with ((at_builtin; refine appI _ rfl _ _ rfl w.heap.size A1 q c1 _ rfl (OW.out.alloc _) wr.heap.size (k : Int) rfl (by simp) (by omega) hs ?_; intro A' c' w' hown' hg' hb'))
        have OW2 := Lib.hid (show Own w' 3 w.heap.size A' (q + 1) c' (iv (chP xs v (k + 1))) by rw [HN.out, iv_snoc]; exact hown')
        have hb2 := (hb.alloc hs _).trans hb'
        clear hown' hg' hb'
        go_wp2_with fail
        go_roundw
        case rel => exact ⟨k + 1, q + 1, A', c', by omega, by go_num, rfl, by omega, OW2.out, hb2⟩
        case measure => simp [intOf]; omega
      · have e1 : (x == (v : Int)) = false := by rw [beq_eq_false_iff_ne]; exact hxv
        have HN := Lib.hid (show chP xs v (k + 1) = chP xs v k by rw [chP, HXG.out, if_neg hxv])
        clear hxv
        go_wp2_with fail
        go_roundw
        case rel => exact ⟨k + 1, q, A1, c1, by omega, by go_num, rfl, by omega, by rw [HN.out]; exact OW.out, hb⟩
        case measure => simp [intOf]; omega
    · obtain rfl : k = n := by omega
      have HL := Lib.hid (show q = (chP xs v k).length by have := OW.out.len; rw [iv_len] at this; exact this.symm)
      go_wp2_with fail
      go_ret
      exact ⟨A1, q, c1, HL.out, rfl, OW.out, hb⟩
set_option maxRecDepth 20000 in
set_option maxHeartbeats 2000000 in
theorem implLeavesOf_ok (A : Option Addr) (n c : Nat) (xs : List Int) (w : World) (h : Rd w A n (iv xs)) (hp : PlOk xs n) :
    Calls Try.prog 57 #[.slice A n c] w fun e w' => e = .returned (.int .i64 (lvP xs n)) ∧ Below w.heap.size w w' := by
  have HR := Lib.hid h
  have HP := Lib.hid hp
  have hn1 := hp.lo
  have hn9 := hp.hi
  have HPL := Lib.hid hp.len
  clear h hp
  go_enter Try.func57, Try.ntmps57
  go_wp2_with fail
  go_loopw [3, 4, 7] (fun s _ i wr => ∃ (k : Nat), k ≤ n ∧ i = .int .i64 k ∧ s = .int .i64 (lvP xs k : Nat) ∧ Below w.heap.size w wr) (fun _ _ i _ => n - (intOf i).toNat)
  case atStart => exact ⟨0, Nat.zero_le _, rfl, rfl, Below.refl _ _⟩
  case round =>
    obtain ⟨k, hk, rfl, rfl, hb⟩ := hrel
    have hs := hb.size
    have HRW := Lib.hid (HR.out.below hb)
    have hlv := lvP_le xs k
    obtain ⟨V, hV⟩ : ∃ V, V = lvP xs k := ⟨_, rfl⟩
    rw [← hV] at hlv ⊢
    have HV := Lib.hid hV
    clear hV
    by_cases hlt : k < n
    · have HN := Lib.hid (show lvP xs (k + 1) = if (chP xs k n).length = 0 then V + 1 else V by rw [lvP, HPL.out, HV.out])
      have HCL := Lib.hid (chP_len xs k n)
      go_wp2_with (go_at_call 99; refine (implIsPlane_ok _ _ _ xs _ HRW.out HP.out).mono ?_; rintro e w' ⟨rfl, rfl⟩)
      refine (implChildrenOf_ok _ _ _ k xs _ HRW.out HP.out).mono ?_
      rintro e w2 ⟨A2, q2, c2, hq2, rfl, hown, hb2⟩
      have hb3 := hb.trans (hb2.mono hs)
      rw [← hq2] at HN HCL
      have hq9 : q2 ≤ n := HCL.out
      clear hown hb2 hq2
      by_cases hq0 : q2 = 0
      · have e1 : ((q2 : Int) == 0) = true := by rw [beq_iff_eq]; omega
        have HQ := Lib.hid hq0
        clear hq0
        go_wp2_with fail
        go_roundw
        case rel => exact ⟨k + 1, by omega, by go_num, by rw [HN.out, if_pos HQ.out]; go_num, hb3⟩
        case measure => simp [intOf]; omega
      · have e1 : ((q2 : Int) == 0) = false := by rw [beq_eq_false_iff_ne]; omega
        have HQ := Lib.hid hq0
        clear hq0
        go_wp2_with fail
        go_roundw
        case rel => exact ⟨k + 1, by omega, by go_num, by rw [HN.out, if_neg HQ.out], hb3⟩
        case measure => simp [intOf]; omega
    · obtain rfl : k = n := by omega
      go_wp2_with fail
      go_ret
      exact ⟨ret_int (by rw [HV.out]), hb⟩

end Go.Proofs.Yteiffomekjadgaa
