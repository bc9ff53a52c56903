/- The plane tree of a path and its leaves, by the reference. -/
import Derived.Test.YteiffomekjadgaaStaPl
import Derived.Test.YteiffomekjadgaaTwo
namespace Go.Proofs.Yteiffomekjadgaa
set_option linter.unusedVariables false
open Go.RowKit

set_option maxRecDepth 20000 in
set_option maxHeartbeats 2000000 in
theorem specPlaneOf_any (l : List UInt8) (w : World) (hd : dyck l = true) (ht : tpB l = true) :
    Calls Try.prog 68 #[.string (bs l)] w (RetIB w (plP l l.length) true) := by
  unfold RetIB
  obtain ⟨h16, hok, _⟩ := dyck_pathB hd
  have HD := Lib.hid hd
  have HT := Lib.hid ht
  have HO := Lib.hid hok
  have hl9 : l.length ≤ 1000000000 := by omega
  have HTP := Lib.hid (fun k => stk_top l k)
  have HPL := Lib.hid (plP_len l)
  have HUM := Lib.hid (fun k (h : k ≤ l.length) => ups_mono l h)
  have HUH := Lib.hid (show ups l l.length ≤ 16 by have := ups_hat l l.length; omega)
  clear hd ht hok
  go_enter Try.func68, Try.ntmps68
  go_wp2_with fail
  go_loopw [4, 5, 6] (fun s t i wr => ∃ (k q : Nat) (A1 : Option Addr) (c1 : Nat), k ≤ l.length ∧ i = .int .i64 k ∧ t = .int .i64 (tpS l k : Nat) ∧ s = .slice A1 q c1 ∧ q = ups l k + 1 ∧ Own wr 3 w.heap.size A1 q c1 (iv (plP l k)) ∧ Below w.heap.size w wr) (fun _ _ i _ => l.length - (intOf i).toNat)
  case atStart => exact ⟨0, 1, _, _, Nat.zero_le _, rfl, rfl, rfl, rfl, Own.lit w 3 #[.int .i64 (-1)] 1 rfl (by decide), (Below.refl _ _).alloc (Nat.le_refl _) _⟩
  case round =>
    obtain ⟨k, q, A1, c1, hk, rfl, rfl, rfl, hq, hown, hb⟩ := hrel
    have OW := Lib.hid hown
    have hs := hb.size
    have htp := (HTP.out k).2
    have huk := HUM.out k hk
    have hu16 := HUH.out
    have htq : tpS l k < q := by omega
    have hq17 : q ≤ 17 := by omega
    clear hown
    by_cases hlt : k < l.length
    · obtain ⟨ch, hc⟩ : ∃ c, l[k] = c := ⟨_, rfl⟩
      have HC := Lib.hid (show l[k]? = some ch by rw [List.getElem?_eq_getElem hlt, hc])
      by_cases hp : ch = 117
      · have e1 : (((l[k]'hlt).toNat : Int) == 117) = true := by rw [hc, hp]; rfl
        have hu : l[k]? = some 117 := by rw [HC.out, hp]
        have HN := Lib.hid (show plP l (k + 1) = plP l k ++ [(tpS l k : Int)] by rw [plP, if_pos hu])
        have HU := Lib.hid (show ups l (k + 1) = ups l k + 1 by rw [ups, if_pos hu])
        have HTN := Lib.hid (show tpS l (k + 1) = q by rw [tp_u hu, hq])
        have HQ := Lib.hid hq
        obtain ⟨x, hx⟩ : ∃ x, x = tpS l k := ⟨_, rfl⟩
        rw [← hx] at htp htq HN ⊢
        clear hc hp hu hx hq htp huk hu16
        go_wp2_with (first | (go_at_call 61; refine (specIsDyck_any l _ hl9).mono ?_; rintro e w' ⟨rfl, rfl⟩; rw [HD.out]) | (at_builtin; refine appI _ rfl _ _ rfl w.heap.size A1 q c1 _ rfl (OW.out.alloc _) wr.heap.size (x : Int) rfl (by simp) (by omega) hs ?_; intro A' c' w' hown' hg' hb'))
        have OW2 := Lib.hid (show Own w' 3 w.heap.size A' (q + 1) c' (iv (plP l (k + 1))) by rw [HN.out, iv_snoc]; exact hown')
        have hb2 := (hb.alloc hs _).trans hb'
        clear hown' hg' hb'
        go_wp2_with fail
        go_roundw
        case rel => exact ⟨k + 1, q + 1, A', c', by omega, by go_num, by rw [HTN.out], rfl, by rw [HU.out, ← HQ.out], OW2.out, hb2⟩
        case measure => simp [intOf]; omega
      · have e1 : (((l[k]'hlt).toNat : Int) == 117) = false := by rw [hc]; exact u8_ne hp
        have hu : ¬ l[k]? = some 117 := by rw [HC.out]; intro h; injection h with h; exact hp h
        have HN := Lib.hid (show plP l (k + 1) = plP l k by rw [plP, if_neg hu])
        have HU := Lib.hid (show ups l (k + 1) = ups l k by rw [ups, if_neg hu])
        have htd := tp_d HT.out hlt hu
        obtain ⟨g, y, hA, hgB, hgs, hy, hcy, hfy⟩ := OW.out.ati htq
        subst hA
        rw [htd] at hy
        injection hy with hy
        subst hy
        have HQ := Lib.hid hq
        obtain ⟨x, hx⟩ : ∃ x, x = tpS l k := ⟨_, rfl⟩
        rw [← hx] at htp htq hcy hfy ⊢
        have j0 : (0 : Int) ≤ (x : Int) := by omega
        have j1 : (x : Int) < (q : Int) := by omega
        clear hc hp hu hx hq htp huk hu16 htd
        go_wp2_with (go_at_call 61; refine (specIsDyck_any l _ hl9).mono ?_; rintro e w' ⟨rfl, rfl⟩; rw [HD.out])
        go_roundw
        case rel => exact ⟨k + 1, q, _, c1, by omega, by go_num, rfl, rfl, by rw [HU.out, ← HQ.out], by rw [HN.out]; exact OW.out, hb⟩
        case measure => simp [intOf]; omega
    · have hkl : k = l.length := by omega
      have HQ := Lib.hid (show q = (plP l l.length).length by rw [HPL.out, ← hkl, hq])
      have OWL := Lib.hid (show Own wr 3 w.heap.size A1 q c1 (iv (plP l l.length)) by rw [← hkl]; exact OW.out)
      obtain ⟨x, hx⟩ : ∃ x, x = tpS l k := ⟨_, rfl⟩
      rw [← hx]
      clear hkl hq htp huk hu16 hx htq
      go_wp2_with (go_at_call 61; refine (specIsDyck_any l _ hl9).mono ?_; rintro e w' ⟨rfl, rfl⟩; rw [HD.out])
      go_ret2
      exact ⟨A1, q, c1, HQ.out, rfl, OWL.out, hb⟩
set_option maxRecDepth 20000 in
set_option maxHeartbeats 2000000 in
theorem specIsPlane_ok (A : Option Addr) (n c : Nat) (xs : List Int) (w : World) (h : Rd w A n (iv xs)) (hp : PlOk xs n) :
    Calls Try.prog 105 #[.slice A n c] w fun e w' => e = .returned (.bool true) ∧ w = w' := by
  have HR := Lib.hid h
  have HP := Lib.hid hp
  have hn1 := hp.lo
  have hn9 := hp.hi
  clear h hp
  go_enter Try.func105, Try.ntmps105
  go_wp2_with fail
  go_loop [3, 4, 5] (fun i _ _ => ∃ k : Nat, k ≤ n ∧ i = .int .i64 k) (fun i _ _ => n - (intOf i).toNat)
  case atStart => exact ⟨0, Nat.zero_le _, rfl⟩
  case round =>
    obtain ⟨k, hk, rfl⟩ := hrel
    by_cases hlt : k < n
    · obtain ⟨bl, off, x, hA, hx, hcx⟩ := HR.out.ati hlt
      subst hA
      have j0 : (0 : Int) ≤ (k : Int) := by omega
      have j1 : (k : Int) < (n : Int) := by omega
      by_cases hk0 : k = 0
      · subst hk0
        have hx1 : x = -1 := by have := HP.out.root; rw [hx] at this; injection this
        subst hx1
        have hcx0 : w.cell? ⟨bl, off, none⟩ = some (.int .i64 (-1)) := hcx
        clear hx
        go_wp2_with fail
        go_loop [4, 5] (fun f v => f = .bool true ∧ v = .int .i64 (-1)) (fun _ _ => 0)
        case atStart => exact ⟨rfl, rfl⟩
        case round =>
          obtain ⟨rfl, rfl⟩ := hrel
          go_wp2_with fail
          go_round
          case rel => exact ⟨1, by omega, by go_num⟩
          case measure => simp [intOf]; omega
      · obtain ⟨y0, y1, y2⟩ := HP.out.par k x (by omega) hx
        have hin : inB x 0 ((k : Int) - 1) = true := inB_iff.2 (by omega)
        have HIN := Lib.hid hin
        have k0 : ((k : Int) == 0) = false := by rw [beq_eq_false_iff_ne]; omega
        have k1 : (0 : Int) < (k : Int) := by omega
        have HCH := Lib.hid y2
        clear hx hin y2 hk0
        go_wp2_with (go_at_call 91; refine (l1In_any _ _ _ _).mono ?_; rintro e w' ⟨rfl, rfl⟩; rw [HIN.out])
        go_loop [4, 5] (fun f v => ∃ (b : Bool) (z : Int), f = .bool b ∧ v = .int .i64 z ∧ -1 ≤ z ∧ z < k ∧ Hid (b = true ∨ ∃ (u F : Nat), z = (u : Int) ∧ onCh xs F u x = true)) (fun _ v => (intOf v + 1).toNat)
        case atStart => exact ⟨false, (k : Int) - 1, rfl, by go_num, by omega, by omega, Lib.hid (Or.inr ⟨k - 1, 10, by omega, HCH.out⟩)⟩
        case round =>
          obtain ⟨b, z, rfl, rfl, z0, z1, HZ⟩ := hrel
          by_cases hz : 0 ≤ z
          · obtain ⟨u, rfl⟩ := Int.eq_ofNat_of_zero_le hz
            have hun : u < n := by omega
            obtain ⟨bl', off', y, hA', hy, hcy⟩ := HR.out.ati hun
            cases hA'
            have hyb : -1 ≤ y ∧ y < u := by
              by_cases hu0 : u = 0
              · subst hu0
                have := HP.out.root
                rw [hy] at this
                injection this with this
                omega
              · have := HP.out.par u y (by omega) hy
                omega
            have HYG := Lib.hid (show xs.getD u 0 = y by rw [List.getD_eq_getElem?_getD, hy]; rfl)
            have HU0 := Lib.hid (show u ≠ 0 → 0 ≤ y from fun h => (HP.out.par u y (by omega) hy).1)
            have u1 : (u : Int) < (n : Int) := by omega
            clear hy
            by_cases hux : (u : Int) = x
            · have e1 : ((u : Int) == x) = true := by rw [beq_iff_eq]; exact hux
              clear hux
              rcases b with _ | _
              · go_wp2_with fail
                go_round
                case rel => exact ⟨true, y, rfl, rfl, by omega, by omega, Lib.hid (Or.inl rfl)⟩
                case measure => simp [intOf]; omega
              · go_wp2_with fail
                go_round
                case rel => exact ⟨true, y, rfl, rfl, by omega, by omega, Lib.hid (Or.inl rfl)⟩
                case measure => simp [intOf]; omega
            · have e1 : ((u : Int) == x) = false := by rw [beq_eq_false_iff_ne]; exact hux
              have HUX := Lib.hid hux
              clear hux
              rcases b with _ | _
              · have HN := Lib.hid (show ∃ (u F : Nat), y = (u : Int) ∧ onCh xs F u x = true by
                  rcases HZ.out with h | ⟨u', F, h1, h2⟩
                  · cases h
                  · obtain rfl : u = u' := by omega
                    obtain ⟨h3, G, h4⟩ := onCh_step h2 HUX.out
                    rw [HYG.out] at h4
                    exact ⟨y.toNat, G, by have := HU0.out h3; omega, h4⟩)
                go_wp2_with fail
                go_round
                case rel => exact ⟨false, y, rfl, rfl, by omega, by omega, Lib.hid (Or.inr HN.out)⟩
                case measure => simp [intOf]; omega
              · go_wp2_with fail
                go_round
                case rel => exact ⟨true, y, rfl, rfl, by omega, by omega, Lib.hid (Or.inl rfl)⟩
                case measure => simp [intOf]; omega
          · have hbt : b = true := by
              rcases HZ.out with h | ⟨u', F, h1, _⟩
              · exact h
              · omega
            subst hbt
            go_wp2_with fail
            go_round
            case rel => exact ⟨k + 1, by omega, by go_num⟩
            case measure => simp [intOf]; omega
    · obtain rfl : k = n := by omega
      have HIN := Lib.hid (show inB (k : Int) 1 9 = true from inB_iff.2 (by omega))
      go_wp2_with (go_at_call 91; refine (l1In_any _ _ _ _).mono ?_; rintro e w' ⟨rfl, rfl⟩; rw [HIN.out])
      go_ret
      exact ⟨rfl, rfl⟩
set_option maxRecDepth 20000 in
set_option maxHeartbeats 2000000 in
theorem specChildrenOf_ok (A : Option Addr) (n c v : Nat) (xs : List Int) (w : World) (h : Rd w A n (iv xs)) (hp : PlOk xs n) :
    Calls Try.prog 106 #[.slice A n c, .int .i64 v] w (RetI w (chP xs v n)) := by
  unfold RetI
  have HR := Lib.hid h
  have HP := Lib.hid hp
  have hn1 := hp.lo
  have hn9 := hp.hi
  have HC1 := Lib.hid (chP_1 hp v)
  have v0 : (0 : Int) ≤ (v : Int) := by omega
  clear h hp
  go_enter Try.func106, Try.ntmps106
  go_wp2_with fail
  go_loopw [5, 6] (fun s i wr => ∃ (k q : Nat) (A1 : Option Addr) (c1 : Nat), 1 ≤ k ∧ k ≤ n ∧ i = .int .i64 k ∧ s = .slice A1 q c1 ∧ q ≤ k ∧ Own wr 3 w.heap.size A1 q c1 (iv (chP xs v k)) ∧ Below w.heap.size w wr) (fun _ i _ => n - (intOf i).toNat)
  case atStart => exact ⟨1, 0, _, _, Nat.le_refl _, hn1, rfl, rfl, by omega, by rw [HC1.out]; exact own_empty w, (Below.refl _ _).alloc (Nat.le_refl _) _⟩
  case round =>
    obtain ⟨k, q, A1, c1, hk1, hk, rfl, rfl, hqk, hown, hb⟩ := hrel
    have OW := Lib.hid hown
    have hs := hb.size
    have HRW := Lib.hid (HR.out.below hb)
    clear hown
    by_cases hlt : k < n
    · obtain ⟨bl, off, x, hA, hx, hcx⟩ := HRW.out.ati hlt
      subst hA
      have j0 : (0 : Int) ≤ (k : Int) := by omega
      have j1 : (k : Int) < (n : Int) := by omega
      have HXG := Lib.hid (show xs.getD k 0 = x by rw [List.getD_eq_getElem?_getD, hx]; rfl)
      clear hx
      by_cases hxv : x = (v : Int)
      · have e1 : (x == (v : Int)) = true := by rw [beq_iff_eq]; exact hxv
        have HN := Lib.hid (show chP xs v (k + 1) = chP xs v k ++ [(k : Int)] by rw [chP, HXG.out, if_pos hxv])
        clear hxv
        go_wp2_with (first | (go_at_call 105; refine (specIsPlane_ok _ _ _ xs _ HRW.out HP.out).mono ?_; rintro e w' ⟨rfl, rfl⟩) | (at_builtin; refine appI _ rfl _ _ rfl w.heap.size A1 q c1 _ rfl (OW.out.alloc _) wr.heap.size (k : Int) rfl (by simp) (by omega) hs ?_; intro A' c' w' hown' hg' hb'))
        have OW2 := Lib.hid (show Own w' 3 w.heap.size A' (q + 1) c' (iv (chP xs v (k + 1))) by rw [HN.out, iv_snoc]; exact hown')
        have hb2 := (hb.alloc hs _).trans hb'
        clear hown' hg' hb'
        go_wp2_with fail
        go_roundw
        case rel => exact ⟨k + 1, q + 1, A', c', by omega, by omega, by go_num, rfl, by omega, OW2.out, hb2⟩
        case measure => simp [intOf]; omega
      · have e1 : (x == (v : Int)) = false := by rw [beq_eq_false_iff_ne]; exact hxv
        have HN := Lib.hid (show chP xs v (k + 1) = chP xs v k by rw [chP, HXG.out, if_neg hxv])
        clear hxv
        go_wp2_with (go_at_call 105; refine (specIsPlane_ok _ _ _ xs _ HRW.out HP.out).mono ?_; rintro e w' ⟨rfl, rfl⟩)
        go_roundw
        case rel => exact ⟨k + 1, q, A1, c1, by omega, by omega, by go_num, rfl, by omega, by rw [HN.out]; exact OW.out, hb⟩
        case measure => simp [intOf]; omega
    · obtain rfl : k = n := by omega
      have HL := Lib.hid (show q = (chP xs v k).length by have := OW.out.len; rw [iv_len] at this; exact this.symm)
      go_wp2_with (go_at_call 105; refine (specIsPlane_ok _ _ _ xs _ HRW.out HP.out).mono ?_; rintro e w' ⟨rfl, rfl⟩)
      go_ret
      exact ⟨A1, q, c1, HL.out, rfl, OW.out, hb⟩
set_option maxRecDepth 20000 in
set_option maxHeartbeats 2000000 in
theorem specLeavesOf_ok (A : Option Addr) (n c : Nat) (xs : List Int) (w : World) (h : Rd w A n (iv xs)) (hp : PlOk xs n) :
    Calls Try.prog 69 #[.slice A n c] w fun e w' => e = .returned (.int .i64 (lvP xs n)) ∧ Below w.heap.size w w' := by
  have HR := Lib.hid h
  have HP := Lib.hid hp
  have hn1 := hp.lo
  have hn9 := hp.hi
  have HPL := Lib.hid hp.len
  clear h hp
  go_enter Try.func69, Try.ntmps69
  go_wp2_with fail
  go_loopw [3, 4] (fun s i wr => ∃ (k : Nat), k ≤ n ∧ i = .int .i64 k ∧ s = .int .i64 (lvP xs k : Nat) ∧ Below w.heap.size w wr) (fun _ i _ => n - (intOf i).toNat)
  case atStart => exact ⟨0, Nat.zero_le _, rfl, rfl, Below.refl _ _⟩
  case round =>
    obtain ⟨k, hk, rfl, rfl, hb⟩ := hrel
    have hs := hb.size
    have HRW := Lib.hid (HR.out.below hb)
    have hlv := lvP_le xs k
    obtain ⟨V, hV⟩ : ∃ V, V = lvP xs k := ⟨_, rfl⟩
    rw [← hV] at hlv ⊢
    have HV := Lib.hid hV
    clear hV
    by_cases hlt : k < n
    · have HN := Lib.hid (show lvP xs (k + 1) = if (chP xs k n).length = 0 then V + 1 else V by rw [lvP, HPL.out, HV.out])
      have HCL := Lib.hid (chP_len xs k n)
      go_wp2_with (go_at_call 105; refine (specIsPlane_ok _ _ _ xs _ HRW.out HP.out).mono ?_; rintro e w' ⟨rfl, rfl⟩)
      refine (specChildrenOf_ok _ _ _ k xs _ HRW.out HP.out).mono ?_
      rintro e w2 ⟨A2, q2, c2, hq2, rfl, hown, hb2⟩
      have hb3 := hb.trans (hb2.mono hs)
      rw [← hq2] at HN HCL
      have hq9 : q2 ≤ n := HCL.out
      clear hown hb2 hq2
      by_cases hq0 : q2 = 0
      · have e1 : ((q2 : Int) == 0) = true := by rw [beq_iff_eq]; omega
        have HQ := Lib.hid hq0
        clear hq0
        go_wp2_with fail
        go_roundw
        case rel => exact ⟨k + 1, by omega, by go_num, by rw [HN.out, if_pos HQ.out]; go_num, hb3⟩
        case measure => simp [intOf]; omega
      · have e1 : ((q2 : Int) == 0) = false := by rw [beq_eq_false_iff_ne]; omega
        have HQ := Lib.hid hq0
        clear hq0
        go_wp2_with fail
        go_roundw
        case rel => exact ⟨k + 1, by omega, by go_num, by rw [HN.out, if_neg HQ.out], hb3⟩
        case measure => simp [intOf]; omega
    · obtain rfl : k = n := by omega
      go_wp2_with (go_at_call 105; refine (specIsPlane_ok _ _ _ xs _ HRW.out HP.out).mono ?_; rintro e w' ⟨rfl, rfl⟩)
      go_ret
      exact ⟨ret_int (by rw [HV.out]), hb⟩

end Go.Proofs.Yteiffomekjadgaa
