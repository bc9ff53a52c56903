/- Texts that are drawn. -/
import Derived.Test.YteiffomekjadgaaDraw2
import Derived.Test.YteiffomekjadgaaAppB
namespace Go.Proofs.Yteiffomekjadgaa
set_option linter.unusedVariables false
set_option linter.unusedSimpArgs false
open Go.RowKit

set_option maxHeartbeats 2000000 in
theorem l2Path_any (g : Nat) (A : Option Addr) (n c : Nat) (zs : List Int) (w : World) (h : Cur w g A n c zs) :
    Calls Try.prog 94 #[.pointer (some ⟨g, 0, none⟩)] w (RetDS (fun l => dyck l = true ∧ l.length ≤ 12 ∧ ∃ m, m ≤ 6 ∧ l ∈ paths m) g A n c zs w) := by
  have HC := Lib.hid h
  clear h
  go_enter Try.func94, Try.ntmps94
  go_wp2_with fail
  refine (l1Below_any 7 (by omega) (by omega) _ _ _ _ _ _ HC.out).mono ?_
  rintro e w1 ⟨x, hx0, hx1, rfl, hc, ho⟩
  have C1 := Lib.hid hc
  have O1 := Lib.hid ho
  obtain ⟨m, rfl⟩ := Int.eq_ofNat_of_zero_le hx0
  have hm : m ≤ 6 := by omega
  clear hc ho hx0 hx1
  go_wp2_with fail
  refine (l2Draw_any m (by omega) _ _ _ _ _ _ C1.out).mono ?_
  rintro e w2 ⟨l, ⟨hd, hl, hmm⟩, rfl, hc, ho⟩
  have C2 := Lib.hid hc
  have O2 := Lib.hid (O1.out.trans ho)
  have HP := Lib.hid (show dyck l = true ∧ l.length ≤ 12 ∧ ∃ m, m ≤ 6 ∧ l ∈ paths m from ⟨hd, by omega, m, hm, hmm⟩)
  clear hc ho hd hl hmm
  go_wp2_with fail
  go_ret
  exact ⟨l, HP.out, rfl, C2.out, O2.out⟩

set_option maxRecDepth 20000 in
set_option maxHeartbeats 4000000 in
theorem l1Text_any (m : Nat) (hm : m ≤ 100) (g : Nat) (A : Option Addr) (n c : Nat) (zs : List Int) (w : World) (h : Cur w g A n c zs) :
    Calls Try.prog 116 #[.pointer (some ⟨g, 0, none⟩), .int .i64 m] w (RetDS (fun l => l.length ≤ m) g A n c zs w) := by
  have HC := Lib.hid (h.below ((Below.refl w.heap.size w).alloc (Nat.le_refl _) (.cells #[] 5)))
  have hg := h.lt
  have HA := Lib.hid h.rd.lt
  have hwm : IntKind.i64.wrap ((m : Int) + 1) = (m : Int) + 1 := IntWalk.i64_in _ (by omega)
  have HO0 := Lib.hid (own_emptyB w)
  have HON := Lib.hid (show Only g (g + 1) w (w.alloc (.cells #[] 5)) from Only.of_below ((Below.refl w.heap.size w).alloc (Nat.le_refl _) _))
  clear h
  go_enter Try.func116, Try.ntmps116
  go_wp2_with fail
  refine (l1Below_any 4 (by omega) (by omega) _ _ _ _ _ _ HC.out).mono ?_
  rintro e w1 ⟨y, hy0, hy1, rfl, hc, ho⟩
  have C1 := Lib.hid hc
  have O1 := Lib.hid (HON.out.trans ho)
  have OW1 := Lib.hid (HO0.out.onlyD ho hg)
  clear hc ho
  go_wp2_with fail
  rw [show (m : Int) + 1 = ((m + 1 : Nat) : Int) by omega]
  refine (l1Below_any (m + 1) (by omega) (by omega) _ _ _ _ _ _ C1.out).mono ?_
  rintro e w2 ⟨x, hx0, hx1, rfl, hc, ho⟩
  have C2 := Lib.hid hc
  have O2 := Lib.hid (O1.out.trans ho)
  have OW2 := Lib.hid (OW1.out.onlyD ho hg)
  obtain ⟨K, rfl⟩ := Int.eq_ofNat_of_zero_le hx0
  have hK : K ≤ m := by omega
  clear hc ho hx0 hx1 hwm
  go_wp2_with fail
  go_loopw [5, 7, 8] (fun s kx _ wr => ∃ (k q : Nat) (A1 : Option Addr) (c1 : Nat) (l : List UInt8), kx = .int .i64 k ∧ s = .slice A1 q c1 ∧ q + k ≤ m ∧ Own wr 5 w.heap.size A1 q c1 (bv l) ∧ Cur wr g A n c zs ∧ Only g (g + 1) w wr) (fun _ kx _ _ => (intOf kx).toNat)
  case atStart => exact ⟨K, 0, _, _, _, rfl, rfl, by omega, OW2.out, C2.out, O2.out⟩
  case round =>
    obtain ⟨k, q, A1, c1, l, rfl, rfl, hqk, hown, hc, ho⟩ := hrel
    obtain ⟨w3, rfl⟩ : ∃ W, W = wr := ⟨wr, rfl⟩
    have OW3 := Lib.hid hown
    have C3 := Lib.hid hc
    have O3 := Lib.hid ho
    clear hown hc ho
    by_cases hk : 0 < k
    · have hk1 : (0 : Int) < (k : Int) := by omega
      have hwk : IntKind.i64.wrap ((k : Int) - 1) = (k : Int) - 1 := IntWalk.i64_in _ (by omega)
      go_wp2_with fail
      refine (l1Byte_any _ _ _ _ _ _ C3.out).mono ?_
      rintro e w4 ⟨b, hb0, hb1, rfl, hc, ho⟩
      have C4 := Lib.hid hc
      have O4 := Lib.hid (O3.out.trans ho)
      have OW4 := Lib.hid (OW3.out.onlyD ho hg)
      have hs4 := O4.out.size
      clear hc ho
      by_cases hy_1 : y = 1
      · have e1 : (y == 1) = true := by rw [beq_iff_eq]; exact hy_1
        have e2 : (y == 2) = false := by rw [beq_eq_false_iff_ne]; omega
        clear hy_1
        have hb2 : 0 ≤ b % 2 ∧ b % 2 ≤ 255 := by omega
        have u8w : IntKind.u8.wrap (b % 2) = b % 2 := IntWalk.u8_in _ (by omega)
        go_wp2_with (at_builtin; refine appB _ rfl _ _ rfl w.heap.size A1 q c1 (bv l) rfl (OW4.out.alloc _) w4.heap.size (b % 2) rfl (by rw [World.cell?_alloc_new]; rfl) (by omega) hs4 ?_; intro A' c' w' hown' hg' hb')
        have OW5 := Lib.hid (show Own w' 5 w.heap.size A' (q + 1) c' (bv (l ++ b1 (b % 2))) by rw [bv_b1 _ (by omega) (by omega)]; exact hown')
        have hb5 := ((Below.refl w.heap.size w4).alloc hs4 (.cells #[.int .u8 (b % 2)] 5)).trans hb'
        have C5 := Lib.hid (C4.out.belowB hb5 hg HA.out)
        have O5 := Lib.hid (O4.out.then_below hb5)
        clear hown' hg' hb'
        go_wp2_with fail
        go_roundw
        case rel => exact ⟨k - 1, q + 1, A', c', _, by go_num, rfl, by omega, OW5.out, C5.out, O5.out⟩
        case measure => simp [intOf]; omega
      · have e1 : (y == 1) = false := by rw [beq_eq_false_iff_ne]; exact hy_1
        by_cases hy_2 : y = 2
        · have e2 : (y == 2) = true := by rw [beq_iff_eq]; exact hy_2
          clear hy_1 hy_2
          have hb2 : 0 ≤ b % 4 ∧ b % 4 ≤ 3 := by omega
          have u8w : IntKind.u8.wrap (97 + b % 4) = 97 + b % 4 := IntWalk.u8_in _ (by omega)
          go_wp2_with (at_builtin; refine appB _ rfl _ _ rfl w.heap.size A1 q c1 (bv l) rfl (OW4.out.alloc _) w4.heap.size (97 + b % 4) rfl (by rw [World.cell?_alloc_new]; rfl) (by omega) hs4 ?_; intro A' c' w' hown' hg' hb')
          have OW5 := Lib.hid (show Own w' 5 w.heap.size A' (q + 1) c' (bv (l ++ b1 (97 + b % 4))) by rw [bv_b1 _ (by omega) (by omega)]; exact hown')
          have hb5 := ((Below.refl w.heap.size w4).alloc hs4 (.cells #[.int .u8 (97 + b % 4)] 5)).trans hb'
          have C5 := Lib.hid (C4.out.belowB hb5 hg HA.out)
          have O5 := Lib.hid (O4.out.then_below hb5)
          clear hown' hg' hb'
          go_wp2_with fail
          go_roundw
          case rel => exact ⟨k - 1, q + 1, A', c', _, by go_num, rfl, by omega, OW5.out, C5.out, O5.out⟩
          case measure => simp [intOf]; omega
        · have e2 : (y == 2) = false := by rw [beq_eq_false_iff_ne]; exact hy_2
          clear hy_1 hy_2
          have u8w : IntKind.u8.wrap (b) = b := IntWalk.u8_in _ (by omega)
          go_wp2_with (at_builtin; refine appB _ rfl _ _ rfl w.heap.size A1 q c1 (bv l) rfl (OW4.out.alloc _) w4.heap.size (b) rfl (by rw [World.cell?_alloc_new]; rfl) (by omega) hs4 ?_; intro A' c' w' hown' hg' hb')
          have OW5 := Lib.hid (show Own w' 5 w.heap.size A' (q + 1) c' (bv (l ++ b1 (b))) by rw [bv_b1 _ (by omega) (by omega)]; exact hown')
          have hb5 := ((Below.refl w.heap.size w4).alloc hs4 (.cells #[.int .u8 (b)] 5)).trans hb'
          have C5 := Lib.hid (C4.out.belowB hb5 hg HA.out)
          have O5 := Lib.hid (O4.out.then_below hb5)
          clear hown' hg' hb'
          go_wp2_with fail
          go_roundw
          case rel => exact ⟨k - 1, q + 1, A', c', _, by go_num, rfl, by omega, OW5.out, C5.out, O5.out⟩
          case measure => simp [intOf]; omega
    · have hk1 : ¬ (0 : Int) < (k : Int) := by omega
      have hcv := run_cv (P := Try.prog) w3 22 5 9 Try.underlying22 Try.underlying5 Try.underlying9 _ _ _ _ _ _ OW3.out
      have HQ := Lib.hid (show l.length ≤ m by have := OW3.out.len; rw [bv_len] at this; omega)
      go_wp2_with fail
      go_ret
      exact ⟨l, HQ.out, rfl, C3.out, O3.out⟩

theorem Rd.onlyNe {w w' : World} {A : Option Addr} {n g : Nat} {vs : List Value} (h : Rd w A n vs) (ho : Only g (g + 1) w w') (hb : 0 < n → ∀ ad, A = some ad → ad.block ≠ g) : Rd w' A n vs :=
  ⟨h.1, fun hn => by
    obtain ⟨b, off, e, hc⟩ := h.2 hn
    have hlt : b < w.heap.size := h.lt hn _ e
    have hne : b ≠ g := hb hn _ e
    exact ⟨b, off, e, fun j u hu => (World.cell?_of_block (ho.block b hlt (by omega))).trans (hc j u hu)⟩⟩
set_option maxHeartbeats 2000000 in
theorem l1Pick_any (xs : List (List UInt8)) (L : Option Addr) (k d : Nat) (hk1 : 1 ≤ k) (hk2 : k ≤ 256) (g : Nat) (A : Option Addr) (n c : Nat) (zs : List Int) (w : World) (h : Cur w g A n c zs) (hL : Rd w L k (sv xs)) (hne : 0 < k → ∀ ad, L = some ad → ad.block ≠ g) :
    Calls Try.prog 93 #[.pointer (some ⟨g, 0, none⟩), .slice L k d] w (RetDS (fun l => l ∈ xs) g A n c zs w) := by
  have HC := Lib.hid h
  have HL := Lib.hid hL
  have HNE := Lib.hid hne
  clear h hL hne
  go_enter Try.func93, Try.ntmps93
  go_wp2_with fail
  refine (l1Below_any k hk1 hk2 _ _ _ _ _ _ HC.out).mono ?_
  rintro e w1 ⟨x, hx0, hx1, rfl, hc, ho⟩
  have C1 := Lib.hid hc
  have O1 := Lib.hid ho
  have HL1 := Lib.hid (HL.out.onlyNe ho HNE.out)
  obtain ⟨K, rfl⟩ := Int.eq_ofNat_of_zero_le hx0
  have hK : K < k := by omega
  clear hc ho hx0 hx1
  obtain ⟨b, off, y, rfl, hy, hcy⟩ := HL1.out.ats hK
  have i1 : (0 : Int) ≤ (K : Int) := by omega
  have i2 : (K : Int) < (k : Int) := by omega
  have HM := Lib.hid (List.mem_of_getElem? hy)
  clear hy
  go_wp2_with fail
  go_ret
  exact ⟨y, HM.out, rfl, C1.out, O1.out⟩

theorem u8wrap_bd (x : Int) : 0 ≤ IntKind.u8.wrap x ∧ IntKind.u8.wrap x ≤ 255 := by rw [IntKind.wrap_u8']; omega
theorem u8wrap_bd' {x V : Int} (h : IntKind.u8.wrap x = V) : 0 ≤ V ∧ V ≤ 255 := by rw [← h]; exact u8wrap_bd x
set_option maxRecDepth 20000 in
set_option maxHeartbeats 4000000 in
theorem l1Spoil_any (l : List UInt8) (hl : l.length ≤ 200) (g : Nat) (A : Option Addr) (n c : Nat) (zs : List Int) (w : World) (h : Cur w g A n c zs) :
    Calls Try.prog 95 #[.pointer (some ⟨g, 0, none⟩), .string (bs l)] w (RetDS (fun x => x.length ≤ 3 ∨ x.length ≤ l.length + 1) g A n c zs w) := by
  have HC := Lib.hid h
  clear h
  by_cases h0 : l.length = 0
  · have e0 : ((l.length : Int) == 0) = true := by rw [beq_iff_eq]; omega
    clear h0
    go_enter Try.func95, Try.ntmps95
    go_wp2_with fail
    refine (l1Text_any 3 (by omega) _ _ _ _ _ _ HC.out).mono ?_
    rintro e w1 ⟨x, hx, rfl, hc, ho⟩
    have C1 := Lib.hid hc
    have O1 := Lib.hid ho
    have HX := Lib.hid (show x.length ≤ 3 ∨ x.length ≤ l.length + 1 from Or.inl hx)
    clear hc ho hx
    go_wp2_with fail
    go_ret
    exact ⟨x, HX.out, rfl, C1.out, O1.out⟩
  have e0 : ((l.length : Int) == 0) = false := by rw [beq_eq_false_iff_ne]; omega
  have hl1 : 1 ≤ l.length := by omega
  clear h0
  go_enter Try.func95, Try.ntmps95
  go_wp2_with fail
  refine (l1Below_any l.length hl1 (by omega) _ _ _ _ _ _ HC.out).mono ?_
  rintro e w1 ⟨x, hx0, hx1, rfl, hc, ho⟩
  have C1 := Lib.hid hc
  have O1 := Lib.hid ho
  obtain ⟨k, rfl⟩ := Int.eq_ofNat_of_zero_le hx0
  have hk : k < l.length := by omega
  clear hc ho hx0 hx1
  go_wp2_with fail
  refine (l1Below_any 4 (by omega) (by omega) _ _ _ _ _ _ C1.out).mono ?_
  rintro e w2 ⟨y, hy0, hy1, rfl, hc, ho⟩
  have C2 := Lib.hid hc
  have O2 := Lib.hid (O1.out.trans ho)
  clear hc ho
  have i1 : (0 : Int) ≤ (k : Int) := by omega
  have i2 : (k : Int) < (l.length : Int) := by omega
  have i3 : (k : Int) + 1 ≤ (l.length : Int) := by omega
  have u1 : IntKind.i64.wrap ((k : Int) + 1) = (k : Int) + 1 := IntWalk.i64_in _ (by omega)
  have i4 : ((k : Int) + 1).toNat = k + 1 := by omega
  have i5 : (0 : Int) ≤ (k : Int) + 1 := by omega
  have HT := Lib.hid (show (l.take k).length ≤ 200 ∧ (l.drop (k + 1)).length ≤ 200 ∧ (l.drop k).length ≤ 200 by simp; omega)
  have t1 : (l.take k).length + (l.drop (k + 1)).length ≤ 9223372036854775807 := by have := HT.out; omega
  have t1' : ¬ 9223372036854775807 < (l.take k).length + (l.drop (k + 1)).length := by have := HT.out; omega
  by_cases y0 : y = 0
  · have f0 : (y == 0) = true := by rw [beq_iff_eq]; exact y0
    clear y0
    go_wp2_with fail
    go_quiet (fail)
    go_wp2_with fail
    go_ret
    exact ⟨_, by simp; omega, rfl, C2.out.drewN _, O2.out.drewN _⟩
  have f0 : (y == 0) = false := by rw [beq_eq_false_iff_ne]; exact y0
  by_cases y1 : y = 1
  · have f1 : (y == 1) = true := by rw [beq_iff_eq]; exact y1
    clear y0 y1
    go_wp2_with fail
    have hl8 : l.length ≤ 9223372036854775807 := by omega
    have i6 : (k : Int) ≤ (l.length : Int) := by omega
    have i7 : k ≤ l.length := by omega
    have t2 : (l.take k).length + 1 ≤ 9223372036854775807 := by have := HT.out; omega
    have t2' : ¬ 9223372036854775807 < (l.take k).length + 1 := by have := HT.out; omega
    have HL3 := Lib.hid (show (List.take (l.length - k) (List.drop k l)).length = l.length - k by simp)
    go_region_with ((go_at_call 109; refine (l1Byte_any _ _ _ _ _ _ (by exact C2.out.drewN 1)).mono ?_; rintro e w3 ⟨x, hx0, hx1, rfl, hc, ho⟩; have hcv := run_cv1 (P := Try.prog) w3 22 5 9 Try.underlying22 Try.underlying5 Try.underlying9 x hx0 hx1; have hs1 : (bs (b1 x)).size ≤ 1 := Nat.le_refl _; have u8w : IntKind.u8.wrap x = x := IntWalk.u8_in _ (by omega); have hs2 : (b1 x).length = 1 := rfl; have t3 : ¬ 9223372036854775807 < (l.take k).length + (b1 x).length := by rw [hs2]; omega))
    have HCF := Lib.hid (hc.below ((Below.refl w3.heap.size w3).alloc (Nat.le_refl _) (.cells #[.int .u8 x] 5)))
    have HOF := Lib.hid (((O2.out.drewN 1).trans (by exact ho)).then_below ((Below.refl w.heap.size w3).alloc (Nat.le_trans O2.out.size ho.size) (.cells #[.int .u8 x] 5)))
    clear hc ho hcv
    go_wp2_with fail
    go_ret
    exact ⟨_, by have := HL3.out; simp [b1]; omega, rfl, HCF.out, HOF.out⟩
  have f1 : (y == 1) = false := by rw [beq_eq_false_iff_ne]; exact y1
  by_cases y2 : y = 2
  · have f2 : (y == 2) = true := by rw [beq_iff_eq]; exact y2
    clear y0 y1 y2
    have i6 : (k : Int) ≤ (l.length : Int) := by omega
    go_wp2_with fail
    go_ret
    exact ⟨_, by simp; omega, rfl, C2.out, O2.out⟩
  have f2 : (y == 2) = false := by rw [beq_eq_false_iff_ne]; exact y2
  clear y0 y1 y2
  have i6 : (k : Int) ≤ (l.length : Int) := by omega
  have i7 : k ≤ l.length := by omega
  have t2 : (l.take k).length + 1 ≤ 9223372036854775807 := by have := HT.out; omega
  have t2' : ¬ 9223372036854775807 < (l.take k).length + 1 := by have := HT.out; omega
  have HL3 := Lib.hid (show (List.take (l.length - (k + 1)) (List.drop (k + 1) l)).length = l.length - (k + 1) by simp)
  have hch2 : (l[k]'hk).toNat < 256 := (l[k]'hk).toNat_lt
  have uch : IntKind.i64.wrap ((l[k]'hk).toNat : Int) = ((l[k]'hk).toNat : Int) := IntWalk.i64_in _ (by omega)
  go_wp2_with fail
  have s1 : k ≤ 9223372036854775806 := by omega
  have s2 : k + 1 + (l.length - (k + 1)) ≤ 9223372036854775807 := by omega
  refine wp_region_held_drew (S := fun _ => True) (by kernel_rfl) (by trivial) (fun hHeld => ?_)
  refine wpAnyH_take (i := 0) (oi := ⟨some 47, _, _, _, _, _⟩) (v := .string (bs l)) rfl (by kernel_rfl) (by kernel_rfl) (by kernel_rfl) (fun _ _ _ h => h) (Or.inl ⟨by rfl, fun w hSw => by (try dsimp only at hSw); first | (go_simp; done) | (go_simp; with_reducible rfl) | (go_simp; rfl)⟩) (by assumption) ?_
  (try simp only [Act.put, List.setIfInBounds_toArray, List.set_cons_zero, List.set_cons_succ])
  refine wpAnyH_take (i := 1) (oi := ⟨some 48, _, _, _, _, _⟩) (v := .int .i64 k) rfl (by kernel_rfl) (by kernel_rfl) (by kernel_rfl) (fun _ _ _ h => h) (Or.inl ⟨by rfl, fun w hSw => by (try dsimp only at hSw); first | (go_simp; done) | (go_simp; with_reducible rfl) | (go_simp; rfl)⟩) (by assumption) ?_
  (try simp only [Act.put, List.setIfInBounds_toArray, List.set_cons_zero, List.set_cons_succ])
  refine wpAnyH_take (i := 2) (oi := ⟨some 49, _, _, _, _, _⟩) (v := .string (bs (l.take k))) rfl (by kernel_rfl) (by kernel_rfl) (by kernel_rfl) (fun _ _ _ h => h) (Or.inl ⟨by rfl, fun w hSw => by (try dsimp only at hSw); first | (go_simp; done) | (go_simp; with_reducible rfl) | (go_simp; rfl)⟩) (by assumption) ?_
  (try simp only [Act.put, List.setIfInBounds_toArray, List.set_cons_zero, List.set_cons_succ])
  refine wpAnyH_take (i := 3) (oi := ⟨some 50, _, _, _, _, _⟩) (v := .string (bs l)) rfl (by kernel_rfl) (by kernel_rfl) (by kernel_rfl) (fun _ _ _ h => h) (Or.inl ⟨by rfl, fun w hSw => by (try dsimp only at hSw); first | (go_simp; done) | (go_simp; with_reducible rfl) | (go_simp; rfl)⟩) (by assumption) ?_
  (try simp only [Act.put, List.setIfInBounds_toArray, List.set_cons_zero, List.set_cons_succ])
  refine wpAnyH_take (i := 4) (oi := ⟨some 51, _, _, _, _, _⟩) (v := .int .i64 k) rfl (by kernel_rfl) (by kernel_rfl) (by kernel_rfl) (fun _ _ _ h => h) (Or.inl ⟨by rfl, fun w hSw => by (try dsimp only at hSw); first | (go_simp; done) | (go_simp; with_reducible rfl) | (go_simp; rfl)⟩) (by assumption) ?_
  (try simp only [Act.put, List.setIfInBounds_toArray, List.set_cons_zero, List.set_cons_succ])
  refine wpAnyH_take (i := 5) (oi := ⟨some 52, _, _, _, _, _⟩) (v := .int .u8 ((l[k]'hk).toNat : Int)) rfl (by kernel_rfl) (by kernel_rfl) (by kernel_rfl) (fun _ _ _ h => h) (Or.inl ⟨by rfl, fun w hSw => by (try dsimp only at hSw); first | (go_simp; done) | (go_simp; with_reducible rfl) | (go_simp; rfl)⟩) (by assumption) ?_
  (try simp only [Act.put, List.setIfInBounds_toArray, List.set_cons_zero, List.set_cons_succ])
  refine wpAnyH_take (i := 6) (oi := ⟨some 53, _, _, _, _, _⟩) (v := .int .i64 ((l[k]'hk).toNat : Int)) rfl (by kernel_rfl) (by kernel_rfl) (by kernel_rfl) (fun _ _ _ h => h) (Or.inl ⟨by rfl, fun w hSw => by (try dsimp only at hSw); first | (go_simp; done) | (go_simp; with_reducible rfl) | (go_simp; rfl)⟩) (by assumption) ?_
  (try simp only [Act.put, List.setIfInBounds_toArray, List.set_cons_zero, List.set_cons_succ])
  refine wpAnyH_take (i := 7) (oi := ⟨some 54, _, _, _, _, _⟩) (v := .pointer (some ⟨g, 0, none⟩)) rfl (by kernel_rfl) (by kernel_rfl) (by kernel_rfl) (fun _ _ _ h => h) (Or.inl ⟨by rfl, fun w hSw => by (try dsimp only at hSw); first | (go_simp; done) | (go_simp; with_reducible rfl) | (go_simp; rfl)⟩) (by assumption) ?_
  (try simp only [Act.put, List.setIfInBounds_toArray, List.set_cons_zero, List.set_cons_succ])
  refine wpAnyH_take (i := 15) (oi := ⟨some 62, _, _, _, _, _⟩) (v := .string (bs l)) rfl (by kernel_rfl) (by kernel_rfl) (by kernel_rfl) (fun _ _ _ h => h) (Or.inl ⟨by rfl, fun w hSw => by (try dsimp only at hSw); first | (go_simp; done) | (go_simp; with_reducible rfl) | (go_simp; rfl)⟩) (by assumption) ?_
  (try simp only [Act.put, List.setIfInBounds_toArray, List.set_cons_zero, List.set_cons_succ])
  refine wpAnyH_take (i := 16) (oi := ⟨some 63, _, _, _, _, _⟩) (v := .int .i64 k) rfl (by kernel_rfl) (by kernel_rfl) (by kernel_rfl) (fun _ _ _ h => h) (Or.inl ⟨by rfl, fun w hSw => by (try dsimp only at hSw); first | (go_simp; done) | (go_simp; with_reducible rfl) | (go_simp; rfl)⟩) (by assumption) ?_
  (try simp only [Act.put, List.setIfInBounds_toArray, List.set_cons_zero, List.set_cons_succ])
  refine wpAnyH_take (i := 17) (oi := ⟨some 64, _, _, _, _, _⟩) (v := .int .i64 ((k : Int) + 1)) rfl (by kernel_rfl) (by kernel_rfl) (by kernel_rfl) (fun _ _ _ h => h) (Or.inl ⟨by rfl, fun w hSw => by (try dsimp only at hSw); first | (go_simp; done) | (go_simp; with_reducible rfl) | (go_simp; rfl)⟩) (by assumption) ?_
  (try simp only [Act.put, List.setIfInBounds_toArray, List.set_cons_zero, List.set_cons_succ])
  refine wpAnyH_take (i := 18) (oi := ⟨some 65, _, _, _, _, _⟩) (v := .string (bs (List.take (l.length - (k + 1)) (List.drop (k + 1) l)))) rfl (by kernel_rfl) (by kernel_rfl) (by kernel_rfl) (fun _ _ _ h => h) (Or.inl ⟨by rfl, fun w hSw => by (try dsimp only at hSw); first | (go_simp; done) | (go_simp; with_reducible rfl) | (go_simp; rfl)⟩) (by assumption) ?_
  (try simp only [Act.put, List.setIfInBounds_toArray, List.set_cons_zero, List.set_cons_succ])
  refine wpAnyH_ready (rs := [8]) (by kernel_rfl) (by simp) ?_
  refine AllReadyH.cons (o := ⟨some 55, _, _, _, _, _⟩) rfl (fun K hK => ?_) AllReadyH.nil
  go_simp
  refine (l1Below_any 255 (by omega) (by omega) _ _ _ _ _ _ (by exact C2.out.drewN 1)).mono ?_
  rintro e w3 ⟨z, hz0, hz1, he, hc, ho⟩
  subst he
  refine hK.out _ _ (trivial) (fun hHeld => ?_)
  clear hK K
  (try simp only [Act.put, List.setIfInBounds_toArray, List.set_cons_zero, List.set_cons_succ])
  have u9 : IntKind.i64.wrap (1 + z) = 1 + z := IntWalk.i64_in _ (by omega)
  obtain ⟨V, hV⟩ : ∃ V, IntKind.u8.wrap (bits .xor .i64 ((l[k]'hk).toNat : Int) (1 + z)) = V := ⟨_, rfl⟩
  have hVV := hV
  rw [IntKind.wrap_u8'] at hVV
  have q0 : 0 ≤ V ∧ V ≤ 255 := u8wrap_bd' hV
  refine wpAnyH_take (i := 9) (oi := ⟨some 56, _, _, _, _, _⟩) (v := .int .i64 (1 + z)) rfl (by kernel_rfl) (by kernel_rfl) (by kernel_rfl) (fun _ _ _ h => h) (Or.inl ⟨by rfl, fun w hSw => by (try dsimp only at hSw); first | (go_simp; done) | (go_simp; with_reducible rfl) | (go_simp; rfl)⟩) (by assumption) ?_
  (try simp only [Act.put, List.setIfInBounds_toArray, List.set_cons_zero, List.set_cons_succ])
  refine wpAnyH_take (i := 10) (oi := ⟨some 57, _, _, _, _, _⟩) (v := .int .i64 (bits .xor .i64 ((l[k]'hk).toNat : Int) (1 + z))) rfl (by kernel_rfl) (by kernel_rfl) (by kernel_rfl) (fun _ _ _ h => h) (Or.inl ⟨by rfl, fun w hSw => by (try dsimp only at hSw); first | (go_simp; done) | (go_simp; with_reducible rfl) | (go_simp; rfl)⟩) (by assumption) ?_
  (try simp only [Act.put, List.setIfInBounds_toArray, List.set_cons_zero, List.set_cons_succ])
  refine wpAnyH_take (i := 11) (oi := ⟨some 58, _, _, _, _, _⟩) (v := .int .u8 V) rfl (by kernel_rfl) (by kernel_rfl) (by kernel_rfl) (fun _ _ _ h => h) (Or.inl ⟨by rfl, fun w hSw => by (try dsimp only at hSw); first | (go_simp; done) | (go_simp; with_reducible rfl) | (go_simp; rfl)⟩) (by assumption) ?_
  (try simp only [Act.put, List.setIfInBounds_toArray, List.set_cons_zero, List.set_cons_succ])
  clear hV hVV
  have hcv := run_cv1 (P := Try.prog) w3 22 5 9 Try.underlying22 Try.underlying5 Try.underlying9 V q0.1 q0.2
  have hs2 : (b1 V).length = 1 := rfl
  have hs1 : (bs (b1 V)).size ≤ 1 := Nat.le_refl _
  have t3 : ¬ 9223372036854775807 < (l.take k).length + (b1 V).length := by rw [hs2]; omega
  refine wpAnyH_ready (rs := [12]) (by kernel_rfl) (by simp) ?_
  refine AllReadyH.cons (o := ⟨some 59, _, _, _, _, _⟩) rfl (fun K hK => ?_) AllReadyH.nil
  go_simp
  refine hK.out _ _ (trivial) (fun hHeld => ?_)
  clear hK K
  (try simp only [Act.put, List.setIfInBounds_toArray, List.set_cons_zero, List.set_cons_succ])
  refine wpAnyH_ready (rs := [13]) (by kernel_rfl) (by simp) ?_
  refine AllReadyH.cons (o := ⟨some 60, _, _, _, _, _⟩) rfl (fun K hK => ?_) AllReadyH.nil
  go_simp
  refine hK.out _ _ (trivial) (fun hHeld => ?_)
  clear hK K
  (try simp only [Act.put, List.setIfInBounds_toArray, List.set_cons_zero, List.set_cons_succ])
  refine wpAnyH_take (i := 14) (oi := ⟨some 61, _, _, _, _, _⟩) (v := .string (bs (l.take k ++ b1 V))) rfl (by kernel_rfl) (by kernel_rfl) (by kernel_rfl) (fun _ _ _ h => h) (Or.inl ⟨by rfl, fun w hSw => by (try dsimp only at hSw); first | (go_simp; done) | (go_simp; with_reducible rfl) | (go_simp; rfl)⟩) (by assumption) ?_
  (try simp only [Act.put, List.setIfInBounds_toArray, List.set_cons_zero, List.set_cons_succ])
  refine wpAnyH_take (i := 19) (oi := ⟨some 66, _, _, _, _, _⟩) (v := .string (bs (l.take k ++ (b1 V ++ List.take (l.length - (k + 1)) (List.drop (k + 1) l))))) rfl (by kernel_rfl) (by kernel_rfl) (by kernel_rfl) (fun _ _ _ h => h) (Or.inl ⟨by rfl, fun w hSw => by (try dsimp only at hSw); first | (go_simp; done) | (go_simp; with_reducible rfl) | (go_simp; rfl)⟩) (by assumption) ?_
  (try simp only [Act.put, List.setIfInBounds_toArray, List.set_cons_zero, List.set_cons_succ])
  refine wpAnyH_take (i := 20) (oi := ⟨some 4, _, _, _, _, _⟩) (v := .string (bs (l.take k ++ (b1 V ++ List.take (l.length - (k + 1)) (List.drop (k + 1) l))))) rfl (by kernel_rfl) (by kernel_rfl) (by kernel_rfl) (fun _ _ _ h => h) (Or.inl ⟨by rfl, fun w hSw => by (try dsimp only at hSw); first | (go_simp; done) | (go_simp; with_reducible rfl) | (go_simp; rfl)⟩) (by assumption) ?_
  (try simp only [Act.put, List.setIfInBounds_toArray, List.set_cons_zero, List.set_cons_succ])
  refine wpAnyH_done (by kernel_rfl) ?_ _
  have HCF := Lib.hid (hc.below ((Below.refl w3.heap.size w3).alloc (Nat.le_refl _) (.cells #[.int .u8 V] 5)))
  have HOF := Lib.hid (((O2.out.drewN 1).trans (by exact ho)).then_below ((Below.refl w.heap.size w3).alloc (Nat.le_trans O2.out.size ho.size) (.cells #[.int .u8 V] 5)))
  clear hc ho hcv
  go_wp2_with fail
  go_ret
  exact ⟨_, by have := HL3.out; simp [b1]; omega, rfl, HCF.out, HOF.out⟩

end Go.Proofs.Yteiffomekjadgaa
