/- l8Renumber and RenumberBlocks. -/
import Derived.Test.YteiffomekjadgaaRenum
import Derived.Test.YteiffomekjadgaaRows2
namespace Go.Proofs.Yteiffomekjadgaa
open Go.RowKit

theorem renN_nodup (l : List Int) : ∀ k : Nat, (renN l k).Nodup
  | 0 => List.nodup_nil
  | k + 1 => by
    have ih := renN_nodup l k
    have hs : renN l (k + 1) = if l.getD k 0 ∈ renN l k then renN l k else renN l k ++ [l.getD k 0] := rfl
    by_cases hm : l.getD k 0 ∈ renN l k
    · rw [hs, if_pos hm]; exact ih
    · rw [hs, if_neg hm, List.nodup_append]
      refine ⟨ih, by simp, ?_⟩
      intro a ha b hb
      simp at hb
      subst hb
      intro e; subst e; exact hm ha
theorem idx_at {L : List Int} {t : Nat} {x y : Int} (hn : L.Nodup) (h : L[t]? = some y) : (L.idxOf x = t ∧ x ∈ L) ↔ y = x := by
  obtain ⟨ht, rfl⟩ := List.getElem?_eq_some_iff.1 h
  constructor
  · rintro ⟨h1, h2⟩
    have := List.getElem_idxOf (x := x) (xs := L) (List.idxOf_lt_length_iff.2 h2)
    simp only [h1] at this
    exact this
  · rintro rfl
    exact ⟨hn.idxOf_getElem t ht, List.getElem_mem ht⟩
theorem grewD {w : World} {A1 A2 : Option Addr} {n1 c1 g' : Nat} (hd : ∀ g : Nat, A2 = some ⟨g, 0, none⟩ → Value.ownBlock (.slice A1 n1 c1) ≠ some g) (hlt : ∀ g : Nat, A2 = some ⟨g, 0, none⟩ → g < w.heap.size) (hat : Value.ownBlock (.slice A1 n1 c1) = some g' ∨ g' = w.heap.size) (n c : Nat) :
    ∀ g : Nat, A2 = some ⟨g, 0, none⟩ → Value.ownBlock (.slice (some ⟨g', 0, none⟩) n c) ≠ some g := by
  intro g hg he
  have e : g' = g := by simpa [Value.ownBlock] using he
  subst e
  rcases hat with h | h
  · exact hd g' hg h
  · have := hlt g' hg; omega
theorem flipD {A1 A2 : Option Addr} {n1 c1 n2 c2 : Nat} (h : ∀ g : Nat, A2 = some ⟨g, 0, none⟩ → Value.ownBlock (.slice A1 n1 c1) ≠ some g) (f1 : ∀ g, Value.ownBlock (.slice A2 n2 c2) = some g → A2 = some ⟨g, 0, none⟩) :
    ∀ g : Nat, A1 = some ⟨g, 0, none⟩ → Value.ownBlock (.slice A2 n2 c2) ≠ some g := by
  intro g hg he
  exact h g (f1 g he) (by rw [hg]; rfl)
theorem Own.headed {w : World} {e : TypeId} {B : Nat} {A : Option Addr} {n c : Nat} {vs : List Value} (h : Own w e B A n c vs) : ∀ g, Value.ownBlock (.slice A n c) = some g → A = some ⟨g, 0, none⟩ := by
  intro g hg
  rcases h.form with ⟨rfl, _⟩ | ⟨g0, rfl, _⟩
  · cases hg
  · have : g0 = g := by simpa [Value.ownBlock] using hg
    rw [this]
theorem getD_of' {xs : List Int} {k : Nat} {x : Int} (h : xs[k]? = some x) : xs.getD k 0 = x := by rw [List.getD_eq_getElem?_getD, h]; rfl

set_option maxHeartbeats 2000000 in
theorem l8Renumber_any (A : Option Addr) (n c : Nat) (xs : List Int) (w : World) (h : Rd w A n (iv xs)) (hn : n ≤ 1000000) :
    Calls Try.prog 107 #[.slice A n c] w (RetI w (renL xs)) := by
  have HR := Lib.hid h
  have HL := Lib.hid (show xs.length = n by have := h.len; rw [iv_len] at this; exact this)
  clear h
  go_enter Try.func107, Try.ntmps107
  go_wp2_with fail
  go_loopw [3, 4, 5, 6, 7] (fun o nm i _ _ wr => ∃ (k m : Nat) (A1 : Option Addr) (c1 : Nat) (A2 : Option Addr) (c2 : Nat), k ≤ n ∧ i = .int .i64 k ∧ o = .slice A1 k c1 ∧ nm = .slice A2 m c2 ∧ Hid (m = (renN xs k).length) ∧ Own wr 3 w.heap.size A1 k c1 (iv (renO xs k)) ∧ Own wr 3 w.heap.size A2 m c2 (iv (renN xs k)) ∧ (∀ g : Nat, A2 = some ⟨g, 0, none⟩ → Value.ownBlock (.slice A1 k c1) ≠ some g) ∧ Below w.heap.size w wr) (fun _ _ i _ _ _ => n - (intOf i).toNat)
  case atStart =>
    refine ⟨0, 0, _, _, _, _, Nat.zero_le _, rfl, rfl, rfl, rfl, (own_empty w).alloc _, ?_, ?_, ((Below.refl _ _).alloc (Nat.le_refl _) _).alloc (by simp) _⟩
    · have := (own_empty (w.alloc (.cells #[] 3))).mono (B' := w.heap.size) (by simp)
      rw [show (w.alloc (.cells #[] 3)).heap.size = w.heap.size + 1 by simp] at this
      exact this
    · intro g hg he
      simp [Value.ownBlock] at hg he
      omega
  case round =>
    obtain ⟨k, m, A1, c1, A2, c2, hk, rfl, rfl, rfl, HM, ho, hna, hd, hb⟩ := hrel
    obtain ⟨w1, rfl⟩ : ∃ W, W = wr := ⟨wr, rfl⟩
    have HO := Lib.hid ho
    have HNA := Lib.hid hna
    have HD := Lib.hid hd
    have hbs := hb.size
    clear ho hna hd
    by_cases hlt : k < n
    · obtain ⟨b, off, x, rfl, hx, hc⟩ := (HR.out.below hb).ati hlt
      have HX := Lib.hid (getD_of' hx)
      have hml : m ≤ k := by rw [HM.out]; exact renN_len xs k
      clear hx
      by_cases hmem : x ∈ renN xs k
      · obtain ⟨J, hJ⟩ : ∃ J, J = (renN xs k).idxOf x := ⟨_, rfl⟩
        have HJ := Lib.hid (show (renN xs k).idxOf x = J from hJ.symm)
        have hJm : J < m := by rw [hJ, HM.out]; exact List.idxOf_lt_length_iff.2 hmem
        have HS := Lib.hid (show renN xs (k + 1) = renN xs k by show (if _ then _ else _) = _; rw [HX.out, if_pos hmem])
        have HM' := Lib.hid (show m = (renN xs (k + 1)).length by rw [HS.out]; exact HM.out)
        have HME := Lib.hid hmem
        clear hJ hmem
        go_wp2_with fail
        go_loopw [6, 7] (fun a t wv => ∃ (v : Int) (t' d : Nat), t' ≤ m ∧ t = .int .i64 t' ∧ a = .int .i64 v ∧ Hid (v = if J < t' then (J : Int) else -1) ∧ wv = w1.drewN d) (fun _ t _ => m - (intOf t).toNat)
        case atStart => exact ⟨-1, 0, 0, Nat.zero_le _, rfl, rfl, Lib.hid (by rw [if_neg (by omega)]), rfl⟩
        case round =>
          obtain ⟨v, t, d, ht, rfl, rfl, HV, rfl⟩ := hrel
          by_cases hlt2 : t < m
          · obtain ⟨g2, y, hA2, _, _, hy, hcy, _⟩ := HNA.out.ati hlt2
            subst hA2
            have hia := idx_at (x := x) (renN_nodup xs k) hy
            rw [HJ.out] at hia
            have t0 : (0 : Int) ≤ (t : Int) := by omega
            have t1 : (t : Int) < (m : Int) := by omega
            have k0 : (0 : Int) ≤ (k : Int) := by omega
            have k1 : (k : Int) < (n : Int) := by omega
            by_cases hJt : J = t
            · have e1 : (y == x) = true := by rw [hia.1 ⟨hJt, HME.out⟩]; simp
              subst hJt
              clear hia hy
              go_wp2_with fail
              go_quiet (fail)
              go_wp2_with fail
              go_roundw
              case rel => exact ⟨(J : Int), J + 1, _, by omega, by go_num, rfl, Lib.hid (by rw [if_pos (by omega)]), rfl⟩
              case measure => simp [intOf]; omega
            · have e1 : (y == x) = false := by
                have : ¬ y = x := fun e => hJt (hia.2 e).1
                simpa using this
              clear hia hy
              go_wp2_with fail
              go_quiet (fail)
              go_wp2_with fail
              go_roundw
              case rel => exact ⟨v, t + 1, _, by omega, by go_num, rfl, Lib.hid (by rw [HV.out]; by_cases h : J < t; rw [if_pos h, if_pos (by omega)]; rw [if_neg h, if_neg (by omega)]), rfl⟩
              case measure => simp [intOf]; omega
          · obtain rfl : v = (J : Int) := by rw [HV.out, if_pos (by omega)]
            have j0 : ¬ (J : Int) < 0 := by omega
            clear HV
            go_wp2_with (at_builtin; go_loud (refine appIL _ rfl _ _ rfl w.heap.size A1 k c1 _ rfl ((HO.out.drewN d).alloc _) (w1.drewN d).heap.size (J : Int) rfl (by rw [World.cell?_alloc_new]; rfl) (by omega) hbs ?_); intro g' c' w' hown' hg' hb' hat')
            have HO' := Lib.hid (show Own w' 3 w.heap.size (some ⟨g', 0, none⟩) (k + 1) c' (iv (renO xs (k + 1))) by rw [renO, HX.out, HJ.out, iv_snoc]; exact hown')
            have HNA' := Lib.hid (show Own w' 3 w.heap.size A2 m c2 (iv (renN xs (k + 1))) by rw [HS.out]; exact ((HNA.out.drewN d).alloc _).grown hg' (fun g hA => HD.out g hA))
            have HD' := Lib.hid (grewD (w := w1.alloc (.cells #[.int .i64 (J : Int)] 3)) HD.out (fun g hA => by have := (HNA.out.blk g (by rw [hA]; rfl)).2; simp; omega) hat' (k + 1) c')
            have hb3 := ((below_drewN' hb d).alloc hbs _).trans hb'
            clear hown' hg' hat' hb'
            go_wp2_with fail
            go_roundw
            case rel => exact ⟨k + 1, m, _, c', A2, c2, by omega, by go_num, rfl, rfl, HM'.out, HO'.out, HNA'.out, HD'.out, hb3⟩
            case measure => simp [intOf] <;> omega
      · have HS := Lib.hid (show renN xs (k + 1) = renN xs k ++ [x] by show (if _ then _ else _) = _; rw [HX.out, if_neg hmem])
        have HJ := Lib.hid (show (renN xs k).idxOf x = m by rw [HM.out]; exact List.idxOf_eq_length hmem)
        have HM' := Lib.hid (show m + 1 = (renN xs (k + 1)).length by rw [HS.out, List.length_append, ← HM.out]; rfl)
        have HME := Lib.hid hmem
        clear hmem
        go_wp2_with fail
        go_loopw [6, 7] (fun a t wv => ∃ (t' d : Nat), t' ≤ m ∧ t = .int .i64 t' ∧ a = .int .i64 (-1) ∧ wv = w1.drewN d) (fun _ t _ => m - (intOf t).toNat)
        case atStart => exact ⟨0, 0, Nat.zero_le _, rfl, rfl, rfl⟩
        case round =>
          obtain ⟨t, d, ht, rfl, rfl, rfl⟩ := hrel
          by_cases hlt2 : t < m
          · obtain ⟨g2, y, hA2, _, _, hy, hcy, _⟩ := HNA.out.ati hlt2
            subst hA2
            have e1 : (y == x) = false := by
              have : ¬ y = x := fun e => HME.out (by rw [← e]; exact List.mem_of_getElem? hy)
              simpa using this
            have t0 : (0 : Int) ≤ (t : Int) := by omega
            have t1 : (t : Int) < (m : Int) := by omega
            have k0 : (0 : Int) ≤ (k : Int) := by omega
            have k1 : (k : Int) < (n : Int) := by omega
            clear hy
            go_wp2_with fail
            go_quiet (fail)
            go_wp2_with fail
            go_roundw
            case rel => exact ⟨t + 1, _, by omega, by go_num, rfl, rfl⟩
            case measure => simp [intOf]; omega
          · go_wp2_with (first | (at_builtin; refine (appIL _ rfl (.tmp 36) (.tmp 41) rfl w.heap.size A2 m c2 _ rfl ((HNA.out.drewN d).alloc _) (w1.drewN d).heap.size x rfl (by rw [World.cell?_alloc_new]; rfl) (by omega) hbs ?_); intro g1 c1' w2 hown1 hg1 hb1 hat1; have HNA2 := Lib.hid (show Own w2 3 w.heap.size (some ⟨g1, 0, none⟩) (m + 1) c1' (iv (renN xs (k + 1))) by rw [HS.out, iv_snoc]; exact hown1); have HFD := Lib.hid (flipD HD.out HNA.out.headed); have HO2 := Lib.hid (((HO.out.drewN d).alloc (.cells #[.int .i64 x] 3)).grown hg1 (fun g hA => HFD.out g hA)); have HD2 := Lib.hid (flipD (grewD (w := w1.alloc (.cells #[.int .i64 x] 3)) HFD.out (fun g hA => by have := (HO.out.blk g (by rw [hA]; rfl)).2; simp; omega) hat1 (m + 1) c1') HO.out.headed); have hb2 := ((below_drewN' hb d).alloc hbs (.cells #[.int .i64 x] 3)).trans hb1; have hbs2 := hb2.size; clear hown1 hg1 hat1 hb1) | (at_builtin; refine appIL _ rfl (.tmp 43) (.tmp 45) rfl w.heap.size A1 k c1 _ rfl (HO2.out.alloc _) w2.heap.size (m : Int) rfl (by simp) (by omega) hbs2 ?_; intro g' c' w' hown' hg' hb' hat'))
            have HO' := Lib.hid (show Own w' 3 w.heap.size (some ⟨g', 0, none⟩) (k + 1) c' (iv (renO xs (k + 1))) by rw [renO, HX.out, HJ.out, iv_snoc]; exact hown')
            have HNA' := Lib.hid ((HNA2.out.alloc (.cells #[.int .i64 (m : Int)] 3)).grown hg' (fun g hA => HD2.out g hA))
            have HD' := Lib.hid (grewD (w := w2.alloc (.cells #[.int .i64 (m : Int)] 3)) HD2.out (fun g hA => by have := (HNA2.out.blk g (by rw [hA]; rfl)).2; simp; omega) hat' (k + 1) c')
            have hb3 := (hb2.alloc hbs2 _).trans hb'
            clear hown' hg' hat' hb'
            go_wp2_with fail
            go_roundw
            case rel => exact ⟨k + 1, m + 1, _, c', _, c1', by omega, by go_num, rfl, rfl, HM'.out, HO'.out, HNA'.out, HD'.out, hb3⟩
            case measure => simp [intOf] <;> omega
    · have hkn : k = n := by omega
      have HF := Lib.hid (show renL xs = renO xs k by unfold renL; rw [HL.out, hkn])
      have HFL := Lib.hid (show k = (renL xs).length by rw [HF.out, renO_len])
      clear hkn
      go_wp2_with fail
      go_ret
      exact ⟨_, _, _, HFL.out, rfl, by rw [HF.out]; exact HO.out, hb⟩

end Go.Proofs.Yteiffomekjadgaa
