/- CoversOf of both sides. -/
import Derived.Test.YteiffomekjadgaaDyck
import Derived.Test.YteiffomekjadgaaStrs
import Derived.StillTailTactics
namespace Go.Proofs.Yteiffomekjadgaa
open Go.RowKit

/-- The places k in the word, from 1 on, at which a valley stands. -/
def valB (l : List UInt8) (k : Nat) : Bool := (l.drop k).take 2 == [100, 117]
def covW (l : List UInt8) (k : Nat) : List UInt8 := l.take k ++ [117, 100] ++ l.drop (k + 2)
def cov (l : List UInt8) : Nat → List (List UInt8)
  | 0 => []
  | k + 1 => if valB l k then cov l k ++ [covW l k] else cov l k
def coversB (l : List UInt8) : List (List UInt8) := if dyck l then cov l (l.length - 1) else []
theorem cov_len (l : List UInt8) : ∀ k : Nat, (cov l k).length ≤ k
  | 0 => Nat.le_refl _
  | k + 1 => by
    have := cov_len l k
    unfold cov
    split <;> simp <;> omega

theorem valB_at {l : List UInt8} {k : Nat} (h : k + 1 < l.length) : valB l k = ((l[k]'(by omega) == 100) && (l[k + 1] == 117)) := by
  unfold valB
  rw [List.drop_eq_getElem_cons (by omega : k < l.length), List.drop_eq_getElem_cons h]
  show ((l[k]'(by omega) == 100) && ((l[k + 1] == 117) && true)) = _
  rw [Bool.and_true]
theorem u8_eq {c d : UInt8} : ((c.toNat : Int) == (d.toNat : Int)) = (c == d) := by
  by_cases h : c = d
  · subst h; simp
  · rw [u8_ne h]; simp [h]

set_option maxHeartbeats 800000 in
theorem specCoversOf_any (l : List UInt8) (w : World) (hl : l.length ≤ 1000000000) :
    Calls Try.prog 40 #[.string (bs l)] w (RetS w (coversB l)) := by
  rcases hd : dyck l with _ | _
  · have HF := Lib.hid (show coversB l = [] by simp [coversB, hd])
    have HD := Lib.hid hd
    clear hd
    by_cases h1 : 1 < l.length
    all_goals
      go_enter Try.func40, Try.ntmps40
      go_wp2_with fail
      refine wp_loop_rounds 1 ?_
      rw [rounds_succ]
      go_wp2_with (go_at_call 61; refine (specIsDyck_any _ _ hl).mono ?_; rintro e w' ⟨rfl, rfl⟩; rw [HD.out])
      go_ret
      rw [HF.out]
      exact RetS.mk rfl rfl (own_emptyS w) ((Below.refl _ _).alloc (Nat.le_refl _) _)
  · have HF := Lib.hid (show coversB l = cov l (l.length - 1) by simp [coversB, hd])
    have h16 := (dyck_pathB hd).1
    have HD := Lib.hid hd
    clear hd
    go_enter Try.func40, Try.ntmps40
    go_wp2_with fail
    go_loopw [3, 4] (fun s i wr => ∃ (k n : Nat) (A : Option Addr) (c : Nat), k ≤ l.length - 1 ∧ i = .int .i64 ((k : Int) + 1) ∧ s = .slice A n c ∧ Hid (n = (cov l k).length) ∧ Own wr 9 w.heap.size A n c (sv (cov l k)) ∧ Below w.heap.size w wr) (fun _ i _ => l.length + 1 - (intOf i).toNat)
    case atStart => exact ⟨0, 0, _, _, Nat.zero_le _, rfl, rfl, rfl, own_emptyS w, (Below.refl _ _).alloc (Nat.le_refl _) _⟩
    case round =>
      obtain ⟨k, n, A, c, hk, rfl, rfl, HN, hown, hb⟩ := hrel
      have HW := Lib.hid hown
      have hbs := hb.size
      have hcl := cov_len l k
      rw [← HN.out] at hcl
      clear hown
      by_cases hlt : k + 1 < l.length
      · rcases hv : valB l k with _ | _
        · have HV := Lib.hid hv
          have hv' : (List.take (k + 1 + 1 - k) (List.drop k l) == [100, 117]) = false := by rw [show k + 1 + 1 - k = 2 by omega]; exact hv
          clear hv
          go_wp2_with (go_at_call 61; refine (specIsDyck_any _ _ hl).mono ?_; rintro e w' ⟨rfl, rfl⟩; rw [HD.out])
          go_roundw
          case rel => exact ⟨k + 1, n, A, c, by omega, by go_num, rfl, by rw [cov, HV.out]; exact HN.out, by rw [cov, HV.out]; exact HW.out, hb⟩
          case measure => simp [intOf]; omega
        · have HV := Lib.hid hv
          have hv' : (List.take (k + 1 + 1 - k) (List.drop k l) == [100, 117]) = true := by rw [show k + 1 + 1 - k = 2 by omega]; exact hv
          clear hv
          go_wp2_with fail
          refine (specIsDyck_any _ _ hl).mono ?_
          rintro e w' ⟨rfl, rfl⟩
          rw [HD.out]
          go_wp2_with fail
          have e1 : IntKind.i64.wrap (k : Int) = (k : Int) := IntWalk.i64_in _ (by omega)
          have b1 : (0 : Int) ≤ (k : Int) := by omega
          have b2 : (k : Int) ≤ (l.length : Int) := by omega
          have b3 : (0 : Int) ≤ (k : Int) + 1 + 1 := by omega
          have b4 : (k : Int) + 1 + 1 ≤ (l.length : Int) := by omega
          have e3 : ((k : Int) + 1 + 1).toNat = k + 2 := by omega
          have f1 : ¬ 9223372036854775807 < min k l.length + 2 := by omega
          have f2 : ¬ 9223372036854775807 < min k l.length + 2 + (l.length - (k + 2)) := by omega
          have e2 : IntKind.i64.wrap ((k : Int) + 1 + 1) = (k : Int) + 1 + 1 := IntWalk.i64_in _ (by omega)
          go_region_law (refine stepS _ (by rfl) _ _ (by rfl) w.heap.size A n c (sv (cov l k)) (by simp [Act.eval]) ((HW.out.alloc _).drew) wr.heap.size (bs (List.take k l) ++ { data := #[117, 100] } ++ bs (List.take (l.length - (k + 2)) (List.drop (k + 2) l))) (by simp [Act.eval]) (by simp) (by omega) hbs ?_; intro A' c' w' hown' hg' hb')
          clear e1 e2 e3 f1 f2
          have HW' := Lib.hid hown'
          clear hown'
          go_wp2_with fail
          go_roundw
          case rel =>
            refine ⟨k + 1, n + 1, A', c', by omega, by go_num, rfl, ?_, ?_, (hb.drew.alloc hb.size _).trans hb'⟩
            · show n + 1 = _
              rw [cov, HV.out, if_pos rfl, List.length_append, ← HN.out]; rfl
            · rw [cov, HV.out, if_pos rfl, sv_snoc]
              have := HW'.out
              rw [bs_lit, bs_append, bs_append, List.take_of_length_le (l := List.drop (k + 2) l) (by simp)] at this
              exact this
          case measure => simp [intOf]; omega
      · have HF' := Lib.hid (show coversB l = cov l k by rw [HF.out]; congr 1; omega)
        go_wp2_with fail
        go_ret
        rw [HF'.out]
        exact RetS.mk HN.out rfl HW.out hb

set_option maxHeartbeats 800000 in
theorem implCoversOf_any (l : List UInt8) (w : World) (hl : l.length ≤ 1000000000) :
    Calls Try.prog 39 #[.string (bs l)] w (RetS w (coversB l)) := by
  rcases hd : dyck l with _ | _
  · have HF := Lib.hid (show coversB l = [] by simp [coversB, hd])
    have HD := Lib.hid hd
    clear hd
    go_enter Try.func39, Try.ntmps39
    go_wp2_with fail
    refine (implIsDyck_any _ _ hl).mono ?_
    rintro e w1 ⟨rfl, hb1⟩
    rw [HD.out]
    go_wp2_with fail
    go_ret
    rw [HF.out]
    have := hb1.size
    exact RetS.mk rfl rfl (((own_emptyS w).mono (Nat.le_refl _)).below (by simpa using hb1)) (((Below.refl _ _).alloc (Nat.le_refl _) _).trans (hb1.mono (by simp)))
  · have HF := Lib.hid (show coversB l = cov l (l.length - 1) by simp [coversB, hd])
    have h16 := (dyck_pathB hd).1
    have HD := Lib.hid hd
    clear hd
    go_enter Try.func39, Try.ntmps39
    go_wp2_with fail
    refine (implIsDyck_any _ _ hl).mono ?_
    rintro e w1 ⟨rfl, hb1⟩
    rw [HD.out]
    have HO1 := Lib.hid ((own_emptyS w).below hb1)
    have HB1 := Lib.hid (((Below.refl w.heap.size w).alloc (Nat.le_refl _) (.cells #[] 9)).trans (hb1.mono (by simp)))
    clear hb1
    go_wp2_with fail
    go_loopw [3, 4] (fun s i wr => ∃ (k n : Nat) (A : Option Addr) (c : Nat), k ≤ l.length - 1 ∧ i = .int .i64 ((k : Int) + 1) ∧ s = .slice A n c ∧ Hid (n = (cov l k).length) ∧ Own wr 9 w.heap.size A n c (sv (cov l k)) ∧ Below w.heap.size w wr) (fun _ i _ => l.length + 1 - (intOf i).toNat)
    case atStart => exact ⟨0, 0, _, _, Nat.zero_le _, rfl, rfl, rfl, HO1.out, HB1.out⟩
    case round =>
      obtain ⟨k, n, A, c, hk, rfl, rfl, HN, hown, hb⟩ := hrel
      have HW := Lib.hid hown
      have hbs := hb.size
      have hcl := cov_len l k
      rw [← HN.out] at hcl
      clear hown
      by_cases hlt : k + 1 < l.length
      · have hva := valB_at hlt
        have hk0 : (0 : Int) ≤ (k : Int) := by omega
        have hk1 : (k : Int) < (l.length : Int) := by omega
        have hk2 : (0 : Int) ≤ (k : Int) + 1 := by omega
        have hk3 : (k : Int) + 1 < (l.length : Int) := by omega
        rcases hp : (l[k]'(by omega) == 100) with _ | _
        · have HV := Lib.hid (show valB l k = false by rw [hva, hp]; rfl)
          have t1 : (((l[k]'(by omega)).toNat : Int) == 100) = false := (u8_eq (d := 100)).trans hp
          clear hva hp
          go_wp2_with fail
          go_roundw
          case rel => exact ⟨k + 1, n, A, c, by omega, by go_num, rfl, by rw [cov, HV.out]; exact HN.out, by rw [cov, HV.out]; exact HW.out, hb⟩
          case measure => simp [intOf]; omega
        · have t1 : ((l[k]'(by omega)).toNat : Int) = 100 := by simpa using (u8_eq (d := 100)).trans hp
          rcases hq : (l[k + 1] == 117) with _ | _
          · have HV := Lib.hid (show valB l k = false by rw [hva, hq]; simp)
            have t2 : (((l[k + 1]'hlt).toNat : Int) == 117) = false := (u8_eq (d := 117)).trans hq
            clear hva hp hq
            have e0 : ((k : Int) + 1).toNat = k + 1 := by omega
            go_wp2_with fail
            go_roundw
            case rel => exact ⟨k + 1, n, A, c, by omega, by go_num, rfl, by rw [cov, HV.out]; exact HN.out, by rw [cov, HV.out]; exact HW.out, hb⟩
            case measure => simp [intOf]; omega
          · have HV := Lib.hid (show valB l k = true by rw [hva, hp, hq]; rfl)
            have t2 : (((l[k + 1]'hlt).toNat : Int) == 117) = true := (u8_eq (d := 117)).trans hq
            clear hva hp hq
            have e0 : ((k : Int) + 1).toNat = k + 1 := by omega
            go_wp2_with fail
            have e1 : IntKind.i64.wrap (k : Int) = (k : Int) := IntWalk.i64_in _ (by omega)
            have b1 : (0 : Int) ≤ (k : Int) := by omega
            have b2 : (k : Int) ≤ (l.length : Int) := by omega
            have b3 : (0 : Int) ≤ (k : Int) + 1 + 1 := by omega
            have b4 : (k : Int) + 1 + 1 ≤ (l.length : Int) := by omega
            have e3 : ((k : Int) + 1 + 1).toNat = k + 2 := by omega
            have f1 : ¬ 9223372036854775807 < min k l.length + 2 := by omega
            have f2 : ¬ 9223372036854775807 < min k l.length + 2 + (l.length - (k + 2)) := by omega
            have e2 : IntKind.i64.wrap ((k : Int) + 1 + 1) = (k : Int) + 1 + 1 := IntWalk.i64_in _ (by omega)
            go_region_law (refine stepS _ (by rfl) _ _ (by rfl) w.heap.size A n c (sv (cov l k)) (by simp [Act.eval]) ((HW.out.alloc _).drew) wr.heap.size (bs (List.take k l) ++ { data := #[117, 100] } ++ bs (List.take (l.length - (k + 2)) (List.drop (k + 2) l))) (by simp [Act.eval]) (by simp) (by omega) hbs ?_; intro A' c' w' hown' hg' hb')
            clear e1 e2 e3 f1 f2
            have HW' := Lib.hid hown'
            clear hown'
            go_wp2_with fail
            go_roundw
            case rel =>
              refine ⟨k + 1, n + 1, A', c', by omega, by go_num, rfl, ?_, ?_, (hb.drew.alloc hb.size _).trans hb'⟩
              · show n + 1 = _
                rw [cov, HV.out, if_pos rfl, List.length_append, ← HN.out]; rfl
              · rw [cov, HV.out, if_pos rfl, sv_snoc]
                have := HW'.out
                rw [bs_lit, bs_append, bs_append, List.take_of_length_le (l := List.drop (k + 2) l) (by simp)] at this
                exact this
            case measure => simp [intOf]; omega
      · have HF' := Lib.hid (show coversB l = cov l k by rw [HF.out]; congr 1; omega)
        go_wp2_with fail
        go_ret
        rw [HF'.out]
        exact RetS.mk HN.out rfl HW.out hb

end Go.Proofs.Yteiffomekjadgaa
