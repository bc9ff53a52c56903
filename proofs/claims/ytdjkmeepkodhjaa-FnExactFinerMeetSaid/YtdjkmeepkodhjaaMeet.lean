/- FinerMeet of both sides. -/
import Derived.Test.YtdjkmeepkodhjaaRenum3
namespace Go.Proofs.Ytdjkmeepkodhjaa
open Go.RowKit

def cod (a : Int) (xs ys : List Int) (k : Nat) : List Int := (List.range k).map fun j => a * xs.getD j 0 + ys.getD j 0
theorem cod_snoc (a : Int) (xs ys : List Int) (k : Nat) : cod a xs ys (k + 1) = cod a xs ys k ++ [a * xs.getD k 0 + ys.getD k 0] := by simp [cod, List.range_succ]
theorem cod_len (a : Int) (xs ys : List Int) (k : Nat) : (cod a xs ys k).length = k := by simp [cod]
def meetP (xs ys : List Int) : List Int × Bool := if isPar xs && isPar ys && (xs.length == ys.length) then (renL (cod 9 xs ys xs.length), true) else ([], false)
theorem isPar_getD {xs : List Int} (h : isPar xs = true) (k : Nat) : 0 ≤ xs.getD k 0 ∧ xs.getD k 0 ≤ 7 := by
  rw [List.getD_eq_getElem?_getD]
  rcases hg : xs[k]? with _ | x
  · simp
  · obtain ⟨a, b, c⟩ := isPar_at h hg
    have := (isPar_iff h).1
    have := (List.getElem?_eq_some_iff.1 hg).1
    have := nx_bd xs k
    show 0 ≤ x ∧ x ≤ 7
    omega
theorem cod_100 {xs ys : List Int} (hy : isPar ys = true) (k : Nat) : cod 100 xs ys k = (cod 9 xs ys k).map fun z => 100 * (z / 9) + z % 9 := by
  unfold cod
  rw [List.map_map]
  apply List.map_congr_left
  intro j _
  have := isPar_getD hy j
  show _ = 100 * ((9 * xs.getD j 0 + ys.getD j 0) / 9) + (9 * xs.getD j 0 + ys.getD j 0) % 9
  omega
theorem meet_100 {xs ys : List Int} (hy : isPar ys = true) (k : Nat) : renL (cod 100 xs ys k) = renL (cod 9 xs ys k) := by
  rw [cod_100 hy]
  exact renL_map (fun x y h => by have h1 : 100 * (x / 9) + x % 9 = 100 * (y / 9) + y % 9 := h; omega) _
theorem meetP_len (xs ys : List Int) : (meetP xs ys).1.length ≤ 1048576 := by
  unfold meetP
  split
  · next h =>
    simp only [Bool.and_eq_true] at h
    have := (isPar_iff h.1.1).1
    show (renL _).length ≤ _
    unfold renL
    rw [renO_len, cod_len]
    omega
  · simp
theorem own_capM {w : World} {e : TypeId} {B : Nat} {A : Option Addr} {n c : Nat} {vs : List Value} (h : Own w e B A n c vs) : n ≤ c ∧ c ≤ maxLen := by
  rcases h.2 with ⟨h1, h2⟩ | ⟨g, cap, cur, h1, _, _, h2, h3, _⟩
  · cases h1; exact ⟨by omega, Nat.zero_le _⟩
  · cases h1; exact ⟨h2, h3⟩

set_option maxHeartbeats 2000000 in
theorem specFinerMeet_any (A1 : Option Addr) (n1 c1 : Nat) (xs : List Int) (A2 : Option Addr) (n2 c2 : Nat) (ys : List Int) (w : World) (h1 : Rd w A1 n1 (iv xs)) (h2 : Rd w A2 n2 (iv ys)) (hn1 : n1 ≤ 1000000000) (hn2 : n2 ≤ 1000000000) :
    Calls Try.prog 32 #[.slice A1 n1 c1, .slice A2 n2 c2] w (RetIB w (meetP xs ys).1 (meetP xs ys).2) := by
  unfold RetIB
  have HR1 := Lib.hid h1
  have HR2 := Lib.hid h2
  have HL1 := Lib.hid (show xs.length = n1 by have := h1.len; rw [iv_len] at this; exact this)
  have HL2 := Lib.hid (show ys.length = n2 by have := h2.len; rw [iv_len] at this; exact this)
  clear h1 h2
  rcases hp : isPar xs with _ | _
  · have HF := Lib.hid (show meetP xs ys = ([], false) by simp [meetP, hp])
    have HP := Lib.hid hp
    clear hp
    go_enter Try.func32, Try.ntmps32
    go_wp2_with fail
    refine (specIsPartition_any _ _ _ _ _ HR1.out hn1).mono ?_
    rintro e w' ⟨rfl, rfl⟩
    rw [HP.out]
    go_wp2_with fail
    go_ret2
    rw [HF.out]
    exact ⟨_, 0, 0, rfl, rfl, own_empty w, (Below.refl _ _).alloc (Nat.le_refl _) _⟩
  rcases hq : isPar ys with _ | _
  · have HF := Lib.hid (show meetP xs ys = ([], false) by simp [meetP, hq])
    have HP := Lib.hid hp
    have HQ := Lib.hid hq
    clear hp hq
    go_enter Try.func32, Try.ntmps32
    go_wp2_with fail
    refine (specIsPartition_any _ _ _ _ _ HR1.out hn1).mono ?_
    rintro e w' ⟨rfl, rfl⟩
    rw [HP.out]
    go_wp2_with fail
    refine (specIsPartition_any _ _ _ _ _ HR2.out hn2).mono ?_
    rintro e w' ⟨rfl, rfl⟩
    rw [HQ.out]
    go_wp2_with fail
    go_ret2
    rw [HF.out]
    exact ⟨_, 0, 0, rfl, rfl, own_empty w, (Below.refl _ _).alloc (Nat.le_refl _) _⟩
  have HP := Lib.hid hp
  have HQ := Lib.hid hq
  have b1 := (isPar_iff hp).1
  rw [HL1.out] at b1
  by_cases hnn : n1 = n2
  case neg =>
    have HF := Lib.hid (show meetP xs ys = ([], false) by simp [meetP, HL1.out, HL2.out, hnn])
    have e1 : ((n1 : Int) != (n2 : Int)) = true := by simp; omega
    clear hp hq hnn
    go_enter Try.func32, Try.ntmps32
    go_wp2_with fail
    refine (specIsPartition_any _ _ _ _ _ HR1.out hn1).mono ?_
    rintro e w' ⟨rfl, rfl⟩
    rw [HP.out]
    go_wp2_with fail
    refine (specIsPartition_any _ _ _ _ _ HR2.out hn2).mono ?_
    rintro e w' ⟨rfl, rfl⟩
    rw [HQ.out]
    go_wp2_with fail
    go_ret2
    rw [HF.out]
    exact ⟨_, 0, 0, rfl, rfl, own_empty w, (Below.refl _ _).alloc (Nat.le_refl _) _⟩
  have HF := Lib.hid (show meetP xs ys = (renL (cod 9 xs ys n1), true) by simp [meetP, hp, hq, HL1.out, HL2.out, hnn])
  subst hnn
  have b8 : n1 ≤ 8 := by omega
  clear hp hq
  go_enter Try.func32, Try.ntmps32
  go_wp2_with fail
  refine (specIsPartition_any _ _ _ _ _ HR1.out hn1).mono ?_
  rintro e w' ⟨rfl, rfl⟩
  rw [HP.out]
  go_wp2_with fail
  refine (specIsPartition_any _ _ _ _ _ HR2.out hn2).mono ?_
  rintro e w' ⟨rfl, rfl⟩
  rw [HQ.out]
  go_wp2_with fail
  go_loopw [6, 7] (fun s i wr => ∃ (k : Nat) (A : Option Addr) (c : Nat), k ≤ n1 ∧ i = .int .i64 k ∧ s = .slice A k c ∧ Own wr 3 w.heap.size A k c (iv (cod 9 xs ys k)) ∧ Below w.heap.size w wr) (fun _ i _ => n1 - (intOf i).toNat)
  case atStart => exact ⟨0, _, _, Nat.zero_le _, rfl, rfl, own_empty w, (Below.refl _ _).alloc (Nat.le_refl _) _⟩
  case round =>
    obtain ⟨k, A, c, hk, rfl, rfl, ho, hb⟩ := hrel
    obtain ⟨w1, rfl⟩ : ∃ W, W = wr := ⟨wr, rfl⟩
    have HO := Lib.hid ho
    have hbs := hb.size
    clear ho
    by_cases hlt : k < n1
    · obtain ⟨b1', o1', x, rfl, hx, hc1⟩ := (HR1.out.below hb).ati hlt
      obtain ⟨b2', o2', y, rfl, hy, hc2⟩ := (HR2.out.below hb).ati hlt
      have xb := isPar_getD HP.out k
      have yb := isPar_getD HQ.out k
      rw [getD_of' hx] at xb
      rw [getD_of' hy] at yb
      have HS := Lib.hid (show cod 9 xs ys (k + 1) = cod 9 xs ys k ++ [9 * x + y] by rw [cod_snoc, getD_of' hx, getD_of' hy])
      clear hx hy
      have k0 : (0 : Int) ≤ (k : Int) := by omega
      have k1 : (k : Int) < (n1 : Int) := by omega
      have v1 : IntKind.i64.wrap (x * 9) = x * 9 := IntWalk.i64_in _ (by omega)
      have v2 : IntKind.i64.wrap (x * 9 + y) = x * 9 + y := IntWalk.i64_in _ (by omega)
      go_wp2_with fail
      go_region_law (refine stepIL _ (by rfl) _ _ (by rfl) w.heap.size A k c (iv (cod 9 xs ys k)) (by simp [Act.eval]) ((HO.out.alloc _).drew) w1.heap.size (x * 9 + y) (by simp [Act.eval]) (by simp) (by omega) hbs ?_; intro g' c' w' hown' hg' hb' hat')
      all_goals
        have HO' := Lib.hid (show Own w' 3 w.heap.size (some ⟨g', 0, none⟩) (k + 1) c' (iv (cod 9 xs ys (k + 1))) by rw [HS.out, iv_snoc]; rw [Int.mul_comm 9 x]; exact hown')
        have hb3 := ((hb.alloc hbs _).drew).trans hb'
        clear hown' hg' hat' hb'
        go_wp2_with fail
        go_roundw
        case rel => exact ⟨k + 1, _, c', by omega, by go_num, rfl, HO'.out, hb3⟩
        case measure => simp [intOf] <;> omega
    · obtain rfl : k = n1 := by omega
      clear hlt
      go_wp2_with fail
      refine (l8Renumber_any _ _ _ _ _ HO.out.rd (by omega)).mono ?_
      rintro e w3 ⟨A3, n3, c3, hn3, rfl, ho4, hb4⟩
      have HO4 := Lib.hid ho4
      have HN3 := Lib.hid hn3
      clear ho4 hn3
      go_wp2_with fail
      go_ret2
      rw [HF.out]
      exact ⟨_, _, _, HN3.out, rfl, HO4.out.mono hbs, hb.trans (hb4.mono hbs)⟩


set_option maxHeartbeats 2000000 in
theorem implFinerMeet_any (A1 : Option Addr) (n1 c1 : Nat) (xs : List Int) (A2 : Option Addr) (n2 c2 : Nat) (ys : List Int) (w : World) (h1 : Rd w A1 n1 (iv xs)) (h2 : Rd w A2 n2 (iv ys)) (hn1 : n1 ≤ 1000000000) (hn2 : n2 ≤ 1000000000) :
    Calls Try.prog 33 #[.slice A1 n1 c1, .slice A2 n2 c2] w (RetIB w (meetP xs ys).1 (meetP xs ys).2) := by
  unfold RetIB
  have HR1 := Lib.hid h1
  have HR2 := Lib.hid h2
  have HL1 := Lib.hid (show xs.length = n1 by have := h1.len; rw [iv_len] at this; exact this)
  have HL2 := Lib.hid (show ys.length = n2 by have := h2.len; rw [iv_len] at this; exact this)
  clear h1 h2
  rcases hp : isPar xs with _ | _
  · have HF := Lib.hid (show meetP xs ys = ([], false) by simp [meetP, hp])
    have HP := Lib.hid hp
    clear hp
    go_enter Try.func33, Try.ntmps33
    go_wp2_with fail
    refine (implIsPartition_any _ _ _ _ _ HR1.out hn1).mono ?_
    rintro e w' ⟨rfl, rfl⟩
    rw [HP.out]
    go_wp2_with fail
    go_ret2
    rw [HF.out]
    exact ⟨_, 0, 0, rfl, rfl, own_empty w, (Below.refl _ _).alloc (Nat.le_refl _) _⟩
  rcases hq : isPar ys with _ | _
  · have HF := Lib.hid (show meetP xs ys = ([], false) by simp [meetP, hq])
    have HP := Lib.hid hp
    have HQ := Lib.hid hq
    clear hp hq
    go_enter Try.func33, Try.ntmps33
    go_wp2_with fail
    refine (implIsPartition_any _ _ _ _ _ HR1.out hn1).mono ?_
    rintro e w' ⟨rfl, rfl⟩
    rw [HP.out]
    go_wp2_with fail
    refine (implIsPartition_any _ _ _ _ _ HR2.out hn2).mono ?_
    rintro e w' ⟨rfl, rfl⟩
    rw [HQ.out]
    go_wp2_with fail
    go_ret2
    rw [HF.out]
    exact ⟨_, 0, 0, rfl, rfl, own_empty w, (Below.refl _ _).alloc (Nat.le_refl _) _⟩
  have HP := Lib.hid hp
  have HQ := Lib.hid hq
  have b1 := (isPar_iff hp).1
  rw [HL1.out] at b1
  by_cases hnn : n1 = n2
  case neg =>
    have HF := Lib.hid (show meetP xs ys = ([], false) by simp [meetP, HL1.out, HL2.out, hnn])
    have e1 : ((n1 : Int) != (n2 : Int)) = true := by simp; omega
    clear hp hq hnn
    go_enter Try.func33, Try.ntmps33
    go_wp2_with fail
    refine (implIsPartition_any _ _ _ _ _ HR1.out hn1).mono ?_
    rintro e w' ⟨rfl, rfl⟩
    rw [HP.out]
    go_wp2_with fail
    refine (implIsPartition_any _ _ _ _ _ HR2.out hn2).mono ?_
    rintro e w' ⟨rfl, rfl⟩
    rw [HQ.out]
    go_wp2_with fail
    go_ret2
    rw [HF.out]
    exact ⟨_, 0, 0, rfl, rfl, own_empty w, (Below.refl _ _).alloc (Nat.le_refl _) _⟩
  have HF := Lib.hid (show meetP xs ys = (renL (cod 100 xs ys n1), true) by rw [meet_100 hq];simp [meetP, hp, hq, HL1.out, HL2.out, hnn])
  subst hnn
  have b8 : n1 ≤ 8 := by omega
  clear hp hq
  go_enter Try.func33, Try.ntmps33
  go_wp2_with fail
  refine (implIsPartition_any _ _ _ _ _ HR1.out hn1).mono ?_
  rintro e w' ⟨rfl, rfl⟩
  rw [HP.out]
  go_wp2_with fail
  refine (implIsPartition_any _ _ _ _ _ HR2.out hn2).mono ?_
  rintro e w' ⟨rfl, rfl⟩
  rw [HQ.out]
  go_wp2_with fail
  go_loopw [6, 7, 27] (fun s _ i wr => ∃ (k : Nat) (A : Option Addr) (c : Nat), k ≤ n1 ∧ i = .int .i64 k ∧ s = .slice A k c ∧ Own wr 3 w.heap.size A k c (iv (cod 100 xs ys k)) ∧ Below w.heap.size w wr) (fun _ _ i _ => n1 - (intOf i).toNat)
  case atStart => exact ⟨0, _, _, Nat.zero_le _, rfl, rfl, own_empty w, (Below.refl _ _).alloc (Nat.le_refl _) _⟩
  case round =>
    obtain ⟨k, A, c, hk, rfl, rfl, ho, hb⟩ := hrel
    obtain ⟨w1, rfl⟩ : ∃ W, W = wr := ⟨wr, rfl⟩
    have HO := Lib.hid ho
    have hbs := hb.size
    clear ho
    by_cases hlt : k < n1
    · obtain ⟨b1', o1', x, rfl, hx, hc1⟩ := (HR1.out.below hb).ati hlt
      obtain ⟨b2', o2', y, rfl, hy, hc2⟩ := (HR2.out.below hb).ati hlt
      have xb := isPar_getD HP.out k
      have yb := isPar_getD HQ.out k
      rw [getD_of' hx] at xb
      rw [getD_of' hy] at yb
      have HS := Lib.hid (show cod 100 xs ys (k + 1) = cod 100 xs ys k ++ [100 * x + y] by rw [cod_snoc, getD_of' hx, getD_of' hy])
      clear hx hy
      have k0 : (0 : Int) ≤ (k : Int) := by omega
      have k1 : (k : Int) < (n1 : Int) := by omega
      have v1 : IntKind.i64.wrap (100 * x) = 100 * x := IntWalk.i64_in _ (by omega)
      have v2 : IntKind.i64.wrap (100 * x + y) = 100 * x + y := IntWalk.i64_in _ (by omega)
      go_wp2_with fail
      go_region_law (refine stepIL _ (by rfl) _ _ (by rfl) w.heap.size A k c (iv (cod 100 xs ys k)) (by simp [Act.eval]) ((HO.out.alloc _).drew) w1.heap.size (100 * x + y) (by simp [Act.eval]) (by simp) (by omega) hbs ?_; intro g' c' w' hown' hg' hb' hat')
      all_goals
        have HO' := Lib.hid (show Own w' 3 w.heap.size (some ⟨g', 0, none⟩) (k + 1) c' (iv (cod 100 xs ys (k + 1))) by rw [HS.out, iv_snoc]; exact hown')
        have hb3 := ((hb.alloc hbs _).drew).trans hb'
        clear hown' hg' hat' hb'
        go_wp2_with fail
        go_roundw
        case rel => exact ⟨k + 1, _, c', by omega, by go_num, rfl, HO'.out, hb3⟩
        case measure => simp [intOf] <;> omega
    · obtain rfl : k = n1 := by omega
      clear hlt
      have hcl := own_capM HO.out
      go_wp2_with fail
      refine (implRenumberBlocks_any _ _ _ _ _ HO.out.rd (by omega) hcl.1 hcl.2).mono ?_
      rw [show renB (cod 100 xs ys k) = (renL (cod 100 xs ys k), true) by unfold renB; rw [cod_len, if_pos b8]]
      rintro e w3 ⟨A3, n3, c3, hn3, rfl, ho4, hb4⟩
      have HO4 := Lib.hid ho4
      have HN3 := Lib.hid hn3
      clear ho4 hn3 hcl
      go_wp2_with fail
      go_ret2
      rw [HF.out]
      exact ⟨_, _, _, HN3.out, rfl, HO4.out.mono hbs, hb.trans (hb4.mono hbs)⟩

end Go.Proofs.Ytdjkmeepkodhjaa
