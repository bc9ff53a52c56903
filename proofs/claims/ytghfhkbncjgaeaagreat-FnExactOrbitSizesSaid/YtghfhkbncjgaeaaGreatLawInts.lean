/- laws.toIntS, eqIntS, markIntS, heldIntS: what the statements do to slices of ints. -/
import Derived.Test.YtghfhkbncjgaeaaGreatMg3
namespace Go.Proofs.YtghfhkbncjgaeaaGreat
open Go.RowKit

theorem Own.caps {w : World} {e : TypeId} {B : Nat} {A : Option Addr} {n c : Nat} {vs : List Value} (h : Own w e B A n c vs) : n ≤ c ∧ c ≤ 9223372036854775807 := by
  rcases h.2 with ⟨h1, h2⟩ | ⟨g, cap, cur, h1, _, _, h2, h3, _⟩
  · cases h1; exact ⟨by omega, by omega⟩
  · cases h1; unfold maxLen at h3; exact ⟨h2, by omega⟩
/-- eqIntS: true on equal lists. -/
theorem eqIntS_same (A A' : Option Addr) (n c c' : Nat) (xs : List Int) (w : World) (h : Rd w A n (iv xs)) (h' : Rd w A' n (iv xs)) (hn : n ≤ 1048576) :
    Calls Tryz.prog 29 #[.slice A n c, .slice A' n c'] w fun e w' => e = .returned (.bool true) ∧ ∃ k, w' = w.drewN k := by
  have HR := Lib.hid h
  have HR' := Lib.hid h'
  clear h h'
  go_enter Tryz.func29, Tryz.ntmps29
  go_wp2_with fail
  go_loopw [5] (fun i wr => ∃ k m : Nat, k ≤ n ∧ i = .int .i64 k ∧ wr = w.drewN m) (fun i _ => n - (intOf i).toNat)
  case atStart => exact ⟨0, 0, Nat.zero_le _, rfl, rfl⟩
  case round =>
    obtain ⟨k, m, hk, rfl, rfl⟩ := hrel
    by_cases hlt : k < n
    · obtain ⟨b, off, x, rfl, hx, hc⟩ := HR.out.ati hlt
      obtain ⟨b', off', x', rfl, hx', hc'⟩ := HR'.out.ati hlt
      obtain rfl : x = x' := by rw [hx] at hx'; cases hx'; rfl
      clear hx hx'
      go_wp2_with fail
      go_quiet (fail)
      go_wp2_with fail
      go_roundw
      case rel => exact ⟨k + 1, _, by omega, by go_num, rfl⟩
      case measure => simp [intOf]; omega
    · go_wp2_with fail
      go_ret
      exact ⟨rfl, _, rfl⟩

/-- n numbers from k on. -/
def cnt (k : Int) (n : Nat) : List Int := (List.range n).map fun (i : Nat) => k + (i : Int)
theorem cnt_len (k : Int) (n : Nat) : (cnt k n).length = n := by simp [cnt]
theorem cnt_at {k : Int} {n i : Nat} {x : Int} (h : (cnt k n)[i]? = some x) : x = k + i := by
  unfold cnt at h
  rw [List.getElem?_map, Option.map_eq_some_iff] at h
  obtain ⟨j, hj, rfl⟩ := h
  have := List.getElem?_eq_some_iff.1 hj
  simp at this
  omega
theorem iv_setL (xs : List Int) (k : Nat) (x : Int) : (iv xs).set k (.int .i64 x) = iv (xs.set k x) := by simp [iv, List.map_set]
theorem cnt_step {a : Int} {n k : Nat} {xs : List Int} (hl : xs.length = n) (hk : k < n) :
    ((cnt a k) ++ xs.drop k).set k (a + k) = cnt a (k + 1) ++ xs.drop (k + 1) := by
  have e1 : (cnt a k).length = k := cnt_len _ _
  rw [List.set_append_right _ _ (by omega), e1, Nat.sub_self, List.drop_eq_getElem_cons (by omega), List.set_cons_zero]
  unfold cnt
  rw [List.range_succ]
  simp

/-- markIntS writes a counter into each place. -/
theorem markIntS_any (A : Option Addr) (n c B : Nat) (a : Int) (xs : List Int) (w : World) (h : Own w 3 B A n c (iv xs)) (hn : n ≤ 2097152) (ha : 0 ≤ a) (ha' : a ≤ 4000000000000) :
    Calls Tryz.prog 30 #[.slice A n c, .int .i64 a] w fun e w' => e = .returned (.int .i64 (a + n)) ∧ Own w' 3 B A n c (iv (cnt a n)) ∧ Below B w w' ∧ w.grownBy w' (Value.ownBlock (.slice A n c)) := by
  have HL := Lib.hid (show xs.length = n by have := h.len; rw [iv_len] at this; exact this)
  have HO := Lib.hid h
  clear h
  go_enter Tryz.func30, Tryz.ntmps30
  go_wp2_with fail
  go_loopw [1, 5] (fun t i wr => ∃ k : Nat, k ≤ n ∧ i = .int .i64 k ∧ t = .int .i64 (a + k) ∧ Own wr 3 B A n c (iv (cnt a k ++ xs.drop k)) ∧ Below B w wr ∧ w.grownBy wr (Value.ownBlock (.slice A n c))) (fun _ i _ => n - (intOf i).toNat)
  case atStart => exact ⟨0, Nat.zero_le _, rfl, by simp, by simpa [cnt] using HO.out, Below.refl _ _, World.grownBy.refl _ _⟩
  case round =>
    obtain ⟨k, hk, rfl, rfl, hown, hb, hg⟩ := hrel
    by_cases hlt : k < n
    · obtain ⟨g, u, rfl, hB, hgs, hu, hcell, hfr⟩ := hown.at_ hlt
      have HO' := Lib.hid hown
      clear hown hu
      go_wp2_with fail
      go_roundw
      case rel =>
        refine ⟨k + 1, by omega, by go_num, by go_num, ?_, hb.setCell (p := ⟨g, k, none⟩) hB _, ?_⟩
        · rw [← cnt_step HL.out hlt, ← iv_setL]
          exact HO'.out.set_ k _
        · exact ⟨hg.os, hg.tape, hg.output, by simpa [World.setCell] using hg.size, fun i hi hne => (Below.heap_setCell _ _ _ _ (by rintro rfl; exact hne rfl)).trans (hg.block i hi hne)⟩
      case measure => simp [intOf]; omega
    · have hkn : k = n := by omega
      subst hkn
      have HO' := Lib.hid hown
      clear hown
      go_wp2_with fail
      go_ret
      refine ⟨rfl, ?_, hb, hg⟩
      have := HO'.out
      rwa [List.drop_of_length_le (by rw [HL.out]; omega), List.append_nil] at this

/-- heldIntS: the counter stands in each place. -/
theorem heldIntS_same (A : Option Addr) (n c : Nat) (a : Int) (w : World) (h : Rd w A n (iv (cnt a n))) (hn : n ≤ 2097152) (ha : 0 ≤ a) (ha' : a ≤ 4000000000000) :
    Calls Tryz.prog 31 #[.slice A n c, .int .i64 a] w fun e w' => e = .returned (.int .i64 (a + n)) ∧ w = w' := by
  have HR := Lib.hid h
  clear h
  go_enter Tryz.func31, Tryz.ntmps31
  go_wp2_with fail
  go_loop [1, 5] (fun t i => ∃ k : Nat, k ≤ n ∧ i = .int .i64 k ∧ t = .int .i64 (a + k)) (fun _ i => n - (intOf i).toNat)
  case atStart => exact ⟨0, Nat.zero_le _, rfl, by simp⟩
  case round =>
    obtain ⟨k, hk, rfl, rfl⟩ := hrel
    by_cases hlt : k < n
    · obtain ⟨b, off, x, rfl, hx, hc⟩ := HR.out.ati hlt
      obtain rfl := cnt_at hx
      clear hx
      go_wp2_with fail
      go_round
      case rel => exact ⟨k + 1, by omega, by go_num, by go_num⟩
      case measure => simp [intOf]; omega
    · have hkn : k = n := by omega
      subst hkn
      go_wp2_with fail
      go_ret
      exact ⟨rfl, rfl⟩

/-- The same in the words of the statements' walks. -/
theorem eqIntS_w (A A' : Option Addr) (n c c' : Nat) (xs : List Int) (w : World) (h : Rd w A n (iv xs)) (h' : Rd w A' n (iv xs)) (hn : n ≤ 1048576) :
    Calls Tryz.prog 29 #[.slice A n c, .slice A' n c'] w fun e w' => e = .returned (.bool true) ∧ Below w.heap.size w w' :=
  (eqIntS_same A A' n c c' xs w h h' hn).mono fun _ _ ⟨he, hk⟩ => ⟨he, below_of_drewN hk⟩
theorem markIntS_w (A : Option Addr) (n c lo hi : Nat) (a : Int) (xs : List Int) (w : World) (h : OSeg w 3 lo hi A n c (iv xs)) (hn : n ≤ 2097152) (ha : 0 ≤ a) (ha' : a ≤ 4000000000000) :
    Calls Tryz.prog 30 #[.slice A n c, .int .i64 a] w fun e w' => e = .returned (.int .i64 (a + n)) ∧ OSeg w' 3 lo hi A n c (iv (cnt a n)) ∧ Only lo hi w w' :=
  (markIntS_any A n c lo a xs w h.1 hn ha ha').mono fun _ _ ⟨he, ho, _, hg⟩ => ⟨he, ⟨ho, h.2⟩, Only.of_grown hg fun k hk => ⟨(h.1.blk k hk).1, h.2 k hk⟩⟩
theorem heldIntS_w (A : Option Addr) (n c : Nat) (a : Int) (w : World) (h : Rd w A n (iv (cnt a n))) (hn : n ≤ 2097152) (ha : 0 ≤ a) (ha' : a ≤ 4000000000000) :
    Calls Tryz.prog 31 #[.slice A n c, .int .i64 a] w fun e w' => e = .returned (.int .i64 (a + n)) ∧ Below w.heap.size w w' :=
  (heldIntS_same A n c a w h hn ha ha').mono fun _ _ ⟨he, hw⟩ => ⟨he, by subst hw; exact Below.refl _ _⟩

end Go.Proofs.YtghfhkbncjgaeaaGreat
