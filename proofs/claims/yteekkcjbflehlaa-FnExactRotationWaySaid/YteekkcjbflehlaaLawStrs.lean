/- laws.eqStringS, markText, markStringS, heldStringS: what the statements do to slices of strings. -/
import Derived.Test.YteekkcjbflehlaaStrs
namespace Go.Proofs.Yteekkcjbflehlaa
open Go.RowKit

/-- eqStringS: true on equal lists. -/
theorem eqStringS_same (A A' : Option Addr) (n c c' : Nat) (xs : List (List UInt8)) (w : World) (h : Rd w A n (sv xs)) (h' : Rd w A' n (sv xs)) (hn : n ≤ 1048576) :
    Calls Try.prog 45 #[.slice A n c, .slice A' n c'] w fun e w' => e = .returned (.bool true) ∧ ∃ k, w' = w.drewN k := by
  have HR := Lib.hid h
  have HR' := Lib.hid h'
  clear h h'
  go_enter Try.func45, Try.ntmps45
  go_wp2_with fail
  go_loopw [5] (fun i wr => ∃ k m : Nat, k ≤ n ∧ i = .int .i64 k ∧ wr = w.drewN m) (fun i _ => n - (intOf i).toNat)
  case atStart => exact ⟨0, 0, Nat.zero_le _, rfl, rfl⟩
  case round =>
    obtain ⟨k, m, hk, rfl, rfl⟩ := hrel
    by_cases hlt : k < n
    · obtain ⟨b, off, x, rfl, hx, hc⟩ := HR.out.ats hlt
      obtain ⟨b', off', x', rfl, hx', hc'⟩ := HR'.out.ats hlt
      obtain rfl : x = x' := by rw [hx] at hx'; cases hx'; rfl
      clear hx hx'
      go_wp2_with fail
      go_quiet (fail)
      go_wp2_with fail
      go_roundw
      case rel => exact ⟨k + 1, _, by omega, by go_num, rfl⟩
      case measure => simp [intOf]; omega
    · go_wp2_with fail
      go_ret
      exact ⟨rfl, _, rfl⟩

/-- The digits of k ahead of out; f is fuel. -/
def dgs : Nat → Nat → List UInt8 → List UInt8
  | 0, _, out => out
  | f + 1, k, out => if k = 0 then out else dgs f (k / 10) (b1 (48 + (k : Int) % 10) ++ out)
def mt (k : Int) : List UInt8 := 109 :: dgs k.toNat k.toNat []

theorem markText_any (x : Int) (h0 : 1 ≤ x) (h1 : x ≤ 4000000) (w : World) :
    Calls Try.prog 103 #[.int .i64 x] w fun e w' => e = .returned (.string (bs (mt x))) ∧ Below w.heap.size w w' := by
  obtain ⟨k0, rfl⟩ := Int.eq_ofNat_of_zero_le (show 0 ≤ x by omega)
  go_enter Try.func103, Try.ntmps103
  go_wp2_with fail
  go_loopw [0, 3] (fun i t wr => ∃ (f k : Nat) (out : List UInt8), k ≤ f ∧ i = .int .i64 k ∧ t = .string (bs out) ∧ Hid (dgs f k out = dgs k0 k0 []) ∧ out.length + f ≤ 4000000 ∧ Below w.heap.size w wr) (fun i _ _ => (intOf i).toNat)
  case atStart => exact ⟨k0, k0, [], Nat.le_refl _, rfl, rfl, rfl, by simp; omega, Below.refl _ _⟩
  case round =>
    obtain ⟨f, k, out, hkf, rfl, rfl, HD, hlen, hb⟩ := hrel
    have hsz : (bs out).size ≤ 4000000 := by rw [size_bs]; omega
    by_cases hk : k = 0
    · subst hk
      have HE := Lib.hid (show out = dgs k0 k0 [] by rw [← HD.out]; cases f <;> simp [dgs])
      go_wp2_with fail
      go_ret
      exact ⟨by rw [mt, HE.out, bs_lit, bs_append]; rfl, hb⟩
    · have hk' : 0 < k := by omega
      obtain ⟨f, rfl⟩ : ∃ f', f = f' + 1 := ⟨f - 1, by omega⟩
      have hcv := run_cv1 (P := Try.prog) wr 22 5 9 Try.underlying22 Try.underlying5 Try.underlying9 (48 + (k : Int) % 10) (by omega) (by omega)
      have hs1 : (bs (b1 (48 + (k : Int) % 10))).size ≤ 1 := Nat.le_refl _
      go_wp2_with fail
      go_roundw
      case rel => exact ⟨f, k / 10, _, by omega, by go_num, rfl, by have := HD.out; rw [dgs, if_neg hk] at this; exact this, by simp [b1]; omega, hb.alloc hb.size _⟩
      case measure => simp [intOf]; omega

/-- n marks from k on. -/
def mts (k : Int) (n : Nat) : List (List UInt8) := (List.range n).map fun (i : Nat) => mt (k + (i : Int))
theorem mts_len (k : Int) (n : Nat) : (mts k n).length = n := by simp [mts]
theorem mts_at {k : Int} {n i : Nat} {x : List UInt8} (h : (mts k n)[i]? = some x) : x = mt (k + i) := by
  unfold mts at h
  rw [List.getElem?_map, Option.map_eq_some_iff] at h
  obtain ⟨j, hj, rfl⟩ := h
  have := List.getElem?_eq_some_iff.1 hj
  simp at this
  obtain ⟨_, rfl⟩ := this
  rfl
theorem sv_set (xs : List (List UInt8)) (k : Nat) (x : List UInt8) : (sv xs).set k (.string (bs x)) = sv (xs.set k x) := by simp [sv, List.map_set]
theorem mts_step {a : Int} {n k : Nat} {xs : List (List UInt8)} (hl : xs.length = n) (hk : k < n) :
    ((mts a k) ++ xs.drop k).set k (mt (a + k)) = mts a (k + 1) ++ xs.drop (k + 1) := by
  have e1 : (mts a k).length = k := mts_len _ _
  rw [List.set_append_right _ _ (by omega), e1, Nat.sub_self, List.drop_eq_getElem_cons (by omega), List.set_cons_zero]
  unfold mts
  rw [List.range_succ]
  simp

theorem markStringS_any (A : Option Addr) (n c lo hi : Nat) (a : Int) (xs : List (List UInt8)) (w : World) (h : OSeg w 9 lo hi A n c (sv xs)) (hn : n ≤ 1048576) (ha : 1 ≤ a) (ha' : a ≤ 2000000) :
    Calls Try.prog 50 #[.slice A n c, .int .i64 a] w fun e w' => e = .returned (.int .i64 (a + n)) ∧ OSeg w' 9 lo hi A n c (sv (mts a n)) ∧ Only lo hi w w' := by
  have HL := Lib.hid (show xs.length = n by have := h.1.len; rw [sv_len] at this; exact this)
  have HO := Lib.hid h
  clear h
  go_enter Try.func50, Try.ntmps50
  go_wp2_with fail
  go_loopw [1, 5] (fun t i wr => ∃ k : Nat, k ≤ n ∧ i = .int .i64 k ∧ t = .int .i64 (a + k) ∧ OSeg wr 9 lo hi A n c (sv (mts a k ++ xs.drop k)) ∧ Only lo hi w wr) (fun _ i _ => n - (intOf i).toNat)
  case atStart => exact ⟨0, Nat.zero_le _, rfl, by simp, by simpa [mts] using HO.out, ⟨rfl, rfl, rfl, Nat.le_refl _, fun _ _ _ => rfl⟩⟩
  case round =>
    obtain ⟨k, hk, rfl, rfl, hown, hon⟩ := hrel
    have HO' := Lib.hid hown
    have HON := Lib.hid hon
    clear hown hon
    by_cases hlt : k < n
    · go_wp2_with fail
      refine (markText_any _ (by omega) (by omega) _).mono ?_
      rintro e w1 ⟨rfl, hb⟩
      have HO'' := Lib.hid (HO'.out.below hb)
      obtain ⟨g, u, rfl, hB, hgs, hu, hcell, hfr⟩ := HO''.out.1.at_ hlt
      have hgh := HO''.out.2 g rfl
      have HBE := Lib.hid hb
      clear hb hu
      go_wp2_with fail
      go_roundw
      case rel =>
        refine ⟨k + 1, by omega, by go_num, by go_num, ⟨?_, HO''.out.2⟩, ?_⟩
        · rw [← mts_step HL.out hlt, ← sv_set]
          exact HO''.out.1.set_ k _
        · have h1 := HON.out
          have h2 := HBE.out
          refine ⟨h2.os.trans h1.os, h2.tape.trans h1.tape, h2.output.trans h1.output, by have := h1.size; have := h2.size; simp [World.setCell]; omega, fun i hi hne => ?_⟩
          have := h1.size
          exact (Below.heap_setCell _ _ _ _ (by intro hh; simp at hh; omega)).trans ((h2.block i (by omega)).trans (h1.block i hi hne))
      case measure => simp [intOf]; omega
    · have hkn : k = n := by omega
      subst hkn
      go_wp2_with fail
      go_ret
      refine ⟨rfl, ?_, HON.out⟩
      have := HO'.out
      rwa [List.drop_of_length_le (by rw [HL.out]; omega), List.append_nil] at this

theorem heldStringS_any (A : Option Addr) (n c : Nat) (a : Int) (w : World) (h : Rd w A n (sv (mts a n))) (hn : n ≤ 1048576) (ha : 1 ≤ a) (ha' : a ≤ 2000000) :
    Calls Try.prog 51 #[.slice A n c, .int .i64 a] w fun e w' => e = .returned (.int .i64 (a + n)) ∧ Below w.heap.size w w' := by
  have HR := Lib.hid h
  clear h
  go_enter Try.func51, Try.ntmps51
  go_wp2_with fail
  go_loopw [1, 5] (fun t i wr => ∃ k : Nat, k ≤ n ∧ i = .int .i64 k ∧ t = .int .i64 (a + k) ∧ Below w.heap.size w wr) (fun _ i _ => n - (intOf i).toNat)
  case atStart => exact ⟨0, Nat.zero_le _, rfl, by simp, Below.refl _ _⟩
  case round =>
    obtain ⟨k, hk, rfl, rfl, hb⟩ := hrel
    by_cases hlt : k < n
    · obtain ⟨b, off, x, rfl, hx, hc⟩ := (HR.out.below hb).ats hlt
      obtain rfl := mts_at hx
      have hblk := World.block_lt_of_cell? _ _ hc
      obtain ⟨T, hT⟩ : ∃ T, T = mt (a + (k : Int)) := ⟨_, rfl⟩
      rw [← hT] at hc
      have HT := Lib.hid hT
      clear hx hT
      have hk0 : (0 : Int) ≤ (k : Int) := by omega
      have hk1 : (k : Int) < (n : Int) := by omega
      go_wp2_with fail
      go_region_held3 (fun w' => w'.cell? ⟨b, off + k, none⟩ = some (.string (bs T)))
        (first | exact hc | exact hc2 | go_keep)
        (first | (go_at_call 103; refine (markText_any _ (by omega) (by omega) _).mono ?_; rintro e w2 ⟨rfl, hb2⟩; rw [← HT.out]; have hc2 := (hb2.cell (p := ⟨b, off + k, none⟩) hblk).trans hc))
      go_wp2_with fail
      go_roundw
      case rel => exact ⟨k + 1, by omega, by go_num, by go_num, hb.drew.trans (hb2.mono hb.size)⟩
      case measure => simp [intOf]; omega
    · have hkn : k = n := by omega
      subst hkn
      go_wp2_with fail
      go_ret
      exact ⟨rfl, hb⟩

theorem eqStringS_w (A A' : Option Addr) (n c c' : Nat) (xs : List (List UInt8)) (w : World) (h : Rd w A n (sv xs)) (h' : Rd w A' n (sv xs)) (hn : n ≤ 1048576) :
    Calls Try.prog 45 #[.slice A n c, .slice A' n c'] w fun e w' => e = .returned (.bool true) ∧ Below w.heap.size w w' :=
  (eqStringS_same A A' n c c' xs w h h' hn).mono fun _ _ ⟨he, hk⟩ => ⟨he, below_of_drewN hk⟩
theorem markStringS_w (A : Option Addr) (n c lo hi : Nat) (a : Int) (xs : List (List UInt8)) (w : World) (h : OSeg w 9 lo hi A n c (sv xs)) (hn : n ≤ 1048576) (ha : 1 ≤ a) (ha' : a ≤ 2000000) :
    Calls Try.prog 50 #[.slice A n c, .int .i64 a] w fun e w' => e = .returned (.int .i64 (a + n)) ∧ OSeg w' 9 lo hi A n c (sv (mts a n)) ∧ Only lo hi w w' :=
  markStringS_any A n c lo hi a xs w h hn ha ha'
theorem heldStringS_w (A : Option Addr) (n c : Nat) (a : Int) (w : World) (h : Rd w A n (sv (mts a n))) (hn : n ≤ 1048576) (ha : 1 ≤ a) (ha' : a ≤ 2000000) :
    Calls Try.prog 51 #[.slice A n c, .int .i64 a] w fun e w' => e = .returned (.int .i64 (a + n)) ∧ Below w.heap.size w w' :=
  heldStringS_any A n c a w h hn ha ha'

end Go.Proofs.Yteekkcjbflehlaa
