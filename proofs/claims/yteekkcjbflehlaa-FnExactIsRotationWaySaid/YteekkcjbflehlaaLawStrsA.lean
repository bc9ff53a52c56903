/- laws.szStringS, toStringS: a slice of texts as an argument. -/
import Derived.Test.YteekkcjbflehlaaLawStrs
namespace Go.Proofs.Yteekkcjbflehlaa
set_option linter.unusedVariables false
open Go.RowKit

theorem mem_take_snoc {xs : List (List UInt8)} {k : Nat} {x : List UInt8} {P : List UInt8 → Prop} (h : xs[k]? = some x) (hp : ∀ y ∈ xs.take k, P y) (hx : P x) : ∀ y ∈ xs.take (k + 1), P y := by
  obtain ⟨h1, h2⟩ := List.getElem?_eq_some_iff.1 h
  rw [List.take_succ_eq_append_getElem h1, h2]
  intro y hy
  rcases List.mem_append.1 hy with h3 | h3
  · exact hp y h3
  · simp at h3; rw [h3]; exact hx
theorem sv_set_rep {xs : List (List UInt8)} {k n : Nat} {x : List UInt8} (hk : k < n) (hx : xs[k]? = some x) :
    (sv (xs.take k) ++ List.replicate (n - k) (Value.string ByteArray.empty)).set k (.string (bs x)) = sv (xs.take (k + 1)) ++ List.replicate (n - (k + 1)) (Value.string ByteArray.empty) := by
  have hl : k < xs.length := (List.getElem?_eq_some_iff.1 hx).1
  have hxx : xs[k] = x := (List.getElem?_eq_some_iff.1 hx).2
  have e1 : (sv (xs.take k)).length = k := by simp [sv]; omega
  rw [List.set_append_right _ _ (by omega), e1, Nat.sub_self, show n - k = (n - (k + 1)) + 1 from by omega, List.replicate_succ, List.set_cons_zero]
  rw [List.take_succ_eq_append_getElem hl, hxx]
  simp [sv]

/-- The lengths add up to little, or -1. -/
def SzPost (n : Nat) (L : List (List UInt8)) (w : World) (e : Ending) (w' : World) : Prop :=
  w = w' ∧ (e = .returned (.int .i64 (-1)) ∨ ∃ z : Nat, e = .returned (.int .i64 (z : Int)) ∧ n ≤ 1048576 ∧ ∀ x ∈ L, x.length ≤ 1048576)
set_option maxHeartbeats 1000000 in
theorem szStringS_any (A : Option Addr) (n c : Nat) (L : List (List UInt8)) (w : World) (h : Rd w A n (sv L)) (hn : n ≤ 9223372036854775807) (hL : ∀ x ∈ L, x.length ≤ 9223372036854775807) :
    Calls Try.prog 41 #[.slice A n c, .int .i64 1048576] w (SzPost n L w) := by
  have HR := Lib.hid h
  have HL := Lib.hid (show L.length = n by have := h.len; rw [sv_len] at this; exact this)
  have HM := Lib.hid hL
  clear h hL
  by_cases hbig : 1048576 < n
  · have h1 : (1048576 : Int) - (n : Int) < 0 := by omega
    have h2 : IntKind.i64.wrap (1048576 - (n : Int)) = 1048576 - (n : Int) := IntWalk.i64_in _ (by omega)
    go_enter Try.func41, Try.ntmps41
    go_wp2_with fail
    go_ret
    exact ⟨rfl, Or.inl rfl⟩
  have h2 : IntKind.i64.wrap (1048576 - (n : Int)) = 1048576 - (n : Int) := IntWalk.i64_in _ (by omega)
  obtain ⟨m, hm⟩ : ∃ m : Nat, (1048576 : Int) - (n : Int) = (m : Int) := ⟨1048576 - n, by omega⟩
  have hm1 : m ≤ 1048576 := by omega
  have HMM := Lib.hid hm
  rw [hm] at h2
  have h3 : ¬ ((1048576 : Int) - (n : Int) < 0) := by omega
  clear hm
  go_enter Try.func41, Try.ntmps41
  go_wp2_with fail
  go_loop [1, 5] (fun z i => ∃ k q : Nat, k ≤ n ∧ q ≤ 1048576 ∧ i = .int .i64 k ∧ z = .int .i64 q ∧ Hid (∀ x ∈ L.take k, x.length ≤ 1048576)) (fun _ i => n - (intOf i).toNat)
  case atStart => exact ⟨0, m, Nat.zero_le _, hm1, rfl, by first | rfl | rw [HMM.out] | (rw [← HMM.out]), Lib.hid (by simp)⟩
  case round =>
    obtain ⟨k, q, hk, hq, rfl, rfl, HX⟩ := hrel
    by_cases hlt : k < n
    · obtain ⟨b, off, y, rfl, hy, hc⟩ := HR.out.ats hlt
      have hy9 := HM.out y (List.mem_of_getElem? hy)
      have HY := Lib.hid hy
      have k0 : (0 : Int) ≤ (k : Int) := by omega
      have k1 : (k : Int) < (n : Int) := by omega
      have w1 : IntKind.i64.wrap ((q : Int) - (y.length : Int)) = (q : Int) - (y.length : Int) := IntWalk.i64_in _ (by omega)
      clear hy
      by_cases hy2 : q < y.length
      · have h4 : (q : Int) - (y.length : Int) < 0 := by omega
        go_wp2_with fail
        go_ret
        exact ⟨rfl, Or.inl rfl⟩
      · have h4 : ¬ ((q : Int) - (y.length : Int) < 0) := by omega
        have HN := Lib.hid (mem_take_snoc (P := fun y => y.length ≤ 1048576) HY.out HX.out (by omega))
        go_wp2_with fail
        go_round
        case rel => exact ⟨k + 1, q - y.length, by omega, by omega, by go_num, by go_num, HN⟩
        case measure => simp [intOf]; omega
    · have hkn : k = n := by omega
      have HF := Lib.hid (show ∀ x ∈ L, x.length ≤ 1048576 by have := HX.out; rw [hkn, List.take_of_length_le (by rw [HL.out]; exact Nat.le_refl _)] at this; exact this)
      clear hkn
      go_wp2_with fail
      go_ret
      exact ⟨rfl, Or.inr ⟨q, rfl, by omega, HF.out⟩⟩

theorem toStringS_any (A : Option Addr) (n c : Nat) (xs : List (List UInt8)) (w : World) (h : Rd w A n (sv xs)) (hn : n ≤ 1048576) :
    Calls Try.prog 43 #[.slice A n c] w (RetS w xs) := by
  have hmk := run_make_row' (P := Try.prog) 36 9 (.string ByteArray.empty) 16 Try.underlying36 info_str rfl .i64 .i64 n (by omega) (by omega)
  have HR := Lib.hid h
  have hl := h.len
  have HL := Lib.hid hl
  clear h hl
  go_enter Try.func43, Try.ntmps43
  go_wp2_with fail
  go_loopw [4] (fun i wr => ∃ k : Nat, k ≤ n ∧ i = .int .i64 k ∧ Own wr 9 w.heap.size (some ⟨w.heap.size, 0, none⟩) n n (sv (xs.take k) ++ List.replicate (n - k) (Value.string ByteArray.empty)) ∧ Below w.heap.size w wr) (fun i _ => n - (intOf i).toNat)
  case atStart => exact ⟨0, Nat.zero_le _, rfl, by simpa [sv] using Own.made w _ (.string ByteArray.empty) n (by unfold maxLen; omega), (Below.refl _ _).alloc (Nat.le_refl _) _⟩
  case round =>
    obtain ⟨k, hk, rfl, hown, hb⟩ := hrel
    by_cases hlt : k < n
    · obtain ⟨b, off, x, rfl, hx, hc⟩ := (HR.out.below hb).ats hlt
      obtain ⟨g, u, hg, hB, hgs, hu, hcell, hfr⟩ := hown.at_ hlt
      obtain rfl : w.heap.size = g := by cases hg; rfl
      have HO := Lib.hid hown
      have HX := Lib.hid hx
      clear hown hx hu
      clear hg
      go_wp2_with fail
      go_roundw
      case rel =>
        refine ⟨k + 1, by omega, by go_num, ?_, hb.setCell (p := ⟨w.heap.size, k, none⟩) (Nat.le_refl _) _⟩
        rw [← sv_set_rep hlt HX.out]
        exact HO.out.set_ k _
      case measure => simp [intOf]; omega
    · have hkn : k = n := by omega
      subst hkn
      have HO := Lib.hid hown
      clear hown
      go_wp2_with fail
      go_ret
      refine RetS.mk (by have := HL.out; rw [sv_len] at this; exact this.symm) rfl ?_ hb
      have := HO.out
      rw [Nat.sub_self, List.replicate_zero, List.append_nil, List.take_of_length_le (by have := HL.out; rw [sv_len] at this; omega)] at this
      exact this

end Go.Proofs.Yteekkcjbflehlaa
