/- The reference's WeightsOf, l16Build, BinaryOfWeights. -/
import Derived.Test.YtiebaoglcdbopaaTreeS
import Derived.Test.YtiebaoglcdbopaaInts
namespace Go.Proofs.Ytiebaoglcdbopaa
open Go.RowKit Go.Deep

def wtsB (l : List UInt8) : List Int := match parseB l with
  | none => []
  | some t => wts t
theorem wtsB_no {l : List UInt8} (h : isB l = false) : wtsB l = [] := by
  unfold isB at h
  rcases hp : parseB l with _ | t
  · rw [wtsB, hp]
  · rw [hp] at h; cases h
theorem wtsB_tx {t : Tr} (h : nodes t ≤ 8) : wtsB (tx t) = wts t := by rw [wtsB, parseB_tx h, ← wts_sh t]
theorem wtsB_len (l : List UInt8) : (wtsB l).length ≤ 8 := by
  rcases isB_cases l with hb | ⟨t, rfl, h8, _⟩
  · rw [wtsB_no hb]; simp
  · rw [wtsB_tx h8, wts_len]; exact h8
theorem wts_take {t : Tr} {k : Nat} (h : k < nodes t) : (wts t).take (k + 1) = (wts t).take k ++ [(rnodes (nodeAt t k) : Int)] := by
  have h1 := wts_at t k h
  obtain ⟨h2, h3⟩ := List.getElem?_eq_some_iff.1 h1
  rw [List.take_succ_eq_append_getElem h2, h3]

set_option maxHeartbeats 1000000 in
theorem specWeightsOf_any (l : List UInt8) (w : World) (hl : l.length ≤ 1000000000) :
    Calls Try.prog 42 #[.string (bs l)] w (RetI w (wtsB l)) := by
  rcases isB_cases l with hb | ⟨t, rfl, h8, _⟩
  · have HF := Lib.hid (wtsB_no hb)
    have HN := Lib.hid (nodesB_no hb)
    clear hb
    go_enter Try.func42, Try.ntmps42
    go_wp2_with fail
    refine wp_loop_rounds 1 ?_
    rw [rounds_succ]
    go_wp2_with fail
    refine (specNodesOf_any _ _ hl).mono ?_
    rintro e w' ⟨rfl, rfl⟩
    rw [HN.out]
    go_wp2_with fail
    go_ret
    rw [HF.out]
    exact ⟨_, 0, 0, rfl, rfl, own_empty w, (Below.refl _ _).alloc (Nat.le_refl _) _⟩
  · have HF := Lib.hid (wtsB_tx h8)
    have HN := Lib.hid (nodesB_tx h8)
    have HW := Lib.hid (wts_len t)
    go_enter Try.func42, Try.ntmps42
    go_wp2_with fail
    go_loopw [3, 4, 5, 6] (fun s v _ _ wr => ∃ (k : Nat) (A : Option Addr) (c : Nat), k ≤ nodes t ∧ v = .int .i64 k ∧ s = .slice A k c ∧ Own wr 3 w.heap.size A k c (iv ((wts t).take k)) ∧ Below w.heap.size w wr) (fun _ v _ _ _ => nodes t - (intOf v).toNat)
    case atStart => exact ⟨0, _, _, Nat.zero_le _, rfl, rfl, own_empty w, (Below.refl _ _).alloc (Nat.le_refl _) _⟩
    case round =>
      obtain ⟨k, A, cp, hk, rfl, rfl, hown, hb⟩ := hrel
      have HO := Lib.hid hown
      have hbs := hb.size
      clear hown
      by_cases hlt : k < nodes t
      · obtain ⟨b, o, a, sl, sr, hS⟩ := nodeAt_node hlt
        have hle := nodeAt_le t k
        have hsn : nodes sl + nodes sr + 1 ≤ 8 := by rw [hS] at hle; exact Nat.le_trans hle h8
        obtain ⟨L, x, hL, hc⟩ := cut_of b o a sl sr
        have HNA := Lib.hid (show ∀ w, Calls Try.prog 81 #[.string (bs (tx t)), .int .i64 (k : Int)] w fun e w' => e = .returned (.string (bs L)) ∧ w = w' by
          rw [hL, ← hS]; exact fun w => l16Node_any t k w hlt (by omega))
        have HC := Lib.hid hc
        have hlen := hc.len
        have hxn := hc.xn
        have hL9 : L.length ≤ 1000000000 := by omega
        have b1 : x + 1 ≤ L.length - 1 := by omega
        have b2 : 2 ≤ L.length := by omega
        obtain ⟨nr, hnr⟩ : ∃ nr, nr = nodes sr := ⟨_, rfl⟩
        have e3 : ((L.length : Int) - 1 - (x : Int) - 1) / 3 = (nr : Int) := by rw [hnr]; omega
        have HT := Lib.hid (show (wts t).take (k + 1) = (wts t).take k ++ [(nr : Int)] by rw [wts_take hlt, hS, hnr]; rfl)
        clear hlen hxn hL hS hle hc hnr hsn
        go_wp2_with fail
        refine (specNodesOf_any _ _ hl).mono ?_
        rintro e w' ⟨rfl, rfl⟩
        rw [HN.out]
        go_wp2_with fail
        refine (HNA.out _).mono ?_
        rintro e w' ⟨rfl, rfl⟩
        go_wp2_with fail
        refine (l6End_sub _ 1 x sl _ _ hL9 HC.out.at1 HC.out.x_eq).mono ?_
        rintro e w' ⟨rfl, rfl⟩
        go_wp2_with (at_builtin; refine appI _ rfl _ _ rfl w.heap.size A k cp _ rfl (HO.out.alloc _) wr.heap.size (nr : Int) rfl (by simp) (by omega) hbs ?_; intro A' c' w' hown' hg' hb')
        have HW' := Lib.hid hown'
        clear hown'
        go_wp2_with fail
        go_roundw
        case rel => exact ⟨k + 1, A', c', by omega, by go_num, rfl, by rw [HT.out, iv_snoc]; exact HW'.out, (hb.alloc hb.size _).trans hb'⟩
        case measure => simp [intOf]; omega
      · have hkn : k = nodes t := by omega
        have HO2 := Lib.hid (show Own wr 3 w.heap.size A k cp (iv (wts t)) by have := HO.out; rw [List.take_of_length_le (by rw [HW.out]; omega)] at this; exact this)
        have HK := Lib.hid hkn
        clear hkn
        go_wp2_with fail
        refine (specNodesOf_any _ _ hl).mono ?_
        rintro e w' ⟨rfl, rfl⟩
        rw [HN.out]
        go_wp2_with fail
        go_ret
        rw [HF.out]
        exact ⟨A, k, cp, by rw [HW.out]; exact HK.out, rfl, HO2.out, hb⟩

end Go.Proofs.Ytiebaoglcdbopaa
