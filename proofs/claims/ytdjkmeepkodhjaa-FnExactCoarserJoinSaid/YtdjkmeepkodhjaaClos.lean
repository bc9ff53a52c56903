/- impl.NoncrossingClosure. -/
import Derived.Test.YtdjkmeepkodhjaaClosS
namespace Go.Proofs.Ytdjkmeepkodhjaa
open Go.RowKit

set_option maxHeartbeats 1000000 in
theorem implClosure_any (A0 : Option Addr) (n c0 : Nat) (l : List Int) (w : World) (h : Rd w A0 n (iv l)) (hn : n ≤ 1000000000) :
    Calls Try.prog 41 #[.slice A0 n c0] w (RetIB w (clo l).1 (clo l).2) := by
  unfold RetIB
  have hl : l.length = n := by have := h.len; rw [iv_len] at this; exact this
  have HL := Lib.hid hl
  have HO := Lib.hid h
  clear h hl
  rcases hp : isPar l with _ | _
  · have HF := Lib.hid (show clo l = ([], false) by simp [clo, hp])
    have HP := Lib.hid hp
    clear hp
    go_enter Try.func41, Try.ntmps41
    go_wp2_with fail
    refine (implIsPartition_any _ _ _ _ _ HO.out hn).mono ?_
    rintro e w' ⟨rfl, rfl⟩
    rw [HP.out]
    go_wp2_with fail
    go_ret2
    rw [HF.out]
    exact ⟨_, 0, 0, rfl, rfl, own_empty w, (Below.refl _ _).alloc (Nat.le_refl _) _⟩
  have HF := Lib.hid (show clo l = (renL (closB l), true) by simp [clo, hp])
  have h8 : n ≤ 8 := by have := (isPar_iff hp).1; rw [HL.out] at this; exact this
  have HP := Lib.hid hp
  have HX := Lib.hid (show (renL (closB l)).length = n by rw [renL_len, clos_len, HL.out])
  clear hp
  go_enter Try.func41, Try.ntmps41
  go_wp2_with fail
  refine (implIsPartition_any _ _ _ _ _ HO.out hn).mono ?_
  rintro e w' ⟨rfl, rfl⟩
  rw [HP.out]
  go_wp2_with fail
  refine (copyInts_any _ _ _ _ _ HO.out hn).mono ?_
  rintro e w1 ⟨A1, n1, c1, hn1, rfl, ho1, hb1⟩
  obtain rfl : n1 = n := hn1.trans HL.out
  have P1 := Lib.hid ho1
  have hws := hb1.size
  clear ho1 hn1
  go_wp2_with fail
  refine (closure_any _ _ _ w.heap.size w.heap.size l _ P1.out h8 (Nat.le_refl _) hws).mono ?_
  rintro e w2 ⟨A2, c2, rfl, ho2, hb2⟩
  have P2 := Lib.hid ho2
  clear ho2
  go_wp2_with fail
  go_ret2
  rw [HF.out]
  exact ⟨A2, _, c2, HX.out.symm, rfl, P2.out, hb1.trans hb2⟩

end Go.Proofs.Ytdjkmeepkodhjaa
