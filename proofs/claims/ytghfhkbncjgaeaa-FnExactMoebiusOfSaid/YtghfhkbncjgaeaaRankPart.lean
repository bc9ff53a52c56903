/- RankOfPartition of both sides. -/
import Derived.Test.YtghfhkbncjgaeaaBlocks
namespace Go.Proofs.Ytghfhkbncjgaeaa
open Go.RowKit
set_option maxHeartbeats 400000 in
theorem specRankOfPartition_any (A : Option Addr) (n c : Nat) (xs : List Int) (w : World) (h : Rd w A n (iv xs)) (hn : n ≤ 1000000000) :
    Calls Try.prog 34 #[.slice A n c] w fun e w' => e = .returned (.int .i64 (rankP xs)) ∧ Below w.heap.size w w' := by
  have HR := Lib.hid h
  have hL : xs.length = n := by have := h.len; rw [iv_len] at this; exact this
  clear h
  rcases hp : isPar xs with _ | _
  · have HF := Lib.hid (show rankP xs = -1 by simp [rankP, hp])
    have HP := Lib.hid hp
    clear hp
    go_enter Try.func34, Try.ntmps34
    go_wp2_with fail
    refine (specIsPartition_any _ _ _ _ _ HR.out hn).mono ?_
    rintro e w' ⟨rfl, rfl⟩
    rw [HP.out]
    go_wp2_with fail
    go_ret
    exact ⟨ret_int (by rw [HF.out]), Below.refl _ _⟩
  · have h8 : n ≤ 8 := by have := (isPar_iff hp).1; omega
    have hb9 := nx_bd xs n
    have HF := Lib.hid (show rankP xs = (n : Int) - nx xs n by simp [rankP, hp, hL])
    have HB := Lib.hid (show ((blocksB xs).length : Int) = nx xs n by simp [blocksB, hp]; rw [blk_len _ (Nat.le_refl _), hL])
    have HP := Lib.hid hp
    clear hp
    go_enter Try.func34, Try.ntmps34
    go_wp2_with fail
    refine (specIsPartition_any _ _ _ _ _ HR.out hn).mono ?_
    rintro e w' ⟨rfl, rfl⟩
    rw [HP.out]
    go_wp2_with fail
    refine (specBlocksOf_any _ _ _ _ _ HR.out hn).mono ?_
    rintro e w' ⟨A', m, c', vs, rfl, ho, hb⟩
    have hm : (m : Int) = nx xs n := by rw [ho.n_eq]; exact HB.out
    have HM := Lib.hid hm
    have hm8 : m ≤ n := by omega
    clear ho hm hb9
    go_wp2_with fail
    go_ret
    exact ⟨ret_int (by rw [HF.out, HM.out]), hb⟩

end Go.Proofs.Ytghfhkbncjgaeaa
