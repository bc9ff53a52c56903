/- Merged: TreeI2. -/
import Derived.Test.YtghfhkbncjgaeaaGreatMg35

namespace Go.Proofs.YtghfhkbncjgaeaaGreat
open Go.RowKit Go.Deep

set_option maxHeartbeats 400000 in
theorem nodes_any (t : Tr) : ∀ w : World, TIn w t → nodes t ≤ 1000000 →
    Calls Tryz.prog 105 #[t.ptr] w fun e w' => e = .returned (.int .i64 (nodes t)) ∧ ∃ n, w' = w.drewN n := by
  induction t with
  | nil =>
    intro w _ _
    show Calls _ _ #[.pointer none] _ _
    go_enter Tryz.func105, Tryz.ntmps105
    go_wp2_with fail
    go_ret
    exact ⟨rfl, 0, rfl⟩
  | node b o a l r ihl ihr =>
    intro w h hn
    obtain ⟨h1, h2, hl, hr⟩ := h
    have hnn : nodes l + nodes r + 1 ≤ 1000000 := hn
    have hnl : nodes l ≤ 1000000 := by omega
    have hnr : nodes r ≤ 1000000 := by omega
    have e1 : IntKind.i64.wrap ((nodes l : Int) + (nodes r : Int)) = (nodes l : Int) + (nodes r : Int) := IntWalk.i64_in _ (by omega)
    have e2 : IntKind.i64.wrap ((nodes l : Int) + (nodes r : Int) + 1) = (nodes l : Int) + (nodes r : Int) + 1 := IntWalk.i64_in _ (by omega)
    have HIHl := Lib.hid (fun w' h => ihl w' h hnl)
    have HIHr := Lib.hid (fun w' h => ihr w' h hnr)
    clear ihl ihr hn hnn hnl hnr
    obtain ⟨pl, hpl⟩ := ptr_ptr l
    obtain ⟨pr, hpr⟩ := ptr_ptr r
    rw [hpl] at h1
    rw [hpr] at h2
    have Hpl := Lib.hid hpl
    have Hpr := Lib.hid hpr
    have hl' := Lib.hid hl
    have hr' := Lib.hid hr
    clear hpl hpr hl hr
    show Calls _ _ #[.pointer (some ⟨b, o, none⟩)] _ _
    go_enter Tryz.func105, Tryz.ntmps105
    go_wp2_with fail
    go_quiet (first | (go_at_call_of 105 (Value.pointer pl); rw [← Hpl.out]; refine Calls.quiet_of (HIHl.out _ ?_); exact hl'.out.drewN _) | (go_at_call_of 105 (Value.pointer pr); rw [← Hpr.out]; refine Calls.quiet_of (HIHr.out _ ?_); exact hr'.out.drewN _))
    go_wp2_with fail
    go_ret
    exact ⟨rfl, _, rfl⟩

/-- What parseTree hands back. -/
def PTree (l : List UInt8) (w : World) (e : Ending) (w' : World) : Prop :=
  Below w.heap.size w w' ∧ match parseB l with
  | none => e = .returned (.tuple #[.pointer none, .bool false])
  | some t => ∃ T : Tr, sh T = t ∧ TIn w' T ∧ Apt w.heap.size w' T ∧ e = .returned (.tuple #[T.ptr, .bool true])
theorem parseB_pz {l : List UInt8} (h : l.length ≤ 25) : parseB l = (pz (l.length + 1) (l.drop 0)).bind fun x => if x.2 = [] then some x.1 else none := by
  unfold parseB; rw [if_pos h]; rfl

set_option maxHeartbeats 800000 in
theorem parseTree_any (l : List UInt8) (w : World) (hl : l.length ≤ 1000000000) :
    Calls Tryz.prog 103 #[.string (bs l)] w (PTree l w) := by
  by_cases h25 : l.length ≤ 25
  · have hR := readTree_any l hl (l.length + 1) 0 w (by omega) (Nat.zero_le _)
    have hpz := parseB_pz h25
    rcases hz : pz (l.length + 1) (l.drop 0) with _ | ⟨t, r⟩
    · rw [hz] at hR hpz
      have HR := Lib.hid (show Calls Tryz.prog 128 #[.string (bs l), .int .i64 0] w (RTree l.length none w) from hR)
      have HF := Lib.hid (show parseB l = none from hpz)
      have e1 : ((-1 : Int) == (l.length : Int)) = false := by rw [beq_eq_false_iff_ne]; omega
      have e2 : ((-1 : Int) != (l.length : Int)) = true := by rw [bne, e1]; rfl
      clear hR hz hpz
      go_enter Tryz.func103, Tryz.ntmps103
      go_wp2_with fail
      refine HR.out.mono ?_
      rintro e w1 ⟨hb, rfl⟩
      go_wp2_with fail
      go_ret2
      unfold PTree
      rw [HF.out]
      exact ⟨hb, rfl⟩
    · rw [hz] at hR hpz
      obtain ⟨e0, hsz⟩ := pz_sound hz
      have HR := Lib.hid (show Calls Tryz.prog 128 #[.string (bs l), .int .i64 0] w (RTree l.length (some (t, r)) w) from hR)
      clear hR hz
      rw [List.drop_zero] at e0
      have hlen := congrArg List.length e0
      rw [List.length_append, tx_len] at hlen
      rcases r with _ | ⟨c, r⟩
      · have HF := Lib.hid (show parseB l = some t from hpz)
        have hn8 : nodes t ≤ 8 := by simp at hlen; omega
        have HZ := Lib.hid (show (l.length : Int) - (([] : List UInt8).length : Int) = (l.length : Int) by simp)
        clear hpz e0 hlen hsz
        go_enter Tryz.func103, Tryz.ntmps103
        go_wp2_with fail
        refine HR.out.mono ?_
        rintro e w1 ⟨hb, T, hs, ht, hp, rfl⟩
        rw [HZ.out]
        obtain ⟨p, hq⟩ := ptr_ptr T
        rw [hq]
        have HT := Lib.hid ht
        have HP := Lib.hid hp
        have HS := Lib.hid hs
        have HQ := Lib.hid hq
        have hnT : nodes T ≤ 8 := by rw [← nodes_sh, hs]; exact hn8
        clear ht hp hs hq
        go_wp2_with fail
        rw [← HQ.out]
        refine (nodes_any T _ HT.out (by omega)).mono ?_
        rintro e w2 ⟨rfl, n, rfl⟩
        rw [HQ.out]
        go_wp2_with fail
        go_ret2
        unfold PTree
        rw [HF.out]
        exact ⟨below_drewN hb n, T, HS.out, HT.out.drewN n, HP.out, by rw [HQ.out]; rfl⟩
      · have HF := Lib.hid (show parseB l = none from hpz)
        obtain ⟨z, hz⟩ : ∃ z : Int, z = (l.length : Int) - ((c :: r).length : Int) := ⟨_, rfl⟩
        have hzlt : z < (l.length : Int) := by rw [hz, List.length_cons]; omega
        have HZ := Lib.hid hz.symm
        have e1 : (z == (l.length : Int)) = false := by rw [beq_eq_false_iff_ne]; omega
        have e2 : (z != (l.length : Int)) = true := by rw [bne, e1]; rfl
        clear hpz e0 hlen hsz hz
        go_enter Tryz.func103, Tryz.ntmps103
        go_wp2_with fail
        refine HR.out.mono ?_
        rintro e w1 ⟨hb, T, hs, ht, hp, rfl⟩
        rw [HZ.out]
        obtain ⟨p, hq⟩ := ptr_ptr T
        rw [hq]
        clear ht hp hs hq
        go_wp2_with fail
        go_ret2
        unfold PTree
        rw [HF.out]
        exact ⟨hb, rfl⟩
  · have HF := Lib.hid (show parseB l = none by unfold parseB; rw [if_neg h25])
    go_enter Tryz.func103, Tryz.ntmps103
    go_wp2_with fail
    go_ret2
    unfold PTree
    rw [HF.out]
    exact ⟨Below.refl _ _, rfl⟩

/-- The two ways through parseTree. -/
theorem parseTree_no (l : List UInt8) (w : World) (hl : l.length ≤ 1000000000) (h : isB l = false) :
    Calls Tryz.prog 103 #[.string (bs l)] w fun e w' => e = .returned (.tuple #[.pointer none, .bool false]) ∧ Below w.heap.size w w' := by
  refine (parseTree_any l w hl).mono ?_
  rintro e w' ⟨hb, he⟩
  have : parseB l = none := by unfold isB at h; rcases hp : parseB l with _ | t; · rfl
                               · rw [hp] at h; cases h
  rw [this] at he
  exact ⟨he, hb⟩
theorem parseTree_yes (t : Tr) (w : World) (h : nodes t ≤ 8) :
    Calls Tryz.prog 103 #[.string (bs (tx t))] w fun e w' => ∃ T p, sh T = sh t ∧ T.ptr = .pointer p ∧ e = .returned (.tuple #[.pointer p, .bool true]) ∧ TIn w' T ∧ Apt w.heap.size w' T ∧ Below w.heap.size w w' := by
  have hl := tx_len t
  refine (parseTree_any (tx t) w (by omega)).mono ?_
  rintro e w' ⟨hb, he⟩
  rw [parseB_tx h] at he
  obtain ⟨T, hs, ht, hp, rfl⟩ := he
  obtain ⟨p, hq⟩ := ptr_ptr T
  exact ⟨T, p, hs, hq, by rw [hq], ht, hp, hb⟩






end Go.Proofs.YtghfhkbncjgaeaaGreat
