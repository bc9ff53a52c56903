/- The program's nodes, parseTree, IsBinary, NodesOf, find, node. -/
import Derived.Test.YtiebaoglcdbopaaTreeI
namespace Go.Proofs.Ytiebaoglcdbopaa
open Go.RowKit Go.Deep

set_option maxHeartbeats 400000 in
theorem nodes_any (t : Tr) : ∀ w : World, TIn w t → nodes t ≤ 1000000 →
    Calls Try.prog 101 #[t.ptr] w fun e w' => e = .returned (.int .i64 (nodes t)) ∧ ∃ n, w' = w.drewN n := by
  induction t with
  | nil =>
    intro w _ _
    show Calls _ _ #[.pointer none] _ _
    go_enter Try.func101, Try.ntmps101
    go_wp2_with fail
    go_ret
    exact ⟨rfl, 0, rfl⟩
  | node b o a l r ihl ihr =>
    intro w h hn
    obtain ⟨h1, h2, hl, hr⟩ := h
    have hnn : nodes l + nodes r + 1 ≤ 1000000 := hn
    have hnl : nodes l ≤ 1000000 := by omega
    have hnr : nodes r ≤ 1000000 := by omega
    have e1 : IntKind.i64.wrap ((nodes l : Int) + (nodes r : Int)) = (nodes l : Int) + (nodes r : Int) := IntWalk.i64_in _ (by omega)
    have e2 : IntKind.i64.wrap ((nodes l : Int) + (nodes r : Int) + 1) = (nodes l : Int) + (nodes r : Int) + 1 := IntWalk.i64_in _ (by omega)
    have HIHl := Lib.hid (fun w' h => ihl w' h hnl)
    have HIHr := Lib.hid (fun w' h => ihr w' h hnr)
    clear ihl ihr hn hnn hnl hnr
    obtain ⟨pl, hpl⟩ := ptr_ptr l
    obtain ⟨pr, hpr⟩ := ptr_ptr r
    rw [hpl] at h1
    rw [hpr] at h2
    have Hpl := Lib.hid hpl
    have Hpr := Lib.hid hpr
    have hl' := Lib.hid hl
    have hr' := Lib.hid hr
    clear hpl hpr hl hr
    show Calls _ _ #[.pointer (some ⟨b, o, none⟩)] _ _
    go_enter Try.func101, Try.ntmps101
    go_wp2_with fail
    go_quiet (first | (go_at_call_of 101 (Value.pointer pl); rw [← Hpl.out]; refine Calls.quiet_of (HIHl.out _ ?_); exact hl'.out.drewN _) | (go_at_call_of 101 (Value.pointer pr); rw [← Hpr.out]; refine Calls.quiet_of (HIHr.out _ ?_); exact hr'.out.drewN _))
    go_wp2_with fail
    go_ret
    exact ⟨rfl, _, rfl⟩

/-- What parseTree hands back. -/
def PTree (l : List UInt8) (w : World) (e : Ending) (w' : World) : Prop :=
  Below w.heap.size w w' ∧ match parseB l with
  | none => e = .returned (.tuple #[.pointer none, .bool false])
  | some t => ∃ T : Tr, sh T = t ∧ TIn w' T ∧ Apt w.heap.size w' T ∧ e = .returned (.tuple #[T.ptr, .bool true])
theorem parseB_pz {l : List UInt8} (h : l.length ≤ 25) : parseB l = (pz (l.length + 1) (l.drop 0)).bind fun x => if x.2 = [] then some x.1 else none := by
  unfold parseB; rw [if_pos h]; rfl

set_option maxHeartbeats 800000 in
theorem parseTree_any (l : List UInt8) (w : World) (hl : l.length ≤ 1000000000) :
    Calls Try.prog 84 #[.string (bs l)] w (PTree l w) := by
  by_cases h25 : l.length ≤ 25
  · have hR := readTree_any l hl (l.length + 1) 0 w (by omega) (Nat.zero_le _)
    have hpz := parseB_pz h25
    rcases hz : pz (l.length + 1) (l.drop 0) with _ | ⟨t, r⟩
    · rw [hz] at hR hpz
      have HR := Lib.hid (show Calls Try.prog 103 #[.string (bs l), .int .i64 0] w (RTree l.length none w) from hR)
      have HF := Lib.hid (show parseB l = none from hpz)
      have e1 : ((-1 : Int) == (l.length : Int)) = false := by rw [beq_eq_false_iff_ne]; omega
      have e2 : ((-1 : Int) != (l.length : Int)) = true := by rw [bne, e1]; rfl
      clear hR hz hpz
      go_enter Try.func84, Try.ntmps84
      go_wp2_with fail
      refine HR.out.mono ?_
      rintro e w1 ⟨hb, rfl⟩
      go_wp2_with fail
      go_ret2
      unfold PTree
      rw [HF.out]
      exact ⟨hb, rfl⟩
    · rw [hz] at hR hpz
      obtain ⟨e0, hsz⟩ := pz_sound hz
      have HR := Lib.hid (show Calls Try.prog 103 #[.string (bs l), .int .i64 0] w (RTree l.length (some (t, r)) w) from hR)
      clear hR hz
      rw [List.drop_zero] at e0
      have hlen := congrArg List.length e0
      rw [List.length_append, tx_len] at hlen
      rcases r with _ | ⟨c, r⟩
      · have HF := Lib.hid (show parseB l = some t from hpz)
        have hn8 : nodes t ≤ 8 := by simp at hlen; omega
        have HZ := Lib.hid (show (l.length : Int) - (([] : List UInt8).length : Int) = (l.length : Int) by simp)
        clear hpz e0 hlen hsz
        go_enter Try.func84, Try.ntmps84
        go_wp2_with fail
        refine HR.out.mono ?_
        rintro e w1 ⟨hb, T, hs, ht, hp, rfl⟩
        rw [HZ.out]
        obtain ⟨p, hq⟩ := ptr_ptr T
        rw [hq]
        have HT := Lib.hid ht
        have HP := Lib.hid hp
        have HS := Lib.hid hs
        have HQ := Lib.hid hq
        have hnT : nodes T ≤ 8 := by rw [← nodes_sh, hs]; exact hn8
        clear ht hp hs hq
        go_wp2_with fail
        rw [← HQ.out]
        refine (nodes_any T _ HT.out (by omega)).mono ?_
        rintro e w2 ⟨rfl, n, rfl⟩
        rw [HQ.out]
        go_wp2_with fail
        go_ret2
        unfold PTree
        rw [HF.out]
        exact ⟨below_drewN hb n, T, HS.out, HT.out.drewN n, HP.out, by rw [HQ.out]; rfl⟩
      · have HF := Lib.hid (show parseB l = none from hpz)
        obtain ⟨z, hz⟩ : ∃ z : Int, z = (l.length : Int) - ((c :: r).length : Int) := ⟨_, rfl⟩
        have hzlt : z < (l.length : Int) := by rw [hz, List.length_cons]; omega
        have HZ := Lib.hid hz.symm
        have e1 : (z == (l.length : Int)) = false := by rw [beq_eq_false_iff_ne]; omega
        have e2 : (z != (l.length : Int)) = true := by rw [bne, e1]; rfl
        clear hpz e0 hlen hsz hz
        go_enter Try.func84, Try.ntmps84
        go_wp2_with fail
        refine HR.out.mono ?_
        rintro e w1 ⟨hb, T, hs, ht, hp, rfl⟩
        rw [HZ.out]
        obtain ⟨p, hq⟩ := ptr_ptr T
        rw [hq]
        clear ht hp hs hq
        go_wp2_with fail
        go_ret2
        unfold PTree
        rw [HF.out]
        exact ⟨hb, rfl⟩
  · have HF := Lib.hid (show parseB l = none by unfold parseB; rw [if_neg h25])
    go_enter Try.func84, Try.ntmps84
    go_wp2_with fail
    go_ret2
    unfold PTree
    rw [HF.out]
    exact ⟨Below.refl _ _, rfl⟩

/-- The two ways through parseTree. -/
theorem parseTree_no (l : List UInt8) (w : World) (hl : l.length ≤ 1000000000) (h : isB l = false) :
    Calls Try.prog 84 #[.string (bs l)] w fun e w' => e = .returned (.tuple #[.pointer none, .bool false]) ∧ Below w.heap.size w w' := by
  refine (parseTree_any l w hl).mono ?_
  rintro e w' ⟨hb, he⟩
  have : parseB l = none := by unfold isB at h; rcases hp : parseB l with _ | t; · rfl
                               · rw [hp] at h; cases h
  rw [this] at he
  exact ⟨he, hb⟩
theorem parseTree_yes (t : Tr) (w : World) (h : nodes t ≤ 8) :
    Calls Try.prog 84 #[.string (bs (tx t))] w fun e w' => ∃ T p, sh T = sh t ∧ T.ptr = .pointer p ∧ e = .returned (.tuple #[.pointer p, .bool true]) ∧ TIn w' T ∧ Apt w.heap.size w' T ∧ Below w.heap.size w w' := by
  have hl := tx_len t
  refine (parseTree_any (tx t) w (by omega)).mono ?_
  rintro e w' ⟨hb, he⟩
  rw [parseB_tx h] at he
  obtain ⟨T, hs, ht, hp, rfl⟩ := he
  obtain ⟨p, hq⟩ := ptr_ptr T
  exact ⟨T, p, hs, hq, by rw [hq], ht, hp, hb⟩

theorem implIsBinary_any (l : List UInt8) (w : World) (hl : l.length ≤ 1000000000) :
    Calls Try.prog 38 #[.string (bs l)] w fun e w' => e = .returned (.bool (isB l)) ∧ Below w.heap.size w w' := by
  rcases isB_cases l with hb | ⟨t, rfl, h8, _⟩
  · have HF := Lib.hid hb
    have HC := Lib.hid (parseTree_no l w hl hb)
    clear hb
    go_enter Try.func38, Try.ntmps38
    go_wp2_with fail
    refine HC.out.mono ?_
    rintro e w1 ⟨rfl, hb⟩
    go_wp2_with fail
    go_ret
    exact ⟨ret_bool (by rw [HF.out]), hb⟩
  · have HF := Lib.hid (isB_tx h8)
    have HC := Lib.hid (parseTree_yes t w h8)
    go_enter Try.func38, Try.ntmps38
    go_wp2_with fail
    refine HC.out.mono ?_
    rintro e w1 ⟨T, p, hs, hq, rfl, ht, hp, hb⟩
    clear hs hq ht hp
    go_wp2_with fail
    go_ret
    exact ⟨ret_bool (by rw [HF.out]), hb⟩

theorem implNodesOf_any (l : List UInt8) (w : World) (hl : l.length ≤ 1000000000) :
    Calls Try.prog 76 #[.string (bs l)] w fun e w' => e = .returned (.int .i64 (nodesB l)) ∧ Below w.heap.size w w' := by
  rcases isB_cases l with hb | ⟨t, rfl, h8, _⟩
  · have HF := Lib.hid (nodesB_no hb)
    have HC := Lib.hid (parseTree_no l w hl hb)
    clear hb
    go_enter Try.func76, Try.ntmps76
    go_wp2_with fail
    refine HC.out.mono ?_
    rintro e w1 ⟨rfl, hb⟩
    go_wp2_with fail
    go_ret
    exact ⟨ret_int (by rw [HF.out]), hb⟩
  · have HF := Lib.hid (nodesB_tx h8)
    have HC := Lib.hid (parseTree_yes t w h8)
    go_enter Try.func76, Try.ntmps76
    go_wp2_with fail
    refine HC.out.mono ?_
    rintro e w1 ⟨T, p, hs, hq, rfl, ht, hp, hb⟩
    have HT := Lib.hid ht
    have HQ := Lib.hid hq
    have HN := Lib.hid (nodes_of_sh hs)
    clear hs hq ht hp
    go_wp2_with fail
    rw [← HQ.out]
    refine (nodes_any T _ HT.out (by rw [HN.out]; omega)).mono ?_
    rintro e w2 ⟨rfl, n, rfl⟩
    rw [HN.out]
    go_wp2_with fail
    go_ret
    exact ⟨ret_int (by rw [HF.out]), below_drewN hb n⟩

set_option maxHeartbeats 800000 in
theorem find_any (t : Tr) : ∀ (v : Nat) (w : World), TIn w t → nodes t ≤ 1000000 → (v : Int) ≤ 9223372036854775807 →
    Calls Try.prog 102 #[t.ptr, .int .i64 v] w fun e w' => e = .returned (nodeAt t v).ptr ∧ ∃ n, w' = w.drewN n := by
  induction t with
  | nil =>
    intro v w _ _ _
    show Calls _ _ #[.pointer none, _] _ _
    go_enter Try.func102, Try.ntmps102
    go_wp2_with fail
    go_ret
    exact ⟨rfl, 0, rfl⟩
  | node b o a l r ihl ihr =>
    intro v w h hn hv
    obtain ⟨h1, h2, hl, hr⟩ := h
    have hnn : nodes l + nodes r + 1 ≤ 1000000 := hn
    have hnl : nodes l ≤ 1000000 := by omega
    have HIHl := Lib.hid (fun w' h => ihl v w' h hnl hv)
    have HIHr := Lib.hid (fun w' h => ihr (v - nodes l - 1) w' h (by omega) (by omega))
    have HN := Lib.hid (fun w' h => nodes_any l w' h hnl)
    clear ihl ihr hn
    obtain ⟨pl, hpl⟩ := ptr_ptr l
    obtain ⟨pr, hpr⟩ := ptr_ptr r
    rw [hpl] at h1
    rw [hpr] at h2
    have Hpl := Lib.hid hpl
    have Hpr := Lib.hid hpr
    have hl' := Lib.hid hl
    have hr' := Lib.hid hr
    clear hpl hpr hl hr
    show Calls _ _ #[.pointer (some ⟨b, o, none⟩), _] _ _
    go_enter Try.func102, Try.ntmps102
    go_wp2_with fail
    rw [← Hpl.out]
    refine (HN.out _ hl'.out).mono ?_
    rintro e w1 ⟨rfl, n1, rfl⟩
    rw [Hpl.out]
    go_wp2_with fail
    · have hlt : v < nodes l := by assumption
      rw [← Hpl.out]
      refine (HIHl.out _ (hl'.out.drewN n1)).mono ?_
      rintro e w1 ⟨rfl, n2, rfl⟩
      obtain ⟨p, hp⟩ := ptr_ptr (nodeAt l v)
      rw [hp]
      have HP := Lib.hid hp
      clear hp
      go_wp2_with fail
      go_ret
      refine ⟨?_, n1 + n2, rfl⟩
      rw [nodeAt, if_pos hlt, HP.out]; rfl
    · have heq : v = nodes l := by
        have h : ((v : Int) == (nodes l : Int)) = true := by assumption
        rw [beq_iff_eq] at h
        omega
      go_ret
      refine ⟨?_, n1, rfl⟩
      rw [nodeAt, if_neg (by omega), if_pos heq]; rfl
    · have h1 : ¬ v < nodes l := by assumption
      have h2 : ¬ v = nodes l := by
        have h : ((v : Int) == (nodes l : Int)) = false := by assumption
        rw [beq_eq_false_iff_ne] at h
        omega
      rw [show (v : Int) - (nodes l : Int) - 1 = ((v - nodes l - 1 : Nat) : Int) by omega, ← Hpr.out]
      refine (HIHr.out _ (hr'.out.drewN n1)).mono ?_
      rintro e w1 ⟨rfl, n2, rfl⟩
      obtain ⟨p, hp⟩ := ptr_ptr (nodeAt r (v - nodes l - 1))
      rw [hp]
      have HP := Lib.hid hp
      clear hp
      go_wp2_with fail
      go_ret
      refine ⟨?_, n1 + n2, rfl⟩
      rw [nodeAt, if_neg h1, if_neg h2, HP.out]; rfl
/-- A number below 0 is no node's. -/
theorem find_neg (t : Tr) (v : Int) (w : World) (hv : v < 0) :
    Calls Try.prog 102 #[t.ptr, .int .i64 v] w fun e w' => e = .returned (.pointer none) ∧ w = w' := by
  obtain ⟨p, hp⟩ := ptr_ptr t
  rw [hp]
  clear hp
  go_enter Try.func102, Try.ntmps102
  rcases p with _ | p
  all_goals
    go_wp2_with fail
    go_ret
    exact ⟨rfl, rfl⟩

/-- The node with the number v of a text's tree, and the tree: in memory of the call's own. -/
def fnd (T : Tr) (v : Int) : Tr := if 0 ≤ v then nodeAt T v.toNat else .nil
theorem node_no (l : List UInt8) (v : Int) (w : World) (hl : l.length ≤ 1000000000) (h : isB l = false) :
    Calls Try.prog 79 #[.string (bs l), .int .i64 v] w fun e w' => e = .returned (.tuple #[.pointer none, .pointer none]) ∧ Below w.heap.size w w' := by
  have HC := Lib.hid (parseTree_no l w hl h)
  clear h
  go_enter Try.func79, Try.ntmps79
  go_wp2_with fail
  refine HC.out.mono ?_
  rintro e w1 ⟨rfl, hb⟩
  go_wp2_with fail
  go_ret2
  exact ⟨rfl, hb⟩
theorem node_yes (t : Tr) (v : Int) (w : World) (h : nodes t ≤ 8) (hv : v ≤ 9223372036854775807) :
    Calls Try.prog 79 #[.string (bs (tx t)), .int .i64 v] w fun e w' => ∃ T p q, sh T = sh t ∧ T.ptr = .pointer p ∧ (fnd T v).ptr = .pointer q ∧ e = .returned (.tuple #[.pointer p, .pointer q]) ∧ TIn w' T ∧ Apt w.heap.size w' T ∧ Below w.heap.size w w' := by
  have HC := Lib.hid (parseTree_yes t w h)
  by_cases h0 : 0 ≤ v
  · obtain ⟨N, rfl⟩ := Int.eq_ofNat_of_zero_le h0
    go_enter Try.func79, Try.ntmps79
    go_wp2_with fail
    refine HC.out.mono ?_
    rintro e w1 ⟨T, p, hs, hq, rfl, ht, hp, hb⟩
    have HT := Lib.hid ht
    have HQ := Lib.hid hq
    have HP := Lib.hid hp
    have HS := Lib.hid hs
    have hn := nodes_of_sh hs
    have hn8 : nodes T ≤ 1000000 := by omega
    clear hs hq ht hp hn
    go_wp2_with fail
    rw [← HQ.out]
    refine (find_any T N _ HT.out hn8 hv).mono ?_
    rintro e w2 ⟨rfl, n, rfl⟩
    rw [HQ.out]
    obtain ⟨q, hq⟩ := ptr_ptr (nodeAt T N)
    rw [hq]
    have HQ2 := Lib.hid hq
    clear hq
    go_wp2_with fail
    go_ret2
    refine ⟨T, p, q, HS.out, HQ.out, ?_, rfl, HT.out.drewN n, HP.out, below_drewN hb n⟩
    rw [fnd, if_pos (by omega), Int.toNat_natCast]; exact HQ2.out
  · go_enter Try.func79, Try.ntmps79
    go_wp2_with fail
    refine HC.out.mono ?_
    rintro e w1 ⟨T, p, hs, hq, rfl, ht, hp, hb⟩
    have HT := Lib.hid ht
    have HQ := Lib.hid hq
    have HP := Lib.hid hp
    have HS := Lib.hid hs
    clear hs hq ht hp
    go_wp2_with fail
    rw [← HQ.out]
    refine (find_neg T v _ (by omega)).mono ?_
    rintro e w2 ⟨rfl, rfl⟩
    rw [HQ.out]
    go_wp2_with fail
    go_ret2
    refine ⟨T, p, none, HS.out, HQ.out, ?_, rfl, HT.out, HP.out, hb⟩
    rw [fnd, if_neg (by omega)]; rfl

theorem implNodeAt_any (l : List UInt8) (v : Int) (w : World) (hl : l.length ≤ 1000000000) (hv : v ≤ 9223372036854775807) :
    Calls Try.prog 49 #[.string (bs l), .int .i64 v] w fun e w' => e = .returned (.tuple #[.string (bs (nodeAtB l v).1), .bool (nodeAtB l v).2]) ∧ Below w.heap.size w w' := by
  rcases isB_cases l with hb | ⟨t, rfl, h8, hsh⟩
  · have HF := Lib.hid (show nodeAtB l v = ([], false) by rw [nodeAtB, atB_no hb]; rfl)
    have HC := Lib.hid (node_no l v w hl hb)
    clear hb
    go_enter Try.func49, Try.ntmps49
    go_wp2_with fail
    refine HC.out.mono ?_
    rintro e w1 ⟨rfl, hb⟩
    go_wp2_with fail
    go_ret2
    exact ⟨by rw [HF.out]; rfl, hb⟩
  · have HC := Lib.hid (node_yes t v w h8 hv)
    by_cases hin : 0 ≤ v ∧ v < (nodes t : Int)
    · obtain ⟨N, rfl⟩ := Int.eq_ofNat_of_zero_le hin.1
      have HF := Lib.hid (show nodeAtB (tx t) (N : Int) = (tx (nodeAt t N), true) by rw [nodeAtB, atB_in h8 hsh (by omega)]; rfl)
      go_enter Try.func49, Try.ntmps49
      go_wp2_with fail
      refine HC.out.mono ?_
      rintro e w1 ⟨T, p, q, hs, hq, hq2, rfl, ht, hp, hb⟩
      rw [fnd, if_pos hin.1, Int.toNat_natCast] at hq2
      have hn := nodes_of_sh hs
      obtain ⟨b, o, a, l, r, hnode⟩ := nodeAt_node (t := T) (v := N) (by omega)
      have htn := ht.atNode (v := N)
      have hle := nodeAt_le T N
      have HE := Lib.hid (show tx (nodeAt T N) = tx (nodeAt t N) from tx_of_sh (by rw [← nodeAt_sh, hs, nodeAt_sh]))
      have HT := Lib.hid htn
      obtain ⟨x, rfl⟩ : ∃ x, q = some x := by rw [hnode] at hq2; cases hq2; exact ⟨_, rfl⟩
      have HQ := Lib.hid hq2
      have hl6 : nodes (nodeAt T N) ≤ 1000000 := by omega
      clear hs hq hq2 ht hp hnode htn hn hle hin
      go_wp2_with fail
      rw [← HQ.out]
      refine (text_any _ _ HT.out hl6).mono ?_
      rintro e w2 ⟨rfl, n, rfl⟩
      rw [HE.out]
      go_wp2_with fail
      go_ret2
      exact ⟨by rw [HF.out]; rfl, below_drewN hb n⟩
    · have HF := Lib.hid (show nodeAtB (tx t) v = ([], false) by rw [nodeAtB, atB_out h8 (by omega)]; rfl)
      go_enter Try.func49, Try.ntmps49
      go_wp2_with fail
      refine HC.out.mono ?_
      rintro e w1 ⟨T, p, q, hs, hq, hq2, rfl, ht, hp, hb⟩
      have hn := nodes_of_sh hs
      have hnil : fnd T v = .nil := by
        unfold fnd
        split
        · exact nodeAt_big (by omega)
        · rfl
      rw [hnil] at hq2
      obtain rfl : q = none := by cases hq2; rfl
      clear hs hq hq2 ht hp hn hnil
      go_wp2_with fail
      go_ret2
      exact ⟨by rw [HF.out]; rfl, hb⟩

end Go.Proofs.Ytiebaoglcdbopaa
