/- The program's RotateRight and RotateLeft, which write into a tree of their own. -/
import Derived.Test.YtiebaoglcdbopaaTreeI2
namespace Go.Proofs.Ytiebaoglcdbopaa
open Go.RowKit Go.Deep

set_option maxHeartbeats 2000000 in
theorem implRotateRight_any (l : List UInt8) (v : Int) (w : World) (hl : l.length ≤ 1000000000) (hv : v ≤ 9223372036854775807) :
    Calls Try.prog 34 #[.string (bs l), .int .i64 v] w fun e w' => e = .returned (.tuple #[.string (bs (rotRB l v).1), .bool (rotRB l v).2]) ∧ Below w.heap.size w w' := by
  rcases isB_cases l with hb | ⟨t, rfl, h8, hsh⟩
  · have HF := Lib.hid (show rotRB l v = ([], false) by rw [rotRB, atB_no hb]; rfl)
    have HC := Lib.hid (node_no l v w hl hb)
    clear hb
    go_enter Try.func34, Try.ntmps34
    go_wp2_with fail
    refine HC.out.mono ?_
    rintro e w1 ⟨rfl, hb⟩
    go_wp2_with fail
    go_ret2
    exact ⟨by rw [HF.out]; rfl, hb⟩
  · have HC := Lib.hid (node_yes t v w h8 hv)
    by_cases hin : 0 ≤ v ∧ v < (nodes t : Int)
    · obtain ⟨N, rfl⟩ := Int.eq_ofNat_of_zero_le hin.1
      have hNt : N < nodes t := by omega
      have hB := Lib.hid (show ∀ T : Tr, sh T = sh t → rotRB (tx t) (N : Int) = oT (rotR T N) from fun T h => by rw [rotRB, atB_in h8 hsh hNt, ← hsh, ← h, oT_rotR_sh])
      go_enter Try.func34, Try.ntmps34
      go_wp2_with fail
      refine HC.out.mono ?_
      rintro e w1 ⟨T, p, q, hs, hq, hq2, rfl, ht, hp, hb⟩
      rw [fnd, if_pos hin.1, Int.toNat_natCast] at hq2
      have hn := nodes_of_sh hs
      obtain ⟨b, o, a, sl, sr, hnode⟩ := nodeAt_node (t := T) (v := N) (by omega)
      have htn := ht.atNode (v := N)
      have hpn := hp.1.atNode (v := N)
      have hfr : ∀ o, w1.frozen? ⟨b, o, none⟩ = false := hp.2 b (nodeAt_blk hnode)
      have hfr0 := hfr 0
      have hfr1 := hfr 1
      have hle := nodeAt_le T N
      have hF := hB.out T hs
      unfold rotR at hF
      rw [hnode] at hq2 htn hpn hle
      obtain ⟨rfl, hlo, _, nb1, nb2, _, _, _⟩ := hpn
      obtain ⟨c0, c1, tl, tr⟩ := htn
      obtain rfl : q = some ⟨b, 0, none⟩ := by cases hq2; rfl
      have hbs := World.block_lt_of_cell? _ _ c0
      obtain ⟨pl, hpl⟩ := ptr_ptr sl
      obtain ⟨pr, hpr⟩ := ptr_ptr sr
      rcases sl with _ | ⟨b2, o2, a2, A, B⟩
      · have HF := Lib.hid (show rotRB (tx t) (N : Int) = ([], false) by rw [hF, hnode]; rfl)
        obtain rfl : pl = none := by cases hpl; rfl
        rw [hpl] at c0
        rw [hpr] at c1
        clear hfr hs hq hq2 ht hp hnode hn hle hin hF tl tr hpl hpr nb1 nb2 hsh
        go_wp2_with fail
        go_ret2
        exact ⟨by rw [HF.out]; rfl, hb⟩
      · have HF := Lib.hid (show rotRB (tx t) (N : Int) = (tx (replAt T N (.node 0 0 () A (.node 0 0 () B sr))), true) by rw [hF, hnode]; rfl)
        obtain ⟨d0, d1, tA, tB⟩ := tl
        have hbs2 := World.block_lt_of_cell? _ _ d0
        have hne1 : ¬ b = w1.heap.size := by omega
        have hne2 : ¬ w1.heap.size = b := by omega
        have hne : b2 ≠ b := fun e => nb1 (by rw [e]; exact List.mem_cons_self ..)
        obtain ⟨pA, hpA⟩ := ptr_ptr A
        obtain ⟨pB, hpB⟩ := ptr_ptr B
        have hpl' : pl = some ⟨b2, o2, none⟩ := by cases hpl; rfl
        subst hpl'
        rw [hpl] at c0
        rw [hpr] at c1
        rw [hpA] at d0
        rw [hpB] at d1
        have hnn : nodes A + nodes B + nodes sr + 2 ≤ 8 := by simp only [nodes] at hle; omega
        have HT := Lib.hid ht
        have HP := Lib.hid hp
        have HQ := Lib.hid hq
        have HN := Lib.hid hnode
        have HPL := Lib.hid hpl
        have HPR := Lib.hid hpr
        have HPA := Lib.hid hpA
        have HPB := Lib.hid hpB
        have HTA := Lib.hid tA
        have HTB := Lib.hid tB
        have HTO := Lib.hid tr
        have HNB := Lib.hid nb1
        have HNO := Lib.hid nb2
        have hn8 : nodes T ≤ 8 := by omega
        have hNT : N < nodes T := by omega
        clear hfr hs hq hq2 ht hp hnode hn hle hin hF tr tA tB hpl hpr hpA hpB nb1 nb2 hsh
        go_wp2_with fail
        go_quiet (fail)
        go_wp2_with fail
        have hk : ∀ x, x < w1.heap.size → x ≠ b → ((((w1.drewN nq).setCell ⟨b, 0, none⟩ (.pointer pA)).setCell ⟨b, 1, none⟩ (.pointer (some ⟨w1.heap.size, 0, none⟩))).alloc (.cells #[.pointer pB, .pointer pr] 63)).heap[x]? = w1.heap[x]? := fun x hx hxb => ((Below.heap_alloc _ _ x (by simp; exact hx)).trans ((Below.heap_setCell _ ⟨b, 1, none⟩ _ x hxb).trans (Below.heap_setCell _ ⟨b, 0, none⟩ _ x hxb)))
        have hkt : ∀ S : Tr, TIn w1 S → b ∉ blks S → TIn ((((w1.drewN nq).setCell ⟨b, 0, none⟩ (.pointer pA)).setCell ⟨b, 1, none⟩ (.pointer (some ⟨w1.heap.size, 0, none⟩))).alloc (.cells #[.pointer pB, .pointer pr] 63)) S := fun S hS hnb => hS.keepB fun x hx o => World.cell?_of_block (a := ⟨x, o, none⟩) (hk x (hS.lt x hx) (fun e => hnb (e ▸ hx)))
        have e0 : ((((w1.drewN nq).setCell ⟨b, 0, none⟩ (.pointer pA)).setCell ⟨b, 1, none⟩ (.pointer (some ⟨w1.heap.size, 0, none⟩))).alloc (.cells #[.pointer pB, .pointer pr] 63)).cell? ⟨b, 0, none⟩ = some (.pointer pA) := by go_simp
        have e1 : ((((w1.drewN nq).setCell ⟨b, 0, none⟩ (.pointer pA)).setCell ⟨b, 1, none⟩ (.pointer (some ⟨w1.heap.size, 0, none⟩))).alloc (.cells #[.pointer pB, .pointer pr] 63)).cell? ⟨b, 1, none⟩ = some (.pointer (some ⟨w1.heap.size, 0, none⟩)) := by go_simp
        have e2 : ((((w1.drewN nq).setCell ⟨b, 0, none⟩ (.pointer pA)).setCell ⟨b, 1, none⟩ (.pointer (some ⟨w1.heap.size, 0, none⟩))).alloc (.cells #[.pointer pB, .pointer pr] 63)).cell? ⟨w1.heap.size, 0, none⟩ = some (.pointer pB) := by go_simp <;> (show ((w1.drewN nq).alloc _).cell? ⟨(w1.drewN nq).heap.size, 0, none⟩ = _; rw [World.cell?_alloc_new]; rfl)
        have e3 : ((((w1.drewN nq).setCell ⟨b, 0, none⟩ (.pointer pA)).setCell ⟨b, 1, none⟩ (.pointer (some ⟨w1.heap.size, 0, none⟩))).alloc (.cells #[.pointer pB, .pointer pr] 63)).cell? ⟨w1.heap.size, 1, none⟩ = some (.pointer pr) := by go_simp <;> (show ((w1.drewN nq).alloc _).cell? ⟨(w1.drewN nq).heap.size, 1, none⟩ = _; rw [World.cell?_alloc_new]; rfl)
        have hin : TIn ((((w1.drewN nq).setCell ⟨b, 0, none⟩ (.pointer pA)).setCell ⟨b, 1, none⟩ (.pointer (some ⟨w1.heap.size, 0, none⟩))).alloc (.cells #[.pointer pB, .pointer pr] 63)) (replAt T N (.node b 0 () A (.node w1.heap.size 0 () B sr))) := by
          refine HT.out.repl HP.out.1 HN.out (fun x hx hxb o => World.cell?_of_block (a := ⟨x, o, none⟩) (hk x (HT.out.lt x hx) hxb)) ?_
          have nA : b ∉ blks A := fun h => HNB.out (List.mem_cons_of_mem _ (List.mem_append_left _ h))
          have nB : b ∉ blks B := fun h => HNB.out (List.mem_cons_of_mem _ (List.mem_append_right _ h))
          have tA := hkt A HTA.out nA
          have tB := hkt B HTB.out nB
          have tO := hkt _ HTO.out HNO.out
          have e0 := e0.trans (congrArg some HPA.out.symm)
          have e2 := e2.trans (congrArg some HPB.out.symm)
          have e3 := e3.trans (congrArg some HPR.out.symm)
          exact ⟨e0, e1, tA, e2, e3, tB, tO⟩
        have hptr : (replAt T N (.node b 0 () A (.node w1.heap.size 0 () B sr))).ptr = .pointer p := (replAt_ptr HN.out).trans HQ.out
        have hbel : Below w.heap.size w ((((w1.drewN nq).setCell ⟨b, 0, none⟩ (.pointer pA)).setCell ⟨b, 1, none⟩ (.pointer (some ⟨w1.heap.size, 0, none⟩))).alloc (.cells #[.pointer pB, .pointer pr] 63)) := (((below_drewN hb nq).setCell (p := ⟨b, 0, none⟩) hlo _).setCell (p := ⟨b, 1, none⟩) hlo _).alloc (by simp; exact hb.size) _
        have hnd : nodes (replAt T N (.node b 0 () A (.node w1.heap.size 0 () B sr))) ≤ 1000000 := by
          have h1 := nodes_repl T N (.node b 0 () A (.node w1.heap.size 0 () B sr)) hNT
          simp only [nodes] at h1
          omega
        have HE := Lib.hid (show tx (replAt T N (.node b 0 () A (.node w1.heap.size 0 () B sr))) = tx (replAt T N (.node 0 0 () A (.node 0 0 () B sr))) from tx_repl T N (by simp only [sh]))
        clear hk hkt e0 e1 e2 e3
        rw [← hptr]
        refine (text_any _ _ hin hnd).mono ?_
        rintro e w3 ⟨rfl, n, rfl⟩
        rw [HE.out]
        clear hin
        rw [hptr]
        clear hptr
        go_wp2_with fail
        go_ret2
        exact ⟨by rw [HF.out]; rfl, below_drewN hbel n⟩
    · have HF := Lib.hid (show rotRB (tx t) v = ([], false) by rw [rotRB, atB_out h8 (by omega)]; rfl)
      go_enter Try.func34, Try.ntmps34
      go_wp2_with fail
      refine HC.out.mono ?_
      rintro e w1 ⟨T, p, q, hs, hq, hq2, rfl, ht, hp, hb⟩
      have hn := nodes_of_sh hs
      have hnil : fnd T v = .nil := by
        unfold fnd
        split
        · exact nodeAt_big (by omega)
        · rfl
      rw [hnil] at hq2
      obtain rfl : q = none := by cases hq2; rfl
      clear hs hq hq2 ht hp hn hnil
      go_wp2_with fail
      go_ret2
      exact ⟨by rw [HF.out]; rfl, hb⟩

set_option maxHeartbeats 2000000 in
theorem implRotateLeft_any (l : List UInt8) (v : Int) (w : World) (hl : l.length ≤ 1000000000) (hv : v ≤ 9223372036854775807) :
    Calls Try.prog 36 #[.string (bs l), .int .i64 v] w fun e w' => e = .returned (.tuple #[.string (bs (rotLB l v).1), .bool (rotLB l v).2]) ∧ Below w.heap.size w w' := by
  rcases isB_cases l with hb | ⟨t, rfl, h8, hsh⟩
  · have HF := Lib.hid (show rotLB l v = ([], false) by rw [rotLB, atB_no hb]; rfl)
    have HC := Lib.hid (node_no l v w hl hb)
    clear hb
    go_enter Try.func36, Try.ntmps36
    go_wp2_with fail
    refine HC.out.mono ?_
    rintro e w1 ⟨rfl, hb⟩
    go_wp2_with fail
    go_ret2
    exact ⟨by rw [HF.out]; rfl, hb⟩
  · have HC := Lib.hid (node_yes t v w h8 hv)
    by_cases hin : 0 ≤ v ∧ v < (nodes t : Int)
    · obtain ⟨N, rfl⟩ := Int.eq_ofNat_of_zero_le hin.1
      have hNt : N < nodes t := by omega
      have hB := Lib.hid (show ∀ T : Tr, sh T = sh t → rotLB (tx t) (N : Int) = oT (rotL T N) from fun T h => by rw [rotLB, atB_in h8 hsh hNt, ← hsh, ← h, oT_rotL_sh])
      go_enter Try.func36, Try.ntmps36
      go_wp2_with fail
      refine HC.out.mono ?_
      rintro e w1 ⟨T, p, q, hs, hq, hq2, rfl, ht, hp, hb⟩
      rw [fnd, if_pos hin.1, Int.toNat_natCast] at hq2
      have hn := nodes_of_sh hs
      obtain ⟨b, o, a, sl, sr, hnode⟩ := nodeAt_node (t := T) (v := N) (by omega)
      have htn := ht.atNode (v := N)
      have hpn := hp.1.atNode (v := N)
      have hfr : ∀ o, w1.frozen? ⟨b, o, none⟩ = false := hp.2 b (nodeAt_blk hnode)
      have hfr0 := hfr 0
      have hfr1 := hfr 1
      have hle := nodeAt_le T N
      have hF := hB.out T hs
      unfold rotL at hF
      rw [hnode] at hq2 htn hpn hle
      obtain ⟨rfl, hlo, _, nb1, nb2, _, _, _⟩ := hpn
      obtain ⟨c0, c1, tl, tr⟩ := htn
      obtain rfl : q = some ⟨b, 0, none⟩ := by cases hq2; rfl
      have hbs := World.block_lt_of_cell? _ _ c0
      obtain ⟨pl, hpl⟩ := ptr_ptr sl
      obtain ⟨pr, hpr⟩ := ptr_ptr sr
      rcases sr with _ | ⟨b2, o2, a2, A, B⟩
      · have HF := Lib.hid (show rotLB (tx t) (N : Int) = ([], false) by rw [hF, hnode]; rfl)
        obtain rfl : pr = none := by cases hpr; rfl
        rw [hpl] at c0
        rw [hpr] at c1
        clear hfr hs hq hq2 ht hp hnode hn hle hin hF tl tr hpl hpr nb1 nb2 hsh
        go_wp2_with fail
        go_ret2
        exact ⟨by rw [HF.out]; rfl, hb⟩
      · have HF := Lib.hid (show rotLB (tx t) (N : Int) = (tx (replAt T N (.node 0 0 () (.node 0 0 () sl A) B)), true) by rw [hF, hnode]; rfl)
        obtain ⟨d0, d1, tA, tB⟩ := tr
        have hbs2 := World.block_lt_of_cell? _ _ d0
        have hne1 : ¬ b = w1.heap.size := by omega
        have hne2 : ¬ w1.heap.size = b := by omega
        have hne : b2 ≠ b := fun e => nb2 (by rw [e]; exact List.mem_cons_self ..)
        obtain ⟨pA, hpA⟩ := ptr_ptr A
        obtain ⟨pB, hpB⟩ := ptr_ptr B
        have hpr' : pr = some ⟨b2, o2, none⟩ := by cases hpr; rfl
        subst hpr'
        rw [hpl] at c0
        rw [hpr] at c1
        rw [hpA] at d0
        rw [hpB] at d1
        have hnn : nodes A + nodes B + nodes sl + 2 ≤ 8 := by simp only [nodes] at hle; omega
        have HT := Lib.hid ht
        have HP := Lib.hid hp
        have HQ := Lib.hid hq
        have HN := Lib.hid hnode
        have HPL := Lib.hid hpl
        have HPR := Lib.hid hpr
        have HPA := Lib.hid hpA
        have HPB := Lib.hid hpB
        have HTA := Lib.hid tA
        have HTB := Lib.hid tB
        have HTO := Lib.hid tl
        have HNB := Lib.hid nb2
        have HNO := Lib.hid nb1
        have hn8 : nodes T ≤ 8 := by omega
        have hNT : N < nodes T := by omega
        clear hfr hs hq hq2 ht hp hnode hn hle hin hF tl tA tB hpl hpr hpA hpB nb1 nb2 hsh
        go_wp2_with fail
        go_quiet (fail)
        have hob : (⟨b, 0, none⟩ : Addr).block ≠ (w1.drewN nq).heap.size := fun e => hne1 e
        have hob1 : (⟨b, 1, none⟩ : Addr).block ≠ (w1.drewN nq).heap.size := fun e => hne1 e
        have k0 : ((w1.drewN nq).alloc (.cells #[.pointer pl, .pointer pA] 63)).cell? ⟨b, 0, none⟩ = some (.pointer pl) := (World.cell?_alloc_lt _ _ _ hbs).trans c0
        have k1 : ((w1.drewN nq).alloc (.cells #[.pointer pl, .pointer pA] 63)).cell? ⟨b, 1, none⟩ = some (.pointer (some ⟨b2, o2, none⟩)) := (World.cell?_alloc_lt _ _ _ hbs).trans c1
        have k2 : ((w1.drewN nq).alloc (.cells #[.pointer pl, .pointer pA] 63)).frozen? ⟨b, 0, none⟩ = false := by rw [World.frozen?_alloc_old (h := hob)]; exact hfr0
        have k3 : ((w1.drewN nq).alloc (.cells #[.pointer pl, .pointer pA] 63)).frozen? ⟨b, 1, none⟩ = false := by rw [World.frozen?_alloc_old (h := hob1)]; exact hfr1
        clear hob hob1
        go_wp2_with fail
        have hk : ∀ x, x < w1.heap.size → x ≠ b → ((((w1.drewN nq).alloc (.cells #[.pointer pl, .pointer pA] 63)).setCell ⟨b, 0, none⟩ (.pointer (some ⟨w1.heap.size, 0, none⟩))).setCell ⟨b, 1, none⟩ (.pointer pB)).heap[x]? = w1.heap[x]? := fun x hx hxb => ((Below.heap_setCell _ ⟨b, 1, none⟩ _ x hxb).trans ((Below.heap_setCell _ ⟨b, 0, none⟩ _ x hxb).trans (Below.heap_alloc _ _ x hx)))
        have hkt : ∀ S : Tr, TIn w1 S → b ∉ blks S → TIn ((((w1.drewN nq).alloc (.cells #[.pointer pl, .pointer pA] 63)).setCell ⟨b, 0, none⟩ (.pointer (some ⟨w1.heap.size, 0, none⟩))).setCell ⟨b, 1, none⟩ (.pointer pB)) S := fun S hS hnb => hS.keepB fun x hx o => World.cell?_of_block (a := ⟨x, o, none⟩) (hk x (hS.lt x hx) (fun e => hnb (e ▸ hx)))
        have e0 : ((((w1.drewN nq).alloc (.cells #[.pointer pl, .pointer pA] 63)).setCell ⟨b, 0, none⟩ (.pointer (some ⟨w1.heap.size, 0, none⟩))).setCell ⟨b, 1, none⟩ (.pointer pB)).cell? ⟨b, 0, none⟩ = some (.pointer (some ⟨w1.heap.size, 0, none⟩)) := by go_simp
        have e1 : ((((w1.drewN nq).alloc (.cells #[.pointer pl, .pointer pA] 63)).setCell ⟨b, 0, none⟩ (.pointer (some ⟨w1.heap.size, 0, none⟩))).setCell ⟨b, 1, none⟩ (.pointer pB)).cell? ⟨b, 1, none⟩ = some (.pointer pB) := by go_simp
        have e2 : ((((w1.drewN nq).alloc (.cells #[.pointer pl, .pointer pA] 63)).setCell ⟨b, 0, none⟩ (.pointer (some ⟨w1.heap.size, 0, none⟩))).setCell ⟨b, 1, none⟩ (.pointer pB)).cell? ⟨w1.heap.size, 0, none⟩ = some (.pointer pl) := by go_simp <;> (show ((w1.drewN nq).alloc _).cell? ⟨(w1.drewN nq).heap.size, 0, none⟩ = _; rw [World.cell?_alloc_new]; rfl)
        have e3 : ((((w1.drewN nq).alloc (.cells #[.pointer pl, .pointer pA] 63)).setCell ⟨b, 0, none⟩ (.pointer (some ⟨w1.heap.size, 0, none⟩))).setCell ⟨b, 1, none⟩ (.pointer pB)).cell? ⟨w1.heap.size, 1, none⟩ = some (.pointer pA) := by go_simp <;> (show ((w1.drewN nq).alloc _).cell? ⟨(w1.drewN nq).heap.size, 1, none⟩ = _; rw [World.cell?_alloc_new]; rfl)
        have hin : TIn ((((w1.drewN nq).alloc (.cells #[.pointer pl, .pointer pA] 63)).setCell ⟨b, 0, none⟩ (.pointer (some ⟨w1.heap.size, 0, none⟩))).setCell ⟨b, 1, none⟩ (.pointer pB)) (replAt T N (.node b 0 () (.node w1.heap.size 0 () sl A) B)) := by
          refine HT.out.repl HP.out.1 HN.out (fun x hx hxb o => World.cell?_of_block (a := ⟨x, o, none⟩) (hk x (HT.out.lt x hx) hxb)) ?_
          have nA : b ∉ blks A := fun h => HNB.out (List.mem_cons_of_mem _ (List.mem_append_left _ h))
          have nB : b ∉ blks B := fun h => HNB.out (List.mem_cons_of_mem _ (List.mem_append_right _ h))
          have tA := hkt A HTA.out nA
          have tB := hkt B HTB.out nB
          have tO := hkt _ HTO.out HNO.out
          have e3 := e3.trans (congrArg some HPA.out.symm)
          have e1 := e1.trans (congrArg some HPB.out.symm)
          have e2 := e2.trans (congrArg some HPL.out.symm)
          exact ⟨e0, e1, ⟨e2, e3, tO, tA⟩, tB⟩
        have hptr : (replAt T N (.node b 0 () (.node w1.heap.size 0 () sl A) B)).ptr = .pointer p := (replAt_ptr HN.out).trans HQ.out
        have hbel : Below w.heap.size w ((((w1.drewN nq).alloc (.cells #[.pointer pl, .pointer pA] 63)).setCell ⟨b, 0, none⟩ (.pointer (some ⟨w1.heap.size, 0, none⟩))).setCell ⟨b, 1, none⟩ (.pointer pB)) := (((below_drewN hb nq).alloc hb.size _).setCell (p := ⟨b, 0, none⟩) hlo _).setCell (p := ⟨b, 1, none⟩) hlo _
        have hnd : nodes (replAt T N (.node b 0 () (.node w1.heap.size 0 () sl A) B)) ≤ 1000000 := by
          have h1 := nodes_repl T N (.node b 0 () (.node w1.heap.size 0 () sl A) B) hNT
          simp only [nodes] at h1
          omega
        have HE := Lib.hid (show tx (replAt T N (.node b 0 () (.node w1.heap.size 0 () sl A) B)) = tx (replAt T N (.node 0 0 () (.node 0 0 () sl A) B)) from tx_repl T N (by simp only [sh]))
        clear hk hkt e0 e1 e2 e3
        rw [← hptr]
        refine (text_any _ _ hin hnd).mono ?_
        rintro e w3 ⟨rfl, n, rfl⟩
        rw [HE.out]
        clear hin
        rw [hptr]
        clear hptr
        go_wp2_with fail
        go_ret2
        exact ⟨by rw [HF.out]; rfl, below_drewN hbel n⟩
    · have HF := Lib.hid (show rotLB (tx t) v = ([], false) by rw [rotLB, atB_out h8 (by omega)]; rfl)
      go_enter Try.func36, Try.ntmps36
      go_wp2_with fail
      refine HC.out.mono ?_
      rintro e w1 ⟨T, p, q, hs, hq, hq2, rfl, ht, hp, hb⟩
      have hn := nodes_of_sh hs
      have hnil : fnd T v = .nil := by
        unfold fnd
        split
        · exact nodeAt_big (by omega)
        · rfl
      rw [hnil] at hq2
      obtain rfl : q = none := by cases hq2; rfl
      clear hs hq hq2 ht hp hn hnil
      go_wp2_with fail
      go_ret2
      exact ⟨by rw [HF.out]; rfl, hb⟩

end Go.Proofs.Ytiebaoglcdbopaa
