/- The program's mirror, MirrorBinary, LeftComb. -/
import Derived.Test.YtiebaoglcdbopaaTreeI2
import Derived.Deep.RegionHeld3
namespace Go.Proofs.Ytiebaoglcdbopaa
open Go.RowKit Go.Deep

set_option maxHeartbeats 1000000 in
theorem mirror_any (t : Tr) : ∀ w : World, TIn w t →
    Calls Try.prog 95 #[t.ptr] w fun e w' => ∃ M p, sh M = mir t ∧ M.ptr = .pointer p ∧ e = .returned (.pointer p) ∧ TIn w' M ∧ Below w.heap.size w w' := by
  induction t with
  | nil =>
    intro w _
    show Calls _ _ #[.pointer none] _ _
    go_enter Try.func95, Try.ntmps95
    go_wp2_with fail
    go_ret
    exact ⟨.nil, none, rfl, rfl, rfl, trivial, Below.refl _ _⟩
  | node b o a l r ihl ihr =>
    intro w h
    obtain ⟨h1, h2, hl, hr⟩ := h
    have hbl : b < w.heap.size := World.block_lt_of_cell? w _ h1
    have HIHl := Lib.hid ihl
    have HIHr := Lib.hid ihr
    clear ihl ihr
    obtain ⟨pl, hpl⟩ := ptr_ptr l
    obtain ⟨pr, hpr⟩ := ptr_ptr r
    rw [hpl] at h1
    rw [hpr] at h2
    have Hpl := Lib.hid hpl
    have Hpr := Lib.hid hpr
    have hl' := Lib.hid hl
    have hr' := Lib.hid hr
    clear hpl hpr hl hr
    show Calls _ _ #[.pointer (some ⟨b, o, none⟩)] _ _
    go_enter Try.func95, Try.ntmps95
    go_wp2_with fail
    go_region_held3 (fun w' => w'.cell? ⟨b, o, none⟩ = some (.pointer pl) ∧ w'.cell? ⟨b, o + 1, none⟩ = some (.pointer pr)) (first | go_keep | exact ⟨by assumption, by assumption⟩)
      (first | (go_at_call_of 95 (Value.pointer pr); rw [← Hpr.out]; refine (HIHr.out _ ?_).mono ?_; (exact hr'.out.drewN _); rintro e w1 ⟨M1, p1, hs1, hq1, rfl, ht1, hb1⟩; have k1 := (hb1.cell (p := ⟨b, o, none⟩) (by assumption)).trans h1; have k2 := (hb1.cell (p := ⟨b, o + 1, none⟩) (by assumption)).trans h2; have HS1 := Lib.hid hs1; have HQ1 := Lib.hid hq1; have HT1 := Lib.hid ht1; clear hs1 hq1 ht1) | (go_at_call_of 95 (Value.pointer pl); rw [← Hpl.out]; refine (HIHl.out _ ?_).mono ?_; (exact hl'.out.keep (Nat.le_refl _) (fun p hp => hb1.cell hp)); rintro e w2 ⟨M2, p2, hs2, hq2, rfl, ht2, hb2⟩; have k3 := (hb2.cell (p := ⟨b, o, none⟩) (World.block_lt_of_cell? _ _ k1)).trans k1; have k4 := (hb2.cell (p := ⟨b, o + 1, none⟩) (World.block_lt_of_cell? _ _ k2)).trans k2; have HS2 := Lib.hid hs2; have HQ2 := Lib.hid hq2; have HT2 := Lib.hid ht2; have n3 := World.new_ne w2 _ k3; have n4 := World.new_ne w2 _ k4; clear hs2 hq2 ht2))
    go_wp2_with fail
    go_ret
    have ht := TIn.new (HT1.out.below hb2) HT2.out 63
    rw [HQ1.out, HQ2.out] at ht
    have hb0 : Below w.heap.size w w1 := ⟨hb1.os, hb1.tape, hb1.output, hb1.size, hb1.block⟩
    exact ⟨.node w2.heap.size 0 () M1 M2, _, by simp [sh, mir, HS1.out, HS2.out], rfl, rfl, ht, (hb0.trans (hb2.mono hb0.size)).alloc (Nat.le_trans hb0.size hb2.size) _⟩

def mirB (l : List UInt8) : List UInt8 × Bool := match parseB l with
  | none => ([], false)
  | some t => (tx (mir t), true)
theorem mirB_no {l : List UInt8} (h : isB l = false) : mirB l = ([], false) := by
  unfold isB at h
  rcases hp : parseB l with _ | t
  · rw [mirB, hp]
  · rw [hp] at h; cases h
theorem mirB_tx {t : Tr} (h : nodes t ≤ 8) : mirB (tx t) = (tx (mir t), true) := by rw [mirB, parseB_tx h, ← mir_sh t]
theorem implMirrorBinary_any (l : List UInt8) (w : World) (hl : l.length ≤ 1000000000) :
    Calls Try.prog 62 #[.string (bs l)] w fun e w' => e = .returned (.tuple #[.string (bs (mirB l).1), .bool (mirB l).2]) ∧ Below w.heap.size w w' := by
  rcases isB_cases l with hb | ⟨t, rfl, h8, _⟩
  · have HF := Lib.hid (mirB_no hb)
    have HC := Lib.hid (parseTree_no l w hl hb)
    clear hb
    go_enter Try.func62, Try.ntmps62
    go_wp2_with fail
    refine HC.out.mono ?_
    rintro e w1 ⟨rfl, hb⟩
    go_wp2_with fail
    go_ret2
    exact ⟨by rw [HF.out]; rfl, hb⟩
  · have HF := Lib.hid (mirB_tx h8)
    have HC := Lib.hid (parseTree_yes t w h8)
    go_enter Try.func62, Try.ntmps62
    go_wp2_with fail
    refine HC.out.mono ?_
    rintro e w1 ⟨T, p, hs, hq, rfl, ht, hp, hb⟩
    have HT := Lib.hid ht
    have HQ := Lib.hid hq
    have hn := nodes_of_sh hs
    have HS := Lib.hid hs
    have hn8 : nodes T ≤ 8 := by omega
    clear hs hq ht hp hn
    go_wp2_with fail
    rw [← HQ.out]
    refine (mirror_any T _ HT.out).mono ?_
    rintro e w2 ⟨M, p2, hs2, hq2, rfl, ht2, hb2⟩
    have HT2 := Lib.hid ht2
    have HQ2 := Lib.hid hq2
    have hM8 : nodes M ≤ 8 := by rw [← nodes_sh, hs2, nodes_mir]; exact hn8
    have HX := Lib.hid (show tx M = tx (mir t) by rw [← tx_sh, hs2, ← mir_sh T, HS.out, mir_sh])
    rw [HQ.out]
    clear hs2 hq2 ht2
    go_wp2_with fail
    rw [← HQ2.out]
    refine (text_any M _ HT2.out (by omega)).mono ?_
    rintro e w3 ⟨rfl, n, rfl⟩
    rw [HX.out]
    go_wp2_with fail
    go_ret2
    exact ⟨by rw [HF.out]; rfl, below_drewN (hb.trans (hb2.mono hb.size)) n⟩

end Go.Proofs.Ytiebaoglcdbopaa
