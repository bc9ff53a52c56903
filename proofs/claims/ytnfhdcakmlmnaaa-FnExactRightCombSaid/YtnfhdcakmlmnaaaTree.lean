/- Binary trees that lie in memory; what (*tree).text answers. -/
import Derived.Test.YtnfhdcakmlmnaaaProg
import Derived.Test.YtnfhdcakmlmnaaaNum
namespace Go.Proofs.Ytnfhdcakmlmnaaa
open Go.RowKit Go.Deep

abbrev Tr := BT Unit

/-- The tree's text. -/
def tx : Tr → List UInt8
  | .nil => [46]
  | .node _ _ _ l r => [40] ++ tx l ++ tx r ++ [41]
def nodes : Tr → Nat
  | .nil => 0
  | .node _ _ _ l r => nodes l + nodes r + 1
theorem tx_len (t : Tr) : (tx t).length = 3 * nodes t + 1 := by
  induction t with
  | nil => rfl
  | node b o a l r ihl ihr => simp [tx, nodes, ihl, ihr]; omega

/-- The nodes lie in the world. -/
def TIn (w : World) : Tr → Prop
  | .nil => True
  | .node b o _ l r => w.cell? ⟨b, o, none⟩ = some l.ptr ∧ w.cell? ⟨b, o + 1, none⟩ = some r.ptr ∧ TIn w l ∧ TIn w r
theorem TIn.keep {w w' : World} {B : Nat} : ∀ {t : Tr}, TIn w t → w.heap.size ≤ B → (∀ p : Addr, p.block < B → w'.cell? p = w.cell? p) → TIn w' t
  | .nil, _, _, _ => trivial
  | .node _ _ _ _ _, ⟨h1, h2, hl, hr⟩, hB, hk =>
    ⟨(hk _ (Nat.lt_of_lt_of_le (World.block_lt_of_cell? w _ h1) hB)).trans h1, (hk _ (Nat.lt_of_lt_of_le (World.block_lt_of_cell? w _ h2) hB)).trans h2, hl.keep hB hk, hr.keep hB hk⟩
theorem TIn.below {w w' : World} {t : Tr} (h : TIn w t) (hb : Below w.heap.size w w') : TIn w' t := h.keep (Nat.le_refl _) fun _ hp => hb.cell hp
theorem TIn.drewN {w : World} {t : Tr} (h : TIn w t) (n : Nat) : TIn (w.drewN n) t := h.keep (w' := w.drewN n) (Nat.le_refl _) fun _ _ => rfl
theorem TIn.alloc {w : World} {t : Tr} (h : TIn w t) (o : Obj) : TIn (w.alloc o) t := h.keep (Nat.le_refl _) fun _ hp => World.cell?_alloc_lt w o _ hp
theorem TIn.new {w : World} {l r : Tr} (hl : TIn w l) (hr : TIn w r) (e : TypeId) : TIn (w.alloc (.cells #[l.ptr, r.ptr] e)) (.node w.heap.size 0 () l r) :=
  ⟨by simp [World.cell?_alloc_new], by simp [World.cell?_alloc_new], hl.alloc _, hr.alloc _⟩
theorem ptr_ptr (t : Tr) : ∃ p, t.ptr = .pointer p := by cases t <;> exact ⟨_, rfl⟩

set_option maxHeartbeats 400000 in
theorem text_any (t : Tr) : ∀ w : World, TIn w t → nodes t ≤ 1000000 →
    Calls Try.prog 30 #[t.ptr] w fun e w' => e = .returned (.string (bs (tx t))) ∧ ∃ n, w' = w.drewN n := by
  induction t with
  | nil =>
    intro w _ _
    show Calls _ _ #[.pointer none] _ _
    go_enter Try.func30, Try.ntmps30
    go_wp2_with fail
    go_ret
    exact ⟨rfl, 0, rfl⟩
  | node b o a l r ihl ihr =>
    intro w h hn
    obtain ⟨h1, h2, hl, hr⟩ := h
    have tl := tx_len l
    have tr := tx_len r
    have hsl : (bs (tx l)).size ≤ 3000001 := by rw [size_bs]; simp only [nodes] at hn; omega
    have hsr : (bs (tx r)).size ≤ 3000001 := by rw [size_bs]; simp only [nodes] at hn; omega
    have hnl : nodes l ≤ 1000000 := by simp only [nodes] at hn; omega
    have hnr : nodes r ≤ 1000000 := by simp only [nodes] at hn; omega
    clear tl tr hn
    have IHl := fun w' h => ihl w' h hnl
    have IHr := fun w' h => ihr w' h hnr
    have HIHl := Lib.hid IHl
    have HIHr := Lib.hid IHr
    clear ihl ihr IHl IHr
    obtain ⟨pl, hpl⟩ := ptr_ptr l
    obtain ⟨pr, hpr⟩ := ptr_ptr r
    rw [hpl] at h1
    rw [hpr] at h2
    have Hpl := Lib.hid hpl
    have Hpr := Lib.hid hpr
    have hl' := Lib.hid hl
    have hr' := Lib.hid hr
    clear hpl hpr hl hr
    show Calls _ _ #[.pointer (some ⟨b, o, none⟩)] _ _
    go_enter Try.func30, Try.ntmps30
    go_wp2_with fail
    go_quiet (first | (go_at_call_of 30 (Value.pointer pl); rw [← Hpl.out]; refine Calls.quiet_of (HIHl.out _ ?_); exact hl'.out.drewN _) | (go_at_call_of 30 (Value.pointer pr); rw [← Hpr.out]; refine Calls.quiet_of (HIHr.out _ ?_); exact hr'.out.drewN _))
    go_wp2_with fail
    go_ret
    refine ⟨?_, _, rfl⟩
    rw [bs_lit, bs_lit, bs_append, bs_append, bs_append]
    rfl

end Go.Proofs.Ytnfhdcakmlmnaaa
