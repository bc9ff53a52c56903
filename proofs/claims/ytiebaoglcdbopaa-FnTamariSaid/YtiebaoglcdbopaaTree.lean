/- Binary trees that lie in memory; what (*tree).text answers. -/
import Derived.Test.YtiebaoglcdbopaaProg
import Derived.Test.YtiebaoglcdbopaaNum
import Derived.Test.YtiebaoglcdbopaaTreeL
namespace Go.Proofs.Ytiebaoglcdbopaa
open Go.RowKit Go.Deep

/-- The nodes lie in the world. -/
def TIn (w : World) : Tr → Prop
  | .nil => True
  | .node b o _ l r => w.cell? ⟨b, o, none⟩ = some l.ptr ∧ w.cell? ⟨b, o + 1, none⟩ = some r.ptr ∧ TIn w l ∧ TIn w r
theorem TIn.keep {w w' : World} {B : Nat} : ∀ {t : Tr}, TIn w t → w.heap.size ≤ B → (∀ p : Addr, p.block < B → w'.cell? p = w.cell? p) → TIn w' t
  | .nil, _, _, _ => trivial
  | .node _ _ _ _ _, ⟨h1, h2, hl, hr⟩, hB, hk =>
    ⟨(hk _ (Nat.lt_of_lt_of_le (World.block_lt_of_cell? w _ h1) hB)).trans h1, (hk _ (Nat.lt_of_lt_of_le (World.block_lt_of_cell? w _ h2) hB)).trans h2, hl.keep hB hk, hr.keep hB hk⟩
theorem TIn.below {w w' : World} {t : Tr} (h : TIn w t) (hb : Below w.heap.size w w') : TIn w' t := h.keep (Nat.le_refl _) fun _ hp => hb.cell hp
theorem TIn.drewN {w : World} {t : Tr} (h : TIn w t) (n : Nat) : TIn (w.drewN n) t := h.keep (w' := w.drewN n) (Nat.le_refl _) fun _ _ => rfl
theorem TIn.alloc {w : World} {t : Tr} (h : TIn w t) (o : Obj) : TIn (w.alloc o) t := h.keep (Nat.le_refl _) fun _ hp => World.cell?_alloc_lt w o _ hp
theorem TIn.new {w : World} {l r : Tr} (hl : TIn w l) (hr : TIn w r) (e : TypeId) : TIn (w.alloc (.cells #[l.ptr, r.ptr] e)) (.node w.heap.size 0 () l r) :=
  ⟨by simp [World.cell?_alloc_new], by simp [World.cell?_alloc_new], hl.alloc _, hr.alloc _⟩
/-- The blocks in which the nodes lie. -/
def blks : Tr → List Nat
  | .nil => []
  | .node b _ _ l r => b :: (blks l ++ blks r)
/-- The nodes lie in blocks from lo to hi, each at its block's head, no two in one block. -/
def Apart (lo hi : Nat) : Tr → Prop
  | .nil => True
  | .node b o _ l r => o = 0 ∧ lo ≤ b ∧ b < hi ∧ b ∉ blks l ∧ b ∉ blks r ∧ (∀ x, x ∈ blks l → x ∉ blks r) ∧ Apart lo hi l ∧ Apart lo hi r
theorem Apart.mono {lo hi lo' hi' : Nat} : ∀ {t : Tr}, Apart lo hi t → lo' ≤ lo → hi ≤ hi' → Apart lo' hi' t
  | .nil, _, _, _ => trivial
  | .node _ _ _ _ _, ⟨h0, h1, h2, h3, h4, h5, h6, h7⟩, a, b => ⟨h0, by omega, by omega, h3, h4, h5, h6.mono a b, h7.mono a b⟩
theorem Apart.blk {lo hi : Nat} : ∀ {t : Tr}, Apart lo hi t → ∀ x ∈ blks t, lo ≤ x ∧ x < hi
  | .nil, _, x, hx => by cases hx
  | .node _ _ _ _ _, ⟨_, h1, h2, _, _, _, h6, h7⟩, x, hx => by
    simp only [blks, List.mem_cons, List.mem_append] at hx
    rcases hx with rfl | hx | hx
    · exact ⟨h1, h2⟩
    · exact h6.blk x hx
    · exact h7.blk x hx
/-- Two trees in parts of memory that follow each other, and a new node. -/
theorem Apart.join {lo mid hi : Nat} {l r : Tr} (hl : Apart lo mid l) (hr : Apart mid hi r) (h1 : lo ≤ mid) (h2 : mid ≤ hi) : Apart lo (hi + 1) (.node hi 0 () l r) := by
  refine ⟨rfl, by omega, by omega, fun h => ?_, fun h => ?_, fun x hx hx' => ?_, hl.mono (Nat.le_refl _) (by omega), hr.mono h1 (by omega)⟩
  · have := hl.blk _ h; omega
  · have := hr.blk _ h; omega
  · have := hl.blk _ hx; have := hr.blk _ hx'; omega
theorem TIn.keepB {w w' : World} : ∀ {t : Tr}, TIn w t → (∀ x ∈ blks t, ∀ o, w'.cell? ⟨x, o, none⟩ = w.cell? ⟨x, o, none⟩) → TIn w' t
  | .nil, _, _ => trivial
  | .node b _ _ _ _, ⟨h1, h2, hl, hr⟩, hk =>
    ⟨(hk b (List.mem_cons_self ..) _).trans h1, (hk b (List.mem_cons_self ..) _).trans h2, hl.keepB fun x hx => hk x (List.mem_cons_of_mem _ (List.mem_append_left _ hx)), hr.keepB fun x hx => hk x (List.mem_cons_of_mem _ (List.mem_append_right _ hx))⟩
theorem TIn.lt {w : World} : ∀ {t : Tr}, TIn w t → ∀ x ∈ blks t, x < w.heap.size
  | .nil, _, x, hx => by cases hx
  | .node _ _ _ _ _, ⟨h1, _, hl, hr⟩, x, hx => by
    simp only [blks, List.mem_cons, List.mem_append] at hx
    rcases hx with rfl | hx | hx
    · exact World.block_lt_of_cell? w _ h1
    · exact hl.lt x hx
    · exact hr.lt x hx
theorem nodeAt_blk {t : Tr} : ∀ {v b o : Nat} {a : Unit} {l r : Tr}, nodeAt t v = .node b o a l r → b ∈ blks t := by
  induction t with
  | nil => intro v b o a l r h; cases h
  | node b1 o1 a1 l1 r1 ihl ihr =>
    intro v b o a l r h
    unfold nodeAt at h
    split at h
    · exact List.mem_cons_of_mem _ (List.mem_append_left _ (ihl h))
    · split at h
      · cases h; exact List.mem_cons_self ..
      · exact List.mem_cons_of_mem _ (List.mem_append_right _ (ihr h))
theorem TIn.atNode {w : World} {t : Tr} : ∀ {v : Nat}, TIn w t → TIn w (nodeAt t v) := by
  induction t with
  | nil => intro v _; exact trivial
  | node b o a l r ihl ihr =>
    intro v h
    have ⟨_, _, hl, hr⟩ := h
    unfold nodeAt
    split
    · exact ihl hl
    · split
      · exact h
      · exact ihr hr
theorem replAt_ptr {t : Tr} {v b o : Nat} {a : Unit} {l r l' r' : Tr} (h : nodeAt t v = .node b o a l r) : (replAt t v (.node b o () l' r')).ptr = t.ptr := by
  cases t with
  | nil => cases h
  | node b1 o1 a1 l1 r1 =>
    unfold nodeAt at h
    unfold replAt
    split at h
    · next h1 => rw [if_pos h1]; rfl
    · next h1 =>
      rw [if_neg h1]
      split at h
      · next h2 => rw [if_pos h2]; cases h; rfl
      · next h2 => rw [if_neg h2]; rfl
/-- One node written anew, in its place. -/
theorem TIn.repl {w w' : World} {lo hi : Nat} {t : Tr} : ∀ {v b : Nat} {a : Unit} {l r l' r' : Tr}, TIn w t → Apart lo hi t → nodeAt t v = .node b 0 a l r →
    (∀ x, x ∈ blks t → x ≠ b → ∀ o, w'.cell? ⟨x, o, none⟩ = w.cell? ⟨x, o, none⟩) → TIn w' (.node b 0 () l' r') → TIn w' (replAt t v (.node b 0 () l' r')) := by
  induction t with
  | nil => intro v b a l r l' r' _ _ h; cases h
  | node b1 o1 a1 l1 r1 ihl ihr =>
    intro v b a l r l' r' hin hap hat hk hnew
    obtain ⟨c1, c2, tl, tr⟩ := hin
    obtain ⟨_, _, _, n1, n2, n3, al, ar⟩ := hap
    have hp := @replAt_ptr l1 v b 0 a l r l' r'
    have hp' := @replAt_ptr r1 (v - nodes l1 - 1) b 0 a l r l' r'
    unfold nodeAt at hat
    unfold replAt
    split at hat
    · next h1 =>
      rw [if_pos h1]
      have hm := nodeAt_blk hat
      have hne : b1 ≠ b := fun e => n1 (e ▸ hm)
      refine ⟨?_, ?_, ihl tl al hat (fun x hx => hk x (List.mem_cons_of_mem _ (List.mem_append_left _ hx))) hnew, tr.keepB fun x hx => hk x (List.mem_cons_of_mem _ (List.mem_append_right _ hx)) (fun e => n3 b hm (e ▸ hx))⟩
      · rw [hp hat]; exact (hk b1 (List.mem_cons_self ..) hne _).trans c1
      · exact (hk b1 (List.mem_cons_self ..) hne _).trans c2
    · next h1 =>
      rw [if_neg h1]
      split at hat
      · next h2 => rw [if_pos h2]; exact hnew
      · next h2 =>
        rw [if_neg h2]
        have hm := nodeAt_blk hat
        have hne : b1 ≠ b := fun e => n2 (e ▸ hm)
        refine ⟨?_, ?_, tl.keepB fun x hx => hk x (List.mem_cons_of_mem _ (List.mem_append_left _ hx)) (fun e => n3 x hx (e ▸ hm)), ihr tr ar hat (fun x hx => hk x (List.mem_cons_of_mem _ (List.mem_append_right _ hx))) hnew⟩
        · exact (hk b1 (List.mem_cons_self ..) hne _).trans c1
        · rw [hp' hat]; exact (hk b1 (List.mem_cons_self ..) hne _).trans c2

theorem Apart.atNode {lo hi : Nat} {t : Tr} : ∀ {v : Nat}, Apart lo hi t → Apart lo hi (nodeAt t v) := by
  induction t with
  | nil => intro v _; exact trivial
  | node b o a l r ihl ihr =>
    intro v h
    have ⟨_, _, _, _, _, _, h6, h7⟩ := h
    unfold nodeAt
    split
    · exact ihl h6
    · split
      · exact h
      · exact ihr h7
/-- The nodes' blocks may be written. -/
def Thaw (w : World) (t : Tr) : Prop := ∀ x, x ∈ blks t → ∀ o, w.frozen? ⟨x, o, none⟩ = false
/-- A tree of a call's own. -/
def Apt (lo : Nat) (w : World) (t : Tr) : Prop := Apart lo w.heap.size t ∧ Thaw w t
theorem Apt.nil_ {lo : Nat} {w : World} : Apt lo w .nil := ⟨trivial, fun x hx => by cases hx⟩
theorem Apt.join {lo : Nat} {w w' : World} {l r : Tr} {cs : Array Value} {e : TypeId} (hl : Apt lo w l) (hr : Apt w.heap.size w' r) (h1 : lo ≤ w.heap.size) (hb : Below w.heap.size w w') : Apt lo (w'.alloc (.cells cs e)) (.node w'.heap.size 0 () l r) := by
  have hsz : (w'.alloc (.cells cs e)).heap.size = w'.heap.size + 1 := by simp
  refine ⟨by rw [hsz]; exact hl.1.join hr.1 h1 hb.size, fun x hx o => ?_⟩
  simp only [blks, List.mem_cons, List.mem_append] at hx
  rcases hx with rfl | hx | hx
  · exact World.frozen?_alloc_new ..
  · have := hl.1.blk x hx
    have hs := hb.size
    rw [World.frozen?_alloc_old (w := w') (a := ⟨x, o, none⟩) (h := show x ≠ w'.heap.size by omega), hb.frozen (p := ⟨x, o, none⟩) this.2]
    exact hl.2 x hx o
  · have := hr.1.blk x hx
    rw [World.frozen?_alloc_old (w := w') (a := ⟨x, o, none⟩) (h := show x ≠ w'.heap.size by omega)]
    exact hr.2 x hx o
set_option maxHeartbeats 400000 in
theorem text_any (t : Tr) : ∀ w : World, TIn w t → nodes t ≤ 1000000 →
    Calls Try.prog 80 #[t.ptr] w fun e w' => e = .returned (.string (bs (tx t))) ∧ ∃ n, w' = w.drewN n := by
  induction t with
  | nil =>
    intro w _ _
    show Calls _ _ #[.pointer none] _ _
    go_enter Try.func80, Try.ntmps80
    go_wp2_with fail
    go_ret
    exact ⟨rfl, 0, rfl⟩
  | node b o a l r ihl ihr =>
    intro w h hn
    obtain ⟨h1, h2, hl, hr⟩ := h
    have tl := tx_len l
    have tr := tx_len r
    have hsl : (bs (tx l)).size ≤ 3000001 := by rw [size_bs]; simp only [nodes] at hn; omega
    have hsr : (bs (tx r)).size ≤ 3000001 := by rw [size_bs]; simp only [nodes] at hn; omega
    have hsl2 : (tx l).length ≤ 3000001 := hsl
    have hsr2 : (tx r).length ≤ 3000001 := hsr
    have hnl : nodes l ≤ 1000000 := by simp only [nodes] at hn; omega
    have hnr : nodes r ≤ 1000000 := by simp only [nodes] at hn; omega
    clear tl tr hn
    have IHl := fun w' h => ihl w' h hnl
    have IHr := fun w' h => ihr w' h hnr
    have HIHl := Lib.hid IHl
    have HIHr := Lib.hid IHr
    clear ihl ihr IHl IHr
    obtain ⟨pl, hpl⟩ := ptr_ptr l
    obtain ⟨pr, hpr⟩ := ptr_ptr r
    rw [hpl] at h1
    rw [hpr] at h2
    have Hpl := Lib.hid hpl
    have Hpr := Lib.hid hpr
    have hl' := Lib.hid hl
    have hr' := Lib.hid hr
    clear hpl hpr hl hr
    show Calls _ _ #[.pointer (some ⟨b, o, none⟩)] _ _
    go_enter Try.func80, Try.ntmps80
    go_wp2_with fail
    go_quiet (first | (go_at_call_of 80 (Value.pointer pl); rw [← Hpl.out]; refine Calls.quiet_of (HIHl.out _ ?_); exact hl'.out.drewN _) | (go_at_call_of 80 (Value.pointer pr); rw [← Hpr.out]; refine Calls.quiet_of (HIHr.out _ ?_); exact hr'.out.drewN _))
    go_wp2_with fail
    go_ret
    refine ⟨?_, _, rfl⟩
    rw [bs_lit, bs_lit, bs_append, bs_append, bs_append]
    rfl

end Go.Proofs.Ytiebaoglcdbopaa
