/- Merged: Tree TreeI. -/
import Derived.Test.YtghfhkbncjgaeaaGreatProg
import Derived.Test.YtghfhkbncjgaeaaGreatMg3
import Derived.Test.YtghfhkbncjgaeaaGreatMg16
import Derived.StillTailTactics

namespace Go.Proofs.YtghfhkbncjgaeaaGreat
open Go.RowKit Go.Deep

/-- The nodes lie in the world. -/
def TIn (w : World) : Tr → Prop
  | .nil => True
  | .node b o _ l r => w.cell? ⟨b, o, none⟩ = some l.ptr ∧ w.cell? ⟨b, o + 1, none⟩ = some r.ptr ∧ TIn w l ∧ TIn w r
theorem TIn.keep {w w' : World} {B : Nat} : ∀ {t : Tr}, TIn w t → w.heap.size ≤ B → (∀ p : Addr, p.block < B → w'.cell? p = w.cell? p) → TIn w' t
  | .nil, _, _, _ => trivial
  | .node _ _ _ _ _, ⟨h1, h2, hl, hr⟩, hB, hk =>
    ⟨(hk _ (Nat.lt_of_lt_of_le (World.block_lt_of_cell? w _ h1) hB)).trans h1, (hk _ (Nat.lt_of_lt_of_le (World.block_lt_of_cell? w _ h2) hB)).trans h2, hl.keep hB hk, hr.keep hB hk⟩
theorem TIn.below {w w' : World} {t : Tr} (h : TIn w t) (hb : Below w.heap.size w w') : TIn w' t := h.keep (Nat.le_refl _) fun _ hp => hb.cell hp
theorem TIn.drewN {w : World} {t : Tr} (h : TIn w t) (n : Nat) : TIn (w.drewN n) t := h.keep (w' := w.drewN n) (Nat.le_refl _) fun _ _ => rfl
theorem TIn.alloc {w : World} {t : Tr} (h : TIn w t) (o : Obj) : TIn (w.alloc o) t := h.keep (Nat.le_refl _) fun _ hp => World.cell?_alloc_lt w o _ hp
theorem TIn.new {w : World} {l r : Tr} (hl : TIn w l) (hr : TIn w r) (e : TypeId) : TIn (w.alloc (.cells #[l.ptr, r.ptr] e)) (.node w.heap.size 0 () l r) :=
  ⟨by simp [World.cell?_alloc_new], by simp [World.cell?_alloc_new], hl.alloc _, hr.alloc _⟩
/-- The blocks in which the nodes lie. -/
def blks : Tr → List Nat
  | .nil => []
  | .node b _ _ l r => b :: (blks l ++ blks r)
/-- The nodes lie in blocks from lo to hi, each at its block's head, no two in one block. -/
def Apart (lo hi : Nat) : Tr → Prop
  | .nil => True
  | .node b o _ l r => o = 0 ∧ lo ≤ b ∧ b < hi ∧ b ∉ blks l ∧ b ∉ blks r ∧ (∀ x, x ∈ blks l → x ∉ blks r) ∧ Apart lo hi l ∧ Apart lo hi r
theorem Apart.mono {lo hi lo' hi' : Nat} : ∀ {t : Tr}, Apart lo hi t → lo' ≤ lo → hi ≤ hi' → Apart lo' hi' t
  | .nil, _, _, _ => trivial
  | .node _ _ _ _ _, ⟨h0, h1, h2, h3, h4, h5, h6, h7⟩, a, b => ⟨h0, by omega, by omega, h3, h4, h5, h6.mono a b, h7.mono a b⟩
theorem Apart.blk {lo hi : Nat} : ∀ {t : Tr}, Apart lo hi t → ∀ x ∈ blks t, lo ≤ x ∧ x < hi
  | .nil, _, x, hx => by cases hx
  | .node _ _ _ _ _, ⟨_, h1, h2, _, _, _, h6, h7⟩, x, hx => by
    simp only [blks, List.mem_cons, List.mem_append] at hx
    rcases hx with rfl | hx | hx
    · exact ⟨h1, h2⟩
    · exact h6.blk x hx
    · exact h7.blk x hx
/-- Two trees in parts of memory that follow each other, and a new node. -/
theorem Apart.join {lo mid hi : Nat} {l r : Tr} (hl : Apart lo mid l) (hr : Apart mid hi r) (h1 : lo ≤ mid) (h2 : mid ≤ hi) : Apart lo (hi + 1) (.node hi 0 () l r) := by
  refine ⟨rfl, by omega, by omega, fun h => ?_, fun h => ?_, fun x hx hx' => ?_, hl.mono (Nat.le_refl _) (by omega), hr.mono h1 (by omega)⟩
  · have := hl.blk _ h; omega
  · have := hr.blk _ h; omega
  · have := hl.blk _ hx; have := hr.blk _ hx'; omega
theorem TIn.keepB {w w' : World} : ∀ {t : Tr}, TIn w t → (∀ x ∈ blks t, ∀ o, w'.cell? ⟨x, o, none⟩ = w.cell? ⟨x, o, none⟩) → TIn w' t
  | .nil, _, _ => trivial
  | .node b _ _ _ _, ⟨h1, h2, hl, hr⟩, hk =>
    ⟨(hk b (List.mem_cons_self ..) _).trans h1, (hk b (List.mem_cons_self ..) _).trans h2, hl.keepB fun x hx => hk x (List.mem_cons_of_mem _ (List.mem_append_left _ hx)), hr.keepB fun x hx => hk x (List.mem_cons_of_mem _ (List.mem_append_right _ hx))⟩
theorem TIn.lt {w : World} : ∀ {t : Tr}, TIn w t → ∀ x ∈ blks t, x < w.heap.size
  | .nil, _, x, hx => by cases hx
  | .node _ _ _ _ _, ⟨h1, _, hl, hr⟩, x, hx => by
    simp only [blks, List.mem_cons, List.mem_append] at hx
    rcases hx with rfl | hx | hx
    · exact World.block_lt_of_cell? w _ h1
    · exact hl.lt x hx
    · exact hr.lt x hx
theorem nodeAt_blk {t : Tr} : ∀ {v b o : Nat} {a : Unit} {l r : Tr}, nodeAt t v = .node b o a l r → b ∈ blks t := by
  induction t with
  | nil => intro v b o a l r h; cases h
  | node b1 o1 a1 l1 r1 ihl ihr =>
    intro v b o a l r h
    unfold nodeAt at h
    split at h
    · exact List.mem_cons_of_mem _ (List.mem_append_left _ (ihl h))
    · split at h
      · cases h; exact List.mem_cons_self ..
      · exact List.mem_cons_of_mem _ (List.mem_append_right _ (ihr h))
theorem TIn.atNode {w : World} {t : Tr} : ∀ {v : Nat}, TIn w t → TIn w (nodeAt t v) := by
  induction t with
  | nil => intro v _; exact trivial
  | node b o a l r ihl ihr =>
    intro v h
    have ⟨_, _, hl, hr⟩ := h
    unfold nodeAt
    split
    · exact ihl hl
    · split
      · exact h
      · exact ihr hr
theorem replAt_ptr {t : Tr} {v b o : Nat} {a : Unit} {l r l' r' : Tr} (h : nodeAt t v = .node b o a l r) : (replAt t v (.node b o () l' r')).ptr = t.ptr := by
  cases t with
  | nil => cases h
  | node b1 o1 a1 l1 r1 =>
    unfold nodeAt at h
    unfold replAt
    split at h
    · next h1 => rw [if_pos h1]; rfl
    · next h1 =>
      rw [if_neg h1]
      split at h
      · next h2 => rw [if_pos h2]; cases h; rfl
      · next h2 => rw [if_neg h2]; rfl
/-- One node written anew, in its place. -/
theorem TIn.repl {w w' : World} {lo hi : Nat} {t : Tr} : ∀ {v b : Nat} {a : Unit} {l r l' r' : Tr}, TIn w t → Apart lo hi t → nodeAt t v = .node b 0 a l r →
    (∀ x, x ∈ blks t → x ≠ b → ∀ o, w'.cell? ⟨x, o, none⟩ = w.cell? ⟨x, o, none⟩) → TIn w' (.node b 0 () l' r') → TIn w' (replAt t v (.node b 0 () l' r')) := by
  induction t with
  | nil => intro v b a l r l' r' _ _ h; cases h
  | node b1 o1 a1 l1 r1 ihl ihr =>
    intro v b a l r l' r' hin hap hat hk hnew
    obtain ⟨c1, c2, tl, tr⟩ := hin
    obtain ⟨_, _, _, n1, n2, n3, al, ar⟩ := hap
    have hp := @replAt_ptr l1 v b 0 a l r l' r'
    have hp' := @replAt_ptr r1 (v - nodes l1 - 1) b 0 a l r l' r'
    unfold nodeAt at hat
    unfold replAt
    split at hat
    · next h1 =>
      rw [if_pos h1]
      have hm := nodeAt_blk hat
      have hne : b1 ≠ b := fun e => n1 (e ▸ hm)
      refine ⟨?_, ?_, ihl tl al hat (fun x hx => hk x (List.mem_cons_of_mem _ (List.mem_append_left _ hx))) hnew, tr.keepB fun x hx => hk x (List.mem_cons_of_mem _ (List.mem_append_right _ hx)) (fun e => n3 b hm (e ▸ hx))⟩
      · rw [hp hat]; exact (hk b1 (List.mem_cons_self ..) hne _).trans c1
      · exact (hk b1 (List.mem_cons_self ..) hne _).trans c2
    · next h1 =>
      rw [if_neg h1]
      split at hat
      · next h2 => rw [if_pos h2]; exact hnew
      · next h2 =>
        rw [if_neg h2]
        have hm := nodeAt_blk hat
        have hne : b1 ≠ b := fun e => n2 (e ▸ hm)
        refine ⟨?_, ?_, tl.keepB fun x hx => hk x (List.mem_cons_of_mem _ (List.mem_append_left _ hx)) (fun e => n3 x hx (e ▸ hm)), ihr tr ar hat (fun x hx => hk x (List.mem_cons_of_mem _ (List.mem_append_right _ hx))) hnew⟩
        · exact (hk b1 (List.mem_cons_self ..) hne _).trans c1
        · rw [hp' hat]; exact (hk b1 (List.mem_cons_self ..) hne _).trans c2

theorem Apart.atNode {lo hi : Nat} {t : Tr} : ∀ {v : Nat}, Apart lo hi t → Apart lo hi (nodeAt t v) := by
  induction t with
  | nil => intro v _; exact trivial
  | node b o a l r ihl ihr =>
    intro v h
    have ⟨_, _, _, _, _, _, h6, h7⟩ := h
    unfold nodeAt
    split
    · exact ihl h6
    · split
      · exact h
      · exact ihr h7
/-- The nodes' blocks may be written. -/
def Thaw (w : World) (t : Tr) : Prop := ∀ x, x ∈ blks t → ∀ o, w.frozen? ⟨x, o, none⟩ = false
/-- A tree of a call's own. -/
def Apt (lo : Nat) (w : World) (t : Tr) : Prop := Apart lo w.heap.size t ∧ Thaw w t
theorem Apt.nil_ {lo : Nat} {w : World} : Apt lo w .nil := ⟨trivial, fun x hx => by cases hx⟩
theorem Apt.join {lo : Nat} {w w' : World} {l r : Tr} {cs : Array Value} {e : TypeId} (hl : Apt lo w l) (hr : Apt w.heap.size w' r) (h1 : lo ≤ w.heap.size) (hb : Below w.heap.size w w') : Apt lo (w'.alloc (.cells cs e)) (.node w'.heap.size 0 () l r) := by
  have hsz : (w'.alloc (.cells cs e)).heap.size = w'.heap.size + 1 := by simp
  refine ⟨by rw [hsz]; exact hl.1.join hr.1 h1 hb.size, fun x hx o => ?_⟩
  simp only [blks, List.mem_cons, List.mem_append] at hx
  rcases hx with rfl | hx | hx
  · exact World.frozen?_alloc_new ..
  · have := hl.1.blk x hx
    have hs := hb.size
    rw [World.frozen?_alloc_old (w := w') (a := ⟨x, o, none⟩) (h := show x ≠ w'.heap.size by omega), hb.frozen (p := ⟨x, o, none⟩) this.2]
    exact hl.2 x hx o
  · have := hr.1.blk x hx
    rw [World.frozen?_alloc_old (w := w') (a := ⟨x, o, none⟩) (h := show x ≠ w'.heap.size by omega)]
    exact hr.2 x hx o
set_option maxHeartbeats 400000 in
theorem text_any (t : Tr) : ∀ w : World, TIn w t → nodes t ≤ 1000000 →
    Calls Tryz.prog 102 #[t.ptr] w fun e w' => e = .returned (.string (bs (tx t))) ∧ ∃ n, w' = w.drewN n := by
  induction t with
  | nil =>
    intro w _ _
    show Calls _ _ #[.pointer none] _ _
    go_enter Tryz.func102, Tryz.ntmps102
    go_wp2_with fail
    go_ret
    exact ⟨rfl, 0, rfl⟩
  | node b o a l r ihl ihr =>
    intro w h hn
    obtain ⟨h1, h2, hl, hr⟩ := h
    have tl := tx_len l
    have tr := tx_len r
    have hsl : (bs (tx l)).size ≤ 3000001 := by rw [size_bs]; simp only [nodes] at hn; omega
    have hsr : (bs (tx r)).size ≤ 3000001 := by rw [size_bs]; simp only [nodes] at hn; omega
    have hsl2 : (tx l).length ≤ 3000001 := hsl
    have hsr2 : (tx r).length ≤ 3000001 := hsr
    have hnl : nodes l ≤ 1000000 := by simp only [nodes] at hn; omega
    have hnr : nodes r ≤ 1000000 := by simp only [nodes] at hn; omega
    clear tl tr hn
    have IHl := fun w' h => ihl w' h hnl
    have IHr := fun w' h => ihr w' h hnr
    have HIHl := Lib.hid IHl
    have HIHr := Lib.hid IHr
    clear ihl ihr IHl IHr
    obtain ⟨pl, hpl⟩ := ptr_ptr l
    obtain ⟨pr, hpr⟩ := ptr_ptr r
    rw [hpl] at h1
    rw [hpr] at h2
    have Hpl := Lib.hid hpl
    have Hpr := Lib.hid hpr
    have hl' := Lib.hid hl
    have hr' := Lib.hid hr
    clear hpl hpr hl hr
    show Calls _ _ #[.pointer (some ⟨b, o, none⟩)] _ _
    go_enter Tryz.func102, Tryz.ntmps102
    go_wp2_with fail
    go_quiet (first | (go_at_call_of 102 (Value.pointer pl); rw [← Hpl.out]; refine Calls.quiet_of (HIHl.out _ ?_); exact hl'.out.drewN _) | (go_at_call_of 102 (Value.pointer pr); rw [← Hpr.out]; refine Calls.quiet_of (HIHr.out _ ?_); exact hr'.out.drewN _))
    go_wp2_with fail
    go_ret
    refine ⟨?_, _, rfl⟩
    rw [bs_lit, bs_lit, bs_append, bs_append, bs_append]
    rfl

end Go.Proofs.YtghfhkbncjgaeaaGreat

namespace Go.Proofs.YtghfhkbncjgaeaaGreat
open Go.RowKit Go.Deep

/-- What readTree hands back. -/
def RTree (n : Nat) (o : Option (Tr × List UInt8)) (w : World) (e : Ending) (w' : World) : Prop :=
  Below w.heap.size w w' ∧ match o with
  | none => e = .returned (.tuple #[.pointer none, .int .i64 (-1)])
  | some x => ∃ T : Tr, sh T = x.1 ∧ TIn w' T ∧ Apt w.heap.size w' T ∧ e = .returned (.tuple #[T.ptr, .int .i64 ((n : Int) - x.2.length)])
theorem RTree.no {n : Nat} {w w' : World} {e : Ending} (hb : Below w.heap.size w w') (he : e = .returned (.tuple #[.pointer none, .int .i64 (-1)])) : RTree n none w e w' := ⟨hb, he⟩
theorem RTree.yes {n : Nat} {w w' : World} {e : Ending} {t : Tr} {r : List UInt8} (T : Tr) (z : Int) (hb : Below w.heap.size w w') (h1 : sh T = t) (h2 : TIn w' T) (h3 : Apt w.heap.size w' T) (hz : z = (n : Int) - r.length) (he : e = .returned (.tuple #[T.ptr, .int .i64 z])) : RTree n (some (t, r)) w e w' :=
  ⟨hb, T, h1, h2, h3, by rw [← hz]; exact he⟩

set_option maxHeartbeats 2000000 in
theorem readTree_any (l : List UInt8) (hl : l.length ≤ 1000000000) : ∀ (f k : Nat) (w : World), l.length < f + k → k ≤ l.length →
    Calls Tryz.prog 128 #[.string (bs l), .int .i64 k] w (RTree l.length (pz f (l.drop k)) w) := by
  intro f
  induction f with
  | zero => intro k w h1 h2; omega
  | succ f ih =>
    intro k w h1 h2
    have IH := Lib.hid ih
    clear ih
    by_cases hlt : k < l.length
    · obtain ⟨c, hc⟩ : ∃ c, l[k] = c := ⟨_, rfl⟩
      have hdr : l.drop k = c :: l.drop (k + 1) := by rw [List.drop_eq_getElem_cons hlt, hc]
      by_cases h46 : c = 46
      · subst h46
        have HF := Lib.hid (show pz (f + 1) (l.drop k) = some (.nil, l.drop (k + 1)) by rw [hdr, pz, if_pos rfl])
        have e1 : (((l[k]'hlt).toNat : Int) == 46) = true := by rw [hc]; rfl
        clear hc hdr
        go_enter Tryz.func128, Tryz.ntmps128
        go_wp2_with fail
        go_ret2
        rw [HF.out]
        exact RTree.yes .nil _ (Below.refl _ _) rfl trivial Apt.nil_ (by simp; omega) rfl
      have e1 : (((l[k]'hlt).toNat : Int) == 46) = false := by rw [hc]; exact u8n h46
      by_cases h40 : c = 40
      · subst h40
        have e2 : (((l[k]'hlt).toNat : Int) == 40) = true := by rw [hc]; rfl
        have hstep : pz (f + 1) (l.drop k) = (pz f (l.drop (k + 1))).bind fun x => (pz f x.2).bind fun y => if y.2.head? = some 41 then some (.node 0 0 () x.1 y.1, y.2.tail) else none := by
          rw [hdr, pz, if_neg (by decide), if_pos rfl]
        have hI := IH.out (k + 1) w (by omega) (by omega)
        rw [show ((k + 1 : Nat) : Int) = (k : Int) + 1 by omega] at hI
        clear hc hdr
        rcases hz : pz f (l.drop (k + 1)) with _ | ⟨a, r1⟩
        · have HF := Lib.hid (show pz (f + 1) (l.drop k) = none by rw [hstep, hz]; rfl)
          rw [hz] at hI
          have HI := Lib.hid hI
          clear hz hstep hI
          go_enter Tryz.func128, Tryz.ntmps128
          go_wp2_with fail
          refine HI.out.mono ?_
          rintro e w1 ⟨hb, rfl⟩
          go_wp2_with fail
          go_ret2
          rw [HF.out]
          exact RTree.no hb rfl
        rw [hz] at hI
        have HI := Lib.hid hI
        clear hI
        obtain ⟨x, hx1, hx2, hx3, hx4, -⟩ := pz_cut (by omega) hz
        subst hx3
        have hx5 : (l.length : Int) - (l.drop x).length = x := hx4
        have HX := Lib.hid hx5
        have hJ := fun w => IH.out x w (by omega) (by omega)
        rcases hz2 : pz f (l.drop x) with _ | ⟨b, r2⟩
        · have HF := Lib.hid (show pz (f + 1) (l.drop k) = none by rw [hstep, hz]; simp only [Option.bind_some, hz2]; rfl)
          rw [hz2] at hJ
          have HJ := Lib.hid hJ
          clear hz hz2 hstep hx4 hx5 hJ
          go_enter Tryz.func128, Tryz.ntmps128
          go_wp2_with fail
          refine HI.out.mono ?_
          rintro e w1 ⟨hb, T1, hs1, ht1, hp1, rfl⟩
          rw [HX.out]
          obtain ⟨p1, hq1⟩ := ptr_ptr T1
          rw [hq1]
          have HT1 := Lib.hid ht1
          clear ht1 hp1 hs1 hq1
          go_wp2_with fail
          refine (HJ.out _).mono ?_
          rintro e w2 ⟨hb2, rfl⟩
          go_wp2_with fail
          go_ret2
          rw [HF.out]
          exact RTree.no (hb.trans (hb2.mono hb.size)) rfl
        rw [hz2] at hJ
        have HJ := Lib.hid hJ
        clear hJ
        obtain ⟨y, hy1, hy2, hy3, hy4, -⟩ := pz_cut (by omega) hz2
        subst hy3
        have hy5 : (l.length : Int) - (l.drop y).length = y := hy4
        have HY := Lib.hid hy5
        have hval : pz (f + 1) (l.drop k) = if (l.drop y).head? = some 41 then some (.node 0 0 () a b, (l.drop y).tail) else none := by
          rw [hstep, hz]; simp only [Option.bind_some, hz2]
        clear hz hz2 hstep hx4 hy4 hx5 hy5
        have g0 : ¬ (y : Int) < 0 := by omega
        by_cases hly : y < l.length
        · obtain ⟨d, hd⟩ : ∃ d, l[y] = d := ⟨_, rfl⟩
          have hdy : l.drop y = d :: l.drop (y + 1) := by rw [List.drop_eq_getElem_cons hly, hd]
          by_cases h41 : d = 41
          · subst h41
            have HF := Lib.hid (show pz (f + 1) (l.drop k) = some (.node 0 0 () a b, l.drop (y + 1)) by rw [hval, hdy, if_pos (by simp)]; rfl)
            have e4 : (((l[y]'hly).toNat : Int) == 41) = true := by rw [hd]; rfl
            have e5 : (((l[y]'hly).toNat : Int) != 41) = false := by rw [hd]; rfl
            have g2 : ¬ l.length ≤ y := by omega
            clear hd hdy hval
            go_enter Tryz.func128, Tryz.ntmps128
            go_wp2_with fail
            refine HI.out.mono ?_
            rintro e w1 ⟨hb, T1, hs1, ht1, hp1, rfl⟩
            rw [HX.out]
            obtain ⟨p1, hq1⟩ := ptr_ptr T1
            rw [hq1]
            have HT1 := Lib.hid ht1
            have HP1 := Lib.hid hp1
            have HS1 := Lib.hid hs1
            have HQ1 := Lib.hid hq1
            clear ht1 hp1 hs1 hq1
            go_wp2_with fail
            refine (HJ.out _).mono ?_
            rintro e w2 ⟨hb2, T2, hs2, ht2, hp2, rfl⟩
            rw [HY.out]
            obtain ⟨p2, hq2⟩ := ptr_ptr T2
            rw [hq2]
            have HT2 := Lib.hid ht2
            have HP2 := Lib.hid hp2
            have HS2 := Lib.hid hs2
            have HQ2 := Lib.hid hq2
            clear ht2 hp2 hs2 hq2
            go_wp2_with fail
            · exfalso
              have h : (y : Int) < 0 ∨ (((l[y]'hly).toNat : Int) != 41) = true := by assumption
              rcases h with h | h
              · omega
              · rw [e5] at h; cases h
            · go_ret2
              rw [HF.out]
              have ht := TIn.new (HT1.out.below hb2) HT2.out 115
              rw [HQ1.out, HQ2.out] at ht
              have hap := HP1.out.join (cs := #[.pointer p1, .pointer p2]) (e := 115) HP2.out hb.size hb2
              exact RTree.yes (.node w2.heap.size 0 () T1 T2) _ ((hb.trans (hb2.mono hb.size)).alloc (Nat.le_trans hb.size hb2.size) _) (by simp [sh, HS1.out, HS2.out]) ht hap (by simp; omega) rfl
          · have HF := Lib.hid (show pz (f + 1) (l.drop k) = none by rw [hval, hdy, if_neg (by simpa using h41)])
            have e4 : (((l[y]'hly).toNat : Int) == 41) = false := by rw [hd]; exact u8n h41
            have e5 : (((l[y]'hly).toNat : Int) != 41) = true := by rw [bne, e4]; rfl
            have g2 : ¬ l.length ≤ y := by omega
            clear hd hdy hval h41
            go_enter Tryz.func128, Tryz.ntmps128
            go_wp2_with fail
            refine HI.out.mono ?_
            rintro e w1 ⟨hb, T1, hs1, ht1, hp1, rfl⟩
            rw [HX.out]
            obtain ⟨p1, hq1⟩ := ptr_ptr T1
            rw [hq1]
            clear ht1 hp1 hs1 hq1
            go_wp2_with fail
            refine (HJ.out _).mono ?_
            rintro e w2 ⟨hb2, T2, hs2, ht2, hp2, rfl⟩
            rw [HY.out]
            obtain ⟨p2, hq2⟩ := ptr_ptr T2
            rw [hq2]
            clear ht2 hp2 hs2 hq2
            go_wp2_with fail
            · go_ret2
              rw [HF.out]
              exact RTree.no (hb.trans (hb2.mono hb.size)) rfl
            · exfalso
              have h : (0 : Int) ≤ (y : Int) ∧ (((l[y]'hly).toNat : Int) != 41) = false := by assumption
              rw [e5] at h; cases h.2
        · have HF := Lib.hid (show pz (f + 1) (l.drop k) = none by rw [hval, List.drop_eq_nil_of_le (by omega)]; rfl)
          clear hval
          go_enter Tryz.func128, Tryz.ntmps128
          go_wp2_with fail
          refine HI.out.mono ?_
          rintro e w1 ⟨hb, T1, hs1, ht1, hp1, rfl⟩
          rw [HX.out]
          obtain ⟨p1, hq1⟩ := ptr_ptr T1
          rw [hq1]
          clear ht1 hp1 hs1 hq1
          go_wp2_with fail
          refine (HJ.out _).mono ?_
          rintro e w2 ⟨hb2, T2, hs2, ht2, hp2, rfl⟩
          rw [HY.out]
          obtain ⟨p2, hq2⟩ := ptr_ptr T2
          rw [hq2]
          clear ht2 hp2 hs2 hq2
          go_wp2_with fail
          go_ret2
          rw [HF.out]
          exact RTree.no (hb.trans (hb2.mono hb.size)) rfl
      · have HF := Lib.hid (show pz (f + 1) (l.drop k) = none by rw [hdr, pz, if_neg h46, if_neg h40])
        have e2 : (((l[k]'hlt).toNat : Int) == 40) = false := by rw [hc]; exact u8n h40
        clear hc hdr h46 h40
        go_enter Tryz.func128, Tryz.ntmps128
        go_wp2_with fail
        go_ret2
        rw [HF.out]
        exact RTree.no (Below.refl _ _) rfl
    · have HF := Lib.hid (show pz (f + 1) (l.drop k) = none by rw [List.drop_eq_nil_of_le (by omega)]; rfl)
      go_enter Tryz.func128, Tryz.ntmps128
      go_wp2_with fail
      go_ret2
      rw [HF.out]
      exact RTree.no (Below.refl _ _) rfl

end Go.Proofs.YtghfhkbncjgaeaaGreat
