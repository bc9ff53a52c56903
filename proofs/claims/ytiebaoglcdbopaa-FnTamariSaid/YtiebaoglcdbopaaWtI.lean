/- The program's weights, WeightsOf, treeOfWeights, BinaryOfWeights. -/
import Derived.Test.YtiebaoglcdbopaaTreeI2
import Derived.Test.YtiebaoglcdbopaaWtS2
import Derived.Test.YtiebaoglcdbopaaPut
import Derived.Deep.RegionHeld3
namespace Go.Proofs.Ytiebaoglcdbopaa
open Go.RowKit Go.Deep

/-- The call hands back the slice of the call's own with the ints ys. -/
def RetW (B : Nat) (ys : List Int) (w : World) (e : Ending) (w' : World) : Prop :=
  ∃ A n c, n = ys.length ∧ e = .returned (.slice A n c) ∧ Own w' 3 B A n c (iv ys) ∧ Below B w w'

theorem stepI (w : World) {ops : Array Oper} {o : Oper} {a : Act} {K : Act → World → Prop} {Q : Exit → Act → World → Prop} {E : Prop} (hgd : o.guard = none) (s x : Operand)
    (ho : o.op = .call { callee := .builtin .append, args := #[s, x], argTypes := #[42, 42] })
    (B : Nat) (A : Option Addr) (n c : Nat) (vs : List Value) (hs : a.eval s = .slice A n c) (hown : Own w 3 B A n c vs)
    (g : Nat) (y : Int) (hx : a.eval x = .slice (some ⟨g, 0, none⟩) 1 1) (hy : w.cell? ⟨g, 0, none⟩ = some (.int .i64 y)) (hn : n ≤ 1000000000) (hbase' : B ≤ g)
    (h : ∀ A' c' w', Own w' 3 B A' (n + 1) c' (vs ++ [.int .i64 y]) → w.grownBy w' (Value.ownBlock (.slice A n c)) → Below B w w' → K (a.put o.dst (.slice A' (n + 1) c')) w') :
    if Region.wanted o (yielded ops a.tmps) = true then Oper.wp Try.prog o a w K Q else E :=
  step_app1 w hgd s x 42 ho 3 (.int .i64 0) 8 Try.underlying42 info_int rfl (by decide) B A n c vs hs hown g _ hx hy rfl hn hbase' h

set_option maxRecDepth 20000 in
set_option maxHeartbeats 1000000 in
theorem weights_any (t : Tr) : ∀ (B : Nat) (A : Option Addr) (n c : Nat) (xs : List Int) (w : World), TIn w t → (∀ x ∈ blks t, x < B) → B ≤ w.heap.size → Own w 3 B A n c (iv xs) → n + nodes t ≤ 1000000 →
    Calls Try.prog 86 #[t.ptr, .slice A n c] w (RetW B (xs ++ wts t) w) := by
  induction t with
  | nil =>
    intro B A n c xs w _ _ _ ho _
    have HO := Lib.hid ho
    have HL := Lib.hid (show n = xs.length by have := ho.len; rw [iv_len] at this; omega)
    clear ho
    show Calls _ _ #[.pointer none, _] _ _
    go_enter Try.func86, Try.ntmps86
    go_wp2_with fail
    go_ret
    exact ⟨A, n, c, by simp [wts, HL.out], rfl, by rw [wts, List.append_nil]; exact HO.out, Below.refl _ _⟩
  | node b o a l r ihl ihr =>
    intro B A n c xs w h hblk hB ho hn
    obtain ⟨h1, h2, hl, hr⟩ := h
    have hnn : n + (nodes l + nodes r + 1) ≤ 1000000 := hn
    have hbB : b < B := hblk b (List.mem_cons_self ..)
    have hbl : b < w.heap.size := by omega
    have HBL := Lib.hid (show ∀ x ∈ blks l, x < B from fun x hx => hblk x (List.mem_cons_of_mem _ (List.mem_append_left _ hx)))
    have HBR := Lib.hid (show ∀ x ∈ blks r, x < B from fun x hx => hblk x (List.mem_cons_of_mem _ (List.mem_append_right _ hx)))
    have HIHl := Lib.hid ihl
    have HIHr := Lib.hid ihr
    have HO := Lib.hid ho
    clear ihl ihr ho hblk hn
    obtain ⟨pl, hpl⟩ := ptr_ptr l
    obtain ⟨pr, hpr⟩ := ptr_ptr r
    rw [hpl] at h1
    rw [hpr] at h2
    have Hpl := Lib.hid hpl
    have Hpr := Lib.hid hpr
    have hl' := Lib.hid hl
    have hr' := Lib.hid hr
    clear hpl hpr hl hr
    show Calls _ _ #[.pointer (some ⟨b, o, none⟩), _] _ _
    go_enter Try.func86, Try.ntmps86
    go_wp2_with fail
    have HXL := Lib.hid (show xs.length = n by have := HO.out.len; rw [iv_len] at this; exact this)
    go_region_held3 (fun w' => w'.cell? ⟨b, o, none⟩ = some (.pointer pl) ∧ w'.cell? ⟨b, o + 1, none⟩ = some (.pointer pr)) (first | exact ⟨by assumption, by assumption⟩ | go_keep)
      (first
        | (go_at_call_of 86 (Value.pointer pl); rw [← Hpl.out]; refine (HIHl.out B A n c xs _ ?_ HBL.out ?_ ?_ (by omega)).mono ?_; (exact hl'.out.drewN _); (exact hB); (exact HO.out.drewN _); rintro e w1 ⟨A1, n1, c1, hn1, rfl, ho1, hb1⟩; have k1 := (hb1.cell (p := ⟨b, o, none⟩) hbB).trans h1; have k2 := (hb1.cell (p := ⟨b, o + 1, none⟩) hbB).trans h2; have hs1 : w.heap.size ≤ w1.heap.size := hb1.size; have hn1b : n1 + nodes r + 1 ≤ 1000000 := (by rw [hn1, List.length_append, wts_len, HXL.out]; omega); have HO1 := Lib.hid ho1; have HN1 := Lib.hid hn1; have n3 := World.new_ne w1 _ k1; have n4 := World.new_ne w1 _ k2; clear ho1 hn1)
        | (go_at_call 101; rw [← Hpr.out]; refine (nodes_any r _ ?_ (by omega)).mono ?_; (exact hr'.out.keepB fun x hx o => hb1.cell (p := ⟨x, o, none⟩) (HBR.out x hx)); rintro e w2 ⟨rfl, m, rfl⟩; rw [Hpr.out])
        | (refine stepI _ rfl _ _ (by rfl) B A1 n1 c1 _ (by rfl) ((HO1.out.drewN m).alloc _) w1.heap.size (nodes r : Int) (by rfl) (by show ((w1.drewN m).alloc _).cell? ⟨(w1.drewN m).heap.size, 0, none⟩ = _; rw [World.cell?_alloc_new]; rfl) (by omega) (by omega) ?_; intro A4 c4 w4 hown4 hg4 hb4; have k5 := (hb4.cell (p := ⟨b, o, none⟩) hbB).trans ((World.cell?_alloc_lt _ _ _ (World.block_lt_of_cell? _ _ k1)).trans k1); have k6 := (hb4.cell (p := ⟨b, o + 1, none⟩) hbB).trans ((World.cell?_alloc_lt _ _ _ (World.block_lt_of_cell? _ _ k2)).trans k2); have HO4 := Lib.hid hown4; have hs4 : w1.heap.size ≤ w4.heap.size := (by have := hb4.size; simp at this; omega); clear hown4)
        | (go_at_call_of 86 (Value.pointer pr); rw [← Hpr.out]; refine (HIHr.out B A4 (n1 + 1) c4 (xs ++ wts l ++ [(nodes r : Int)]) _ ?_ HBR.out ?_ ?_ (by omega)).mono ?_; (exact hr'.out.keepB fun x hx o => (hb4.cell (p := ⟨x, o, none⟩) (HBR.out x hx)).trans ((World.cell?_alloc_lt _ _ _ (Nat.lt_of_lt_of_le (HBR.out x hx) (Nat.le_trans hB hs1))).trans (hb1.cell (p := ⟨x, o, none⟩) (HBR.out x hx)))); (exact Nat.le_trans hB (Nat.le_trans hs1 hs4)); (rw [iv_append (xs ++ wts l)]; exact HO4.out); rintro e w5 ⟨A5, n5, c5, hn5, rfl, ho5, hb5⟩; have k7 := (hb5.cell (p := ⟨b, o, none⟩) hbB).trans k5; have k8 := (hb5.cell (p := ⟨b, o + 1, none⟩) hbB).trans k6; have HO5 := Lib.hid ho5; have HN5 := Lib.hid hn5; clear ho5 hn5))
    go_wp2_with fail
    go_ret
    have hb1' : Below B w w1 := ⟨hb1.os, hb1.tape, hb1.output, hb1.size, hb1.block⟩
    refine ⟨A5, n5, c5, by rw [HN5.out]; simp [wts], rfl, ?_, (((below_drewN' hb1' m).alloc (by show B ≤ w1.heap.size; omega) _).trans hb4).trans hb5⟩
    have e : xs ++ wts (.node b o a l r) = xs ++ wts l ++ [(nodes r : Int)] ++ wts r := by simp [wts]
    rw [e]
    exact HO5.out

end Go.Proofs.Ytiebaoglcdbopaa
