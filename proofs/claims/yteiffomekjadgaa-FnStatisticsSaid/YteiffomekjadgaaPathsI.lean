/- The program's allPaths, a closure that calls itself, and PathsOf. -/
import Derived.Test.YteiffomekjadgaaPathsL
import Derived.Test.YteiffomekjadgaaNum
import Derived.Test.YteiffomekjadgaaStrs
import Derived.OneCell
import Derived.Laws.EntriesVeiled
namespace Go.Proofs.Yteiffomekjadgaa
open Go.RowKit

/-- The closure's own value. -/
def cloV (bo bm : Nat) : Value := .func (.func 117) #[] #[.pointer (some ⟨bo, 0, none⟩), .pointer (some ⟨bm, 0, none⟩)]
/-- What the closure has captured: the list so far, and itself. -/
structure Cl (w : World) (bo bm B : Nat) (A : Option Addr) (n c : Nat) (xs : List (List UInt8)) : Prop where
  out : w.heap[bo]? = some (.cells #[.slice A n c] 44 (0, 0))
  more : w.heap[bm]? = some (.cells #[cloV bo bm] 85 (0, 0))
  own : Own w 9 B A n c (sv xs)
  len : n = xs.length
  ob : B ≤ bo
  om : bo < bm
  dO : Value.ownBlock (.slice A n c) ≠ some bo
  dM : Value.ownBlock (.slice A n c) ≠ some bm
/-- What a call of the closure leaves. -/
def ClPost (w : World) (bo bm B : Nat) (xs : List (List UInt8)) (e : Ending) (w' : World) : Prop :=
  ∃ A n c, e = .returned (.tuple #[]) ∧ Cl w' bo bm B A n c xs ∧ Below B w w'
/-- append of one string, and where the new slice lies. -/
theorem appSL (w : World) {ops : Array Oper} {rest : List Oper} {o : Oper} {a : Act} {Q : Exit → Act → World → Prop} (hgd : o.guard = none) (s x : Operand)
    (ho : o.op = .call { callee := .builtin .append, args := #[s, x], argTypes := #[44, 44] })
    (B : Nat) (A : Option Addr) (n c : Nat) (vs : List Value) (hs : a.eval s = .slice A n c) (hown : Own w 9 B A n c vs)
    (g : Nat) (y : ByteArray) (hx : a.eval x = .slice (some ⟨g, 0, none⟩) 1 1) (hy : w.cell? ⟨g, 0, none⟩ = some (.string y)) (hn : n ≤ 1000000000) (hbase' : B ≤ g)
    (h : ∀ g' c' w', Own w' 9 B (some ⟨g', 0, none⟩) (n + 1) c' (vs ++ [.string y]) → w.grownBy w' (Value.ownBlock (.slice A n c)) → Below B w w' → (Value.ownBlock (.slice A n c) = some g' ∨ g' = w.heap.size) → wpList Try.prog ops Q rest (a.put o.dst (.slice (some ⟨g', 0, none⟩) (n + 1) c')) w') : wpList Try.prog ops Q (o :: rest) a w :=
  app1L w hgd s x 44 ho 9 (.string ByteArray.empty) 16 Try.underlying44 info_str rfl (by decide) B A n c vs hs hown g _ hx hy rfl hn hbase' h

set_option maxHeartbeats 2000000 in
theorem more_any : ∀ (f : Nat) (l : List UInt8) (u d bo bm B : Nat) (A : Option Addr) (n c : Nat) (xs : List (List UInt8)) (w : World), Cl w bo bm B A n c xs → u ≤ d → u + d ≤ f → f ≤ 16 → l.length + f ≤ 100 → n + 2 ^ f ≤ 1000000 →
    Calls Try.prog 117 #[.string (bs l), .int .i64 u, .int .i64 d, .pointer (some ⟨bo, 0, none⟩), .pointer (some ⟨bm, 0, none⟩)] w (ClPost w bo bm B (xs ++ pth f l u d)) := by
  have base : ∀ (f : Nat) (l : List UInt8) (bo bm B : Nat) (A : Option Addr) (n c : Nat) (xs : List (List UInt8)) (w : World), Cl w bo bm B A n c xs → n ≤ 1000000 →
      Calls Try.prog 117 #[.string (bs l), .int .i64 0, .int .i64 0, .pointer (some ⟨bo, 0, none⟩), .pointer (some ⟨bm, 0, none⟩)] w (ClPost w bo bm B (xs ++ pth f l 0 0)) := by
    intro f l bo bm B A n c xs w h hn
    have HF := Lib.hid (pth_done (f := f) (l := l) (u := 0))
    have HC := Lib.hid h
    have n1 : bo < w.heap.size := lt_of_block h.out
    have n2 : bm < w.heap.size := lt_of_block h.more
    have hob := h.ob
    have hB : B ≤ w.heap.size := by omega
    have c1 := cell_of_one h.out
    have f1 := free_of_one h.out
    clear h
    go_enter Try.func117, Try.ntmps117
    go_wp2_with (at_builtin; refine appSL _ rfl _ _ rfl B A n c (sv xs) rfl (HC.out.own.alloc _) w.heap.size (bs l) rfl (by simp) (by omega) hB ?_; intro g' c' w' hown' hg' hb' hat'; have k1 : w'.heap[bo]? = some (.cells #[.slice A n c] 44 (0, 0)) := (hg'.block bo (by simp; omega) (fun e => HC.out.dO e.symm)).trans ((Below.heap_alloc _ _ bo n1).trans HC.out.out); have k2 : w'.heap[bm]? = some (.cells #[cloV bo bm] 85 (0, 0)) := (hg'.block bm (by simp; omega) (fun e => HC.out.dM e.symm)).trans ((Below.heap_alloc _ _ bm n2).trans HC.out.more); have c2 := cell_of_one k1; have f2 := free_of_one k1; have dO : g' ≠ bo := hat'.elim (fun h e => HC.out.dO (by rw [← e]; exact h)) (fun h e => by simp at h; omega); have dM : g' ≠ bm := hat'.elim (fun h e => HC.out.dM (by rw [← e]; exact h)) (fun h e => by simp at h; omega))
    have HW := Lib.hid hown'
    have K1 := Lib.hid k1
    have K2 := Lib.hid k2
    have HB := Lib.hid hb'
    clear hown' k1 k2 hb' hat'
    go_wp2_with fail
    refine bodyPost_ret (results_none rfl _ _ _) rfl ?_
    rw [HF.out]
    refine ⟨some ⟨g', 0, none⟩, n + 1, c', rfl, ⟨one_setCell K1.out, ?_, ?_, ?_, hob, HC.out.om, ?_, ?_⟩, ?_⟩
    · rw [Below.heap_setCell _ _ _ _ (by show bm ≠ bo; have := HC.out.om; omega)]; exact K2.out
    · rw [sv_snoc]
      exact HW.out.set_far (p := ⟨bo, 0, none⟩) (fun g hg => by cases hg; exact dO) _
    · rw [HC.out.len]; simp
    · intro e; injection e with e; exact dO e
    · intro e; injection e with e; exact dM e
    · exact (((Below.refl _ _).alloc hB _).trans HB.out).setCell (p := ⟨bo, 0, none⟩) hob _
  intro f
  induction f with
  | zero =>
    intro l u d bo bm B A n c xs w h hud hf h16 hl hn
    obtain rfl : d = 0 := by omega
    obtain rfl : u = 0 := by omega
    exact base 0 l bo bm B A n c xs w h (by omega)
  | succ f ih =>
    intro l u d bo bm B A n c xs w h hud hf h16 hl hn
    rw [Nat.pow_succ] at hn
    by_cases hd : d = 0
    · subst hd
      obtain rfl : u = 0 := by omega
      exact base (f + 1) l bo bm B A n c xs w h (by omega)
    have hd0 : 0 < d := by omega
    have e0 : ((d : Int) == 0) = false := by rw [beq_eq_false_iff_ne]; omega
    have HP := Lib.hid (pth_go (f := f) (l := l) (u := u) hd0)
    have p1 : ¬ 9223372036854775807 < l.length + 1 := by omega
    have q1 := pth_len f (l ++ [117]) (u - 1) d
    by_cases hu : 0 < u
    · have e1 : ((u : Int) == 0) = false := by rw [beq_eq_false_iff_ne]; omega
      by_cases hdu : u < d
      · skip
        have HU := Lib.hid (show ∀ A n c xs w, Cl w bo bm B A n c xs → n + 2 ^ f ≤ 1000000 → Calls Try.prog 117 #[.string (bs l ++ { data := #[117] }), .int .i64 ((u : Int) - 1), .int .i64 d, .pointer (some ⟨bo, 0, none⟩), .pointer (some ⟨bm, 0, none⟩)] w (ClPost w bo bm B (xs ++ pth f (l ++ [117]) (u - 1) d)) from fun A n c xs w h hn => by
          rw [show (u : Int) - 1 = ((u - 1 : Nat) : Int) by omega, bs_lit, bs_append]; exact ih _ _ _ bo bm B A n c xs w h (by omega) (by omega) (by omega) (by simp; omega) hn)
        have HD := Lib.hid (show ∀ A n c xs w, Cl w bo bm B A n c xs → n + 2 ^ f ≤ 1000000 → Calls Try.prog 117 #[.string (bs l ++ { data := #[100] }), .int .i64 u, .int .i64 ((d : Int) - 1), .pointer (some ⟨bo, 0, none⟩), .pointer (some ⟨bm, 0, none⟩)] w (ClPost w bo bm B (xs ++ pth f (l ++ [100]) u (d - 1))) from fun A n c xs w h hn => by
          rw [show (d : Int) - 1 = ((d - 1 : Nat) : Int) by omega, bs_lit, bs_append]; exact ih _ _ _ bo bm B A n c xs w h (by omega) (by omega) (by omega) (by simp; omega) hn)
        have HF := Lib.hid (show pth (f + 1) l u d = pth f (l ++ [117]) (u - 1) d ++ pth f (l ++ [100]) u (d - 1) by rw [HP.out, if_pos hu, if_pos hdu])
        have HQ := Lib.hid q1
        have HNN := Lib.hid hn
        clear ih hd base q1 hn
        have hm0 : w.cell? ⟨bm, 0, none⟩ = some (.func (.func 117) #[] #[.pointer (some ⟨bo, 0, none⟩), .pointer (some ⟨bm, 0, none⟩)]) := cell_of_one h.more
        have HC := Lib.hid h
        have hn0 : n = xs.length := h.len
        have HN0 := Lib.hid hn0
        clear h hn0
        go_enter Try.func117, Try.ntmps117
        go_wp2_with fail
        refine (HU.out A n c xs w HC.out (by have := HNN.out; omega)).mono ?_
        rintro e w1 ⟨A1, n1, c1, rfl, hC1, hb1⟩
        have hm1 : w1.cell? ⟨bm, 0, none⟩ = some (.func (.func 117) #[] #[.pointer (some ⟨bo, 0, none⟩), .pointer (some ⟨bm, 0, none⟩)]) := cell_of_one hC1.more
        have HC1 := Lib.hid hC1
        clear hC1
        go_wp2_with fail
        refine (HD.out A1 n1 c1 _ w1 HC1.out (by have h1 := HC1.out.len; have h2 := HNN.out; have h3 := HQ.out; have h4 := HN0.out; rw [List.length_append] at h1; omega)).mono ?_
        rintro e w2 ⟨A2, n2, c2, rfl, hC2, hb2⟩
        have HC2 := Lib.hid hC2
        clear hC2
        go_wp2_with fail
        go_end0
        rw [HF.out]
        exact ⟨A2, n2, c2, rfl, by rw [← List.append_assoc]; exact HC2.out, hb1.trans hb2⟩
      · skip
        have HU := Lib.hid (show ∀ A n c xs w, Cl w bo bm B A n c xs → n + 2 ^ f ≤ 1000000 → Calls Try.prog 117 #[.string (bs l ++ { data := #[117] }), .int .i64 ((u : Int) - 1), .int .i64 d, .pointer (some ⟨bo, 0, none⟩), .pointer (some ⟨bm, 0, none⟩)] w (ClPost w bo bm B (xs ++ pth f (l ++ [117]) (u - 1) d)) from fun A n c xs w h hn => by
          rw [show (u : Int) - 1 = ((u - 1 : Nat) : Int) by omega, bs_lit, bs_append]; exact ih _ _ _ bo bm B A n c xs w h (by omega) (by omega) (by omega) (by simp; omega) hn)
        have HF := Lib.hid (show pth (f + 1) l u d = pth f (l ++ [117]) (u - 1) d by rw [HP.out, if_pos hu, if_neg hdu, List.append_nil])
        have hdu' : ¬ u < d := hdu
        have HNN := Lib.hid hn
        clear ih hd base q1 hn
        have hm0 : w.cell? ⟨bm, 0, none⟩ = some (.func (.func 117) #[] #[.pointer (some ⟨bo, 0, none⟩), .pointer (some ⟨bm, 0, none⟩)]) := cell_of_one h.more
        have HC := Lib.hid h
        have hn0 : n = xs.length := h.len
        have HN0 := Lib.hid hn0
        clear h hn0
        go_enter Try.func117, Try.ntmps117
        go_wp2_with fail
        refine (HU.out A n c xs w HC.out (by have := HNN.out; omega)).mono ?_
        rintro e w1 ⟨A1, n1, c1, rfl, hC1, hb1⟩
        have HC1 := Lib.hid hC1
        clear hC1
        go_wp2_with fail
        go_end0
        rw [HF.out]
        exact ⟨A1, n1, c1, rfl, HC1.out, hb1⟩
    · have hu' : u = 0 := by omega
      subst hu'
      have HD := Lib.hid (show ∀ A n c xs w, Cl w bo bm B A n c xs → n + 2 ^ f ≤ 1000000 → Calls Try.prog 117 #[.string (bs l ++ { data := #[100] }), .int .i64 0, .int .i64 ((d : Int) - 1), .pointer (some ⟨bo, 0, none⟩), .pointer (some ⟨bm, 0, none⟩)] w (ClPost w bo bm B (xs ++ pth f (l ++ [100]) 0 (d - 1))) from fun A n c xs w h hn => by
        rw [show (d : Int) - 1 = ((d - 1 : Nat) : Int) by omega, bs_lit, bs_append]; exact ih _ 0 _ bo bm B A n c xs w h (by omega) (by omega) (by omega) (by simp; omega) hn)
      have HF := Lib.hid (show pth (f + 1) l 0 d = pth f (l ++ [100]) 0 (d - 1) by rw [HP.out, if_neg hu, if_pos hd0, List.nil_append])
      have HNN := Lib.hid hn
      clear ih hd base q1 hn
      have hm0 : w.cell? ⟨bm, 0, none⟩ = some (.func (.func 117) #[] #[.pointer (some ⟨bo, 0, none⟩), .pointer (some ⟨bm, 0, none⟩)]) := cell_of_one h.more
      have HC := Lib.hid h
      have hn0 : n = xs.length := h.len
      have HN0 := Lib.hid hn0
      clear h hn0
      go_enter Try.func117, Try.ntmps117
      go_wp2_with fail
      refine (HD.out A n c xs w HC.out (by have := HNN.out; omega)).mono ?_
      rintro e w1 ⟨A1, n1, c1, rfl, hC1, hb1⟩
      have HC1 := Lib.hid hC1
      clear hC1
      go_wp2_with fail
      go_end0
      rw [HF.out]
      exact ⟨A1, n1, c1, rfl, HC1.out, hb1⟩

set_option maxHeartbeats 1000000 in
theorem allPaths_any (n : Nat) (w : World) (hn : n ≤ 8) : Calls Try.prog 111 #[.int .i64 n] w (RetS w (paths n)) := by
  obtain ⟨w3, hw3⟩ : ∃ W, W = ((w.alloc (.cells #[] 9)).alloc (.cells #[.slice (some ⟨w.heap.size, 0, none⟩) 0 0] 44)).alloc (.cells #[.nilFunc] 85) := ⟨_, rfl⟩
  have k1 : (((w.alloc (.cells #[] 9)).alloc (.cells #[.slice (some ⟨w.heap.size, 0, none⟩) 0 0] 44)).alloc (.cells #[.nilFunc] 85)).cell? ⟨w.heap.size + 1 + 1, 0, none⟩ = some .nilFunc := by
    rw [show w.heap.size + 1 + 1 = ((w.alloc (.cells #[] 9)).alloc (.cells #[.slice (some ⟨w.heap.size, 0, none⟩) 0 0] 44)).heap.size by simp, World.cell?_alloc_new]; rfl
  have k2 : (((w.alloc (.cells #[] 9)).alloc (.cells #[.slice (some ⟨w.heap.size, 0, none⟩) 0 0] 44)).alloc (.cells #[.nilFunc] 85)).frozen? ⟨w.heap.size + 1 + 1, 0, none⟩ = false := by
    rw [show w.heap.size + 1 + 1 = ((w.alloc (.cells #[] 9)).alloc (.cells #[.slice (some ⟨w.heap.size, 0, none⟩) 0 0] 44)).heap.size by simp, World.frozen?_alloc_new]
  clear hw3 w3
  go_enter Try.func111, Try.ntmps111
  go_wp2_with fail
  have HX : Hid (Cl (((w.alloc (.cells #[] 9)).alloc (.cells #[.slice (some ⟨w.heap.size, 0, none⟩) 0 0] 44)).alloc (.cells #[cloV (w.heap.size + 1) (w.heap.size + 1 + 1)] 85)) (w.heap.size + 1) (w.heap.size + 1 + 1) w.heap.size (some ⟨w.heap.size, 0, none⟩) 0 0 []) := Lib.hid {
    out := by
      rw [Below.heap_alloc _ _ _ (by simp)]
      show ((w.alloc (.cells #[] 9)).heap.push _)[w.heap.size + 1]? = _
      rw [show w.heap.size + 1 = (w.alloc (.cells #[] 9)).heap.size by simp, Array.getElem?_push_size]
    more := by
      show (((w.alloc (.cells #[] 9)).alloc (.cells #[.slice (some ⟨w.heap.size, 0, none⟩) 0 0] 44)).heap.push _)[w.heap.size + 1 + 1]? = _
      rw [show w.heap.size + 1 + 1 = ((w.alloc (.cells #[] 9)).alloc (.cells #[.slice (some ⟨w.heap.size, 0, none⟩) 0 0] 44)).heap.size by simp, Array.getElem?_push_size]
    own := ((own_emptyS w).alloc _).alloc _
    len := rfl
    ob := by omega
    om := by omega
    dO := by intro e; injection e with e; simp at e
    dM := by intro e; injection e with e; simp at e; omega }
  have HM := Lib.hid (show Calls Try.prog 117 #[.string { data := #[] }, .int .i64 n, .int .i64 n, .pointer (some ⟨w.heap.size + 1, 0, none⟩), .pointer (some ⟨w.heap.size + 1 + 1, 0, none⟩)] _ (ClPost _ (w.heap.size + 1) (w.heap.size + 1 + 1) w.heap.size ([] ++ pth (2 * n) [] n n)) from
    more_any (2 * n) [] n n _ _ _ _ _ _ _ _ HX.out (Nat.le_refl _) (by omega) (by omega) (by simp; omega) (by have := pow16 (f := 2 * n) (by omega); omega))
  have hbl : Below w.heap.size w (((w.alloc (.cells #[] 9)).alloc (.cells #[.slice (some ⟨w.heap.size, 0, none⟩) 0 0] 44)).alloc (.cells #[cloV (w.heap.size + 1) (w.heap.size + 1 + 1)] 85)) := (((Below.refl _ _).alloc (Nat.le_refl _) _).alloc (by simp) _).alloc (by simp; omega) _
  have HBL := Lib.hid hbl
  clear hbl
  refine HM.out.mono ?_
  rintro e w4 ⟨A, m, c, rfl, hC, hb⟩
  have c4 := cell_of_one hC.out
  have HC := Lib.hid hC
  clear hC
  go_wp2_with fail
  go_ret
  exact RetS.mk HC.out.len rfl (by have := HC.out.own; rwa [List.nil_append] at this) (HBL.out.trans hb)

theorem implPathsOf_any (n : Nat) (w : World) (hn : n ≤ 6) :
    Calls Try.prog 76 #[.int .i64 n] w (RetS w (paths n)) := by
  have HB := Lib.hid (inB_true (x := n) (lo := 0) (hi := 6) (by omega) (by omega))
  go_enter Try.func76, Try.ntmps76
  go_wp2_with fail
  refine (within_any _ _ _ _).mono ?_
  rintro e w' ⟨rfl, rfl⟩
  rw [HB.out]
  go_wp2_with fail
  refine (allPaths_any n _ (by omega)).mono ?_
  rintro e w1 ⟨A, m, c, hm, rfl, ho, hb⟩
  have HO := Lib.hid ho
  have HM := Lib.hid hm
  clear ho hm
  go_wp2_with fail
  go_ret
  exact RetS.mk HM.out rfl HO.out.1 hb

end Go.Proofs.Yteiffomekjadgaa
