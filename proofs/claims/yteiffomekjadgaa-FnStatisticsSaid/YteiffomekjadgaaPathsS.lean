/- The reference's l3All and PathsOf. -/
import Derived.Test.YteiffomekjadgaaPathsL
import Derived.Test.YteiffomekjadgaaNum
import Derived.Test.YteiffomekjadgaaAppS
namespace Go.Proofs.Yteiffomekjadgaa
open Go.RowKit

set_option maxHeartbeats 1000000 in
theorem l3All_any : ∀ (f : Nat) (l : List UInt8) (u d : Nat) (w : World), u ≤ d → u + d ≤ f → f ≤ 16 → l.length + f ≤ 100 →
    Calls Try.prog 112 #[.string (bs l), .int .i64 u, .int .i64 d] w (RetS w (pth f l u d)) := by
  intro f
  induction f with
  | zero =>
    intro l u d w hud hf h16 hl
    obtain rfl : d = 0 := by omega
    have HF := Lib.hid (pth_done (f := 0) (l := l) (u := u))
    go_enter Try.func112, Try.ntmps112
    go_wp2_with fail
    go_ret
    rw [HF.out]
    exact RetS.mk rfl rfl (Own.lit w 9 #[.string (bs l)] 1 rfl (by decide)) ((Below.refl _ _).alloc (Nat.le_refl _) _)
  | succ f ih =>
    intro l u d w hud hf h16 hl
    by_cases hd : d = 0
    · subst hd
      have HF := Lib.hid (pth_done (f := f + 1) (l := l) (u := u))
      clear ih
      go_enter Try.func112, Try.ntmps112
      go_wp2_with fail
      go_ret
      rw [HF.out]
      exact RetS.mk rfl rfl (Own.lit w 9 #[.string (bs l)] 1 rfl (by decide)) ((Below.refl _ _).alloc (Nat.le_refl _) _)
    have hd0 : 0 < d := by omega
    have e0 : ((d : Int) == 0) = false := by rw [beq_eq_false_iff_ne]; omega
    have HP := Lib.hid (pth_go (f := f) (l := l) (u := u) hd0)
    have p1 : ¬ 9223372036854775807 < l.length + 1 := by omega
    have q1 := pth_len f (l ++ [117]) (u - 1) d
    have q2 := pth_len f (l ++ [100]) u (d - 1)
    have q3 := pow16 (f := f) (by omega)
    by_cases hu : 0 < u
    · by_cases hdu : u < d
      · skip
        obtain ⟨U, hU⟩ : ∃ U, U = pth f (l ++ [117]) (u - 1) d := ⟨_, rfl⟩
        have HU := Lib.hid (show ∀ w, Calls Try.prog 112 #[.string (bs l ++ { data := #[117] }), .int .i64 ((u : Int) - 1), .int .i64 d] w (RetS w U) from fun w => by
          rw [hU, show (u : Int) - 1 = ((u - 1 : Nat) : Int) by omega, bs_lit, bs_append]; exact ih _ _ _ w (by omega) (by omega) (by omega) (by simp; omega))
        rw [← hU] at q1
        have hU5 : U.length ≤ 65536 := Nat.le_trans q1 q3
        obtain ⟨D, hD⟩ : ∃ D, D = pth f (l ++ [100]) u (d - 1) := ⟨_, rfl⟩
        have HD := Lib.hid (show ∀ w, Calls Try.prog 112 #[.string (bs l ++ { data := #[100] }), .int .i64 u, .int .i64 ((d : Int) - 1)] w (RetS w D) from fun w => by
          rw [hD, show (d : Int) - 1 = ((d - 1 : Nat) : Int) by omega, bs_lit, bs_append]; exact ih _ _ _ w (by omega) (by omega) (by omega) (by simp; omega))
        rw [← hD] at q2
        have hD5 : D.length ≤ 65536 := Nat.le_trans q2 q3
        have HF := Lib.hid (show pth (f + 1) l u d = U ++ D by rw [HP.out, if_pos hu, if_pos hdu, hU, hD])
        clear hU hD q1 q2 q3 ih hd
        go_enter Try.func112, Try.ntmps112
        go_wp2_with fail
        refine (HU.out _).mono ?_
        rintro e w1 ⟨A1, n1, c1, hn1, rfl, ho1, hb1⟩
        have HO1 := Lib.hid ho1
        have hn15 : n1 ≤ 65536 := by rw [hn1]; exact hU5
        have HN1 := Lib.hid hn1
        have HC1 := Lib.hid ((own_emptyS w).below hb1)
        have hbb1 := ((Below.refl w.heap.size w).alloc (Nat.le_refl _) (.cells #[] 9)).trans (hb1.mono (by simp))
        have hsz1 := hbb1.size
        clear ho1 hn1 hb1
        go_wp2_with (at_builtin; refine appAllS _ rfl _ _ rfl w.heap.size (some ⟨w.heap.size, 0, none⟩) (0) 0 (sv []) rfl HC1.out A1 n1 c1 U rfl HO1.out.1.nocap HO1.out.rd (by omega) hsz1 ?_; intro B1 d1 v1 hown1 hg1 hbv1)
        have HW1 := Lib.hid (show Own v1 9 w.heap.size B1 n1 d1 (sv U) by simpa [sv] using hown1)
        have hbw1 := hbb1.trans hbv1
        have hsv1 := hbw1.size
        clear hown1 hg1 hbv1 hbb1
        go_wp2_with fail
        refine (HD.out _).mono ?_
        rintro e w2 ⟨A2, n2, c2, hn2, rfl, ho2, hb2⟩
        have HO2 := Lib.hid ho2
        have hn25 : n2 ≤ 65536 := by rw [hn2]; exact hD5
        have HN2 := Lib.hid hn2
        have HC2 := Lib.hid (HW1.out.below hb2)
        have hbb2 := hbw1.trans (hb2.mono hsv1)
        have hsz2 := hbb2.size
        clear ho2 hn2 hb2
        go_wp2_with (at_builtin; refine appAllS _ rfl _ _ rfl w.heap.size B1 n1 d1 (sv U) rfl HC2.out A2 n2 c2 D rfl HO2.out.1.nocap HO2.out.rd (by omega) hsz2 ?_; intro B2 d2 v2 hown2 hg2 hbv2)
        have HW2 := Lib.hid hown2
        have hbw2 := hbb2.trans hbv2
        have hsv2 := hbw2.size
        clear hown2 hg2 hbv2 hbb2
        go_wp2_with fail
        go_ret
        rw [HF.out]
        refine RetS.mk (by rw [List.length_append, ← HN1.out, ← HN2.out]) rfl ?_ hbw2
        have := HW2.out
        unfold sv at this ⊢
        simpa using this
      · skip
        obtain ⟨U, hU⟩ : ∃ U, U = pth f (l ++ [117]) (u - 1) d := ⟨_, rfl⟩
        have HU := Lib.hid (show ∀ w, Calls Try.prog 112 #[.string (bs l ++ { data := #[117] }), .int .i64 ((u : Int) - 1), .int .i64 d] w (RetS w U) from fun w => by
          rw [hU, show (u : Int) - 1 = ((u - 1 : Nat) : Int) by omega, bs_lit, bs_append]; exact ih _ _ _ w (by omega) (by omega) (by omega) (by simp; omega))
        rw [← hU] at q1
        have hU5 : U.length ≤ 65536 := Nat.le_trans q1 q3
        have HF := Lib.hid (show pth (f + 1) l u d = U by rw [HP.out, if_pos hu, if_neg hdu, hU, List.append_nil])
        have hdu' : ¬ u < d := hdu
        clear hU q1 q2 q3 ih hd
        go_enter Try.func112, Try.ntmps112
        go_wp2_with fail
        refine (HU.out _).mono ?_
        rintro e w1 ⟨A1, n1, c1, hn1, rfl, ho1, hb1⟩
        have HO1 := Lib.hid ho1
        have hn15 : n1 ≤ 65536 := by rw [hn1]; exact hU5
        have HN1 := Lib.hid hn1
        have HC1 := Lib.hid ((own_emptyS w).below hb1)
        have hbb1 := ((Below.refl w.heap.size w).alloc (Nat.le_refl _) (.cells #[] 9)).trans (hb1.mono (by simp))
        have hsz1 := hbb1.size
        clear ho1 hn1 hb1
        go_wp2_with (at_builtin; refine appAllS _ rfl _ _ rfl w.heap.size (some ⟨w.heap.size, 0, none⟩) (0) 0 (sv []) rfl HC1.out A1 n1 c1 U rfl HO1.out.1.nocap HO1.out.rd (by omega) hsz1 ?_; intro B1 d1 v1 hown1 hg1 hbv1)
        have HW1 := Lib.hid hown1
        have hbw1 := hbb1.trans hbv1
        have hsv1 := hbw1.size
        clear hown1 hg1 hbv1 hbb1
        go_wp2_with fail
        go_ret
        rw [HF.out]
        refine RetS.mk (by rw [← HN1.out]) rfl ?_ hbw1
        have := HW1.out
        unfold sv at this ⊢
        simpa using this
    · skip
      obtain ⟨D, hD⟩ : ∃ D, D = pth f (l ++ [100]) u (d - 1) := ⟨_, rfl⟩
      have HD := Lib.hid (show ∀ w, Calls Try.prog 112 #[.string (bs l ++ { data := #[100] }), .int .i64 u, .int .i64 ((d : Int) - 1)] w (RetS w D) from fun w => by
        rw [hD, show (d : Int) - 1 = ((d - 1 : Nat) : Int) by omega, bs_lit, bs_append]; exact ih _ _ _ w (by omega) (by omega) (by omega) (by simp; omega))
      rw [← hD] at q2
      have hD5 : D.length ≤ 65536 := Nat.le_trans q2 q3
      have HF := Lib.hid (show pth (f + 1) l u d = D by rw [HP.out, if_neg hu, if_pos (by omega), hD, List.nil_append])
      have hdu : u < d := by omega
      have hu' : u = 0 := by omega
      subst hu'
      clear hD q1 q2 q3 ih hd
      go_enter Try.func112, Try.ntmps112
      go_wp2_with fail
      refine (HD.out _).mono ?_
      rintro e w1 ⟨A1, n1, c1, hn1, rfl, ho1, hb1⟩
      have HO1 := Lib.hid ho1
      have hn15 : n1 ≤ 65536 := by rw [hn1]; exact hD5
      have HN1 := Lib.hid hn1
      have HC1 := Lib.hid ((own_emptyS w).below hb1)
      have hbb1 := ((Below.refl w.heap.size w).alloc (Nat.le_refl _) (.cells #[] 9)).trans (hb1.mono (by simp))
      have hsz1 := hbb1.size
      clear ho1 hn1 hb1
      go_wp2_with (at_builtin; refine appAllS _ rfl _ _ rfl w.heap.size (some ⟨w.heap.size, 0, none⟩) (0) 0 (sv []) rfl HC1.out A1 n1 c1 D rfl HO1.out.1.nocap HO1.out.rd (by omega) hsz1 ?_; intro B1 d1 v1 hown1 hg1 hbv1)
      have HW1 := Lib.hid hown1
      have hbw1 := hbb1.trans hbv1
      have hsv1 := hbw1.size
      clear hown1 hg1 hbv1 hbb1
      go_wp2_with fail
      go_ret
      rw [HF.out]
      refine RetS.mk (by rw [← HN1.out]) rfl ?_ hbw1
      have := HW1.out
      unfold sv at this ⊢
      simpa using this

theorem specPathsOf_any (n : Nat) (w : World) (hn : n ≤ 6) :
    Calls Try.prog 77 #[.int .i64 n] w (RetS w (paths n)) := by
  have HB := Lib.hid (inB_true (x := n) (lo := 0) (hi := 6) (by omega) (by omega))
  have HC := Lib.hid (show ∀ w, Calls Try.prog 112 #[.string { data := #[] }, .int .i64 n, .int .i64 n] w (RetS w (paths n)) from fun w => l3All_any (2 * n) [] n n w (Nat.le_refl _) (by omega) (by omega) (by simp; omega))
  go_enter Try.func77, Try.ntmps77
  go_wp2_with fail
  refine (l1In_any _ _ _ _).mono ?_
  rintro e w' ⟨rfl, rfl⟩
  rw [HB.out]
  go_wp2_with fail
  refine (HC.out _).mono ?_
  rintro e w1 ⟨A, m, c, hm, rfl, ho, hb⟩
  have HO := Lib.hid ho
  have HM := Lib.hid hm
  clear ho hm
  go_wp2_with fail
  go_ret
  exact RetS.mk HM.out rfl HO.out.1 hb

end Go.Proofs.Yteiffomekjadgaa
