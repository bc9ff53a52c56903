/- LowerPath and UpperPath of both sides. -/
import Derived.Test.YteiffomekjadgaaPoH
import Derived.Test.YteiffomekjadgaaPut
import Derived.StillTailTactics
namespace Go.Proofs.Yteiffomekjadgaa
open Go.RowKit Go.Deep

theorem mn_min (x y : Int) : mn x y = min x y := by unfold mn; split <;> omega
theorem mx_max (x y : Int) : mx x y = max x y := by unfold mx; split <;> omega
theorem stepI3 (w : World) {ops : Array Oper} {o : Oper} {a : Act} {K : Act → World → Prop} {Q : Exit → Act → World → Prop} {E : Prop} (hgd : o.guard = none) (s x : Operand)
    (ho : o.op = .call { callee := .builtin .append, args := #[s, x], argTypes := #[29, 29] })
    (B : Nat) (A : Option Addr) (n c : Nat) (vs : List Value) (hs : a.eval s = .slice A n c) (hown : Own w 3 B A n c vs)
    (g : Nat) (y : Int) (hx : a.eval x = .slice (some ⟨g, 0, none⟩) 1 1) (hy : w.cell? ⟨g, 0, none⟩ = some (.int .i64 y)) (hn : n ≤ 1000000000) (hbase' : B ≤ g)
    (h : ∀ A' c' w', Own w' 3 B A' (n + 1) c' (vs ++ [.int .i64 y]) → w.grownBy w' (Value.ownBlock (.slice A n c)) → Below B w w' → K (a.put o.dst (.slice A' (n + 1) c')) w') :
    if Region.wanted o (yielded ops a.tmps) = true then Oper.wp Try.prog o a w K Q else E :=
  step_app1 w hgd s x 29 ho 3 (.int .i64 0) 8 Try.underlying29 info_int rfl (by decide) B A n c vs hs hown g _ hx hy rfl hn hbase' h
theorem min_if (p q : Int) : min p q = if q < p then q else p := by split <;> omega
theorem betw_len {m : Int → Int → Int} {a b : List UInt8} : (betwB m a b).1.length ≤ a.length := by
  unfold betwB; split
  · show (selW m a b a.length).length ≤ _; rw [selW_len]; exact Nat.le_refl _
  · exact Nat.zero_le _

set_option maxHeartbeats 2000000 in
theorem l18Heights_mn (a b : List UInt8) (w : World) (ha : a.length ≤ 1000000000) (hb : b.length ≤ 1000000000) :
    Calls Try.prog 85 #[.string (bs a), .string (bs b), .bool true] w fun e w' => e = .returned (.tuple #[.string (bs (betwB mn a b).1), .bool (betwB mn a b).2]) ∧ Below w.heap.size w w' := by
  rcases hf : fitB a b with _ | _
  · have HF := Lib.hid (show betwB mn a b = ([], false) by simp [betwB, hf])
    have H1 := Lib.hid hf
    clear hf
    go_enter Try.func85, Try.ntmps85
    go_wp2_with fail
    refine (l18Fit_w _ _ _ ha hb).mono ?_
    rintro e w0 ⟨rfl, hb0⟩
    rw [H1.out]
    go_wp2_with fail
    go_ret2
    exact ⟨by rw [HF.out]; rfl, hb0⟩
  · obtain ⟨da, db, hab⟩ := fitB_true hf
    have h16 := (dyck_pathB da).1
    have HF := Lib.hid (show betwB mn a b = (selW mn a b a.length, true) by simp [betwB, hf])
    have H1 := Lib.hid hf
    have LA := Lib.hid (htsD_len da)
    have LB := Lib.hid (htsD_len db)
    have EA := Lib.hid (htsD_of da)
    have EB := Lib.hid (htsD_of db)
    have HAB := Lib.hid hab
    have HS := Lib.hid (pick_hts even_mn (a := a) (b := b) rfl hab.symm)
    have HD := Lib.hid (sel_dyck even_mn da db rfl hab.symm)
    clear hf da db hab
    go_enter Try.func85, Try.ntmps85
    go_wp2_with fail
    refine (l18Fit_w _ _ _ ha hb).mono ?_
    rintro e w0 ⟨rfl, hb0⟩
    rw [H1.out]
    go_wp2_with fail
    refine (specHeightsOf_any _ _ ha).mono ?_
    rintro e w1 ⟨A1, n1, c1, hn1, rfl, ho1, hb1⟩
    rw [EA.out] at ho1
    have R1 := Lib.hid ho1.rd
    have N1 := Lib.hid (show n1 = a.length + 1 from hn1.trans (LA.out))
    clear hn1 ho1
    have HB1 := Lib.hid (hb0.trans (hb1.mono hb0.size))
    clear hb0 hb1
    go_wp2_with fail
    refine (specHeightsOf_any _ _ hb).mono ?_
    rintro e w2 ⟨A2, n2, c2, hn2, rfl, ho2, hb2⟩
    rw [EB.out] at ho2
    have R2 := Lib.hid ho2.rd
    have hn2' : n1 = n2 := N1.out.trans (Eq.symm (hn2.trans (LB.out.trans (by rw [HAB.out]))))
    have R1 := Lib.hid (R1.out.below hb2)
    have HB2 := Lib.hid (HB1.out.trans (hb2.mono HB1.out.size))
    have hs2 : w.heap.size ≤ w2.heap.size := HB2.out.size
    clear hn2 ho2 hb2 HB1
    subst hn2'
    have hn17 : n1 ≤ 17 := by have := N1.out; omega
    go_wp2_with fail
    go_loopw [10, 11] (fun s' i wr => ∃ (k : Nat) (A : Option Addr) (c : Nat), k ≤ n1 ∧ i = .int .i64 k ∧ s' = .slice A k c ∧ Own wr 3 w2.heap.size A k c (iv (pickTo mn (hts a) (hts b) k)) ∧ Below w2.heap.size w2 wr) (fun _ i _ => n1 - (intOf i).toNat)
    case atStart => exact ⟨0, _, _, Nat.zero_le _, rfl, rfl, own_empty w2, (Below.refl _ _).alloc (Nat.le_refl _) _⟩
    case round =>
      obtain ⟨k, A, c, hk, rfl, rfl, ho, hbl⟩ := hrel
      obtain ⟨w3, rfl⟩ : ∃ W, W = wr := ⟨wr, rfl⟩
      have HO := Lib.hid ho
      have hbs := hbl.size
      clear ho
      by_cases hlt : k < n1
      · obtain ⟨b1, o1, x, hA1, hx, hc1⟩ := (R1.out.below hbl).ati hlt
        obtain ⟨b2, o2, y, hA2, hy, hc2⟩ := (R2.out.below hbl).ati hlt
        cases hA1
        cases hA2
        have HS2 := Lib.hid (show pickTo mn (hts a) (hts b) (k + 1) = pickTo mn (hts a) (hts b) k ++ [min x y] by rw [pickTo_succ, getD1 hx, getD1 hy, mn_min])
        have k0 : (0 : Int) ≤ (k : Int) := by omega
        have k1 : (k : Int) < (n1 : Int) := by omega
        clear hx hy
        go_wp2_with fail
        go_region_law (refine stepI3 _ (by rfl) _ _ (by rfl) w2.heap.size A k c (iv (pickTo mn (hts a) (hts b) k)) (by simp [Act.eval]) ((HO.out.alloc _).drew) w3.heap.size (min x y) (by simp [Act.eval]) (by simp [min_if]) (by omega) hbs ?_; intro A' c' w' hown' hg' hb')
        all_goals
          have HO' := Lib.hid (show Own w' 3 w2.heap.size A' (k + 1) c' (iv (pickTo mn (hts a) (hts b) (k + 1))) by rw [HS2.out, iv_snoc]; exact hown')
          have hb3 := ((hbl.alloc hbs _).drew).trans hb'
          clear hown' hg' hb'
          go_wp2_with fail
          go_roundw
          case rel => exact ⟨k + 1, _, c', by omega, by go_num, rfl, HO'.out, hb3⟩
          case measure => simp [intOf] <;> omega
      · obtain rfl : k = n1 := by omega
        clear hlt
        have HR := Lib.hid (show Rd w3 A k (iv (hts (selW mn a b a.length))) by rw [← HS.out, ← N1.out]; exact HO.out.rd)
        go_wp2_with fail
        refine (specPathOfHeights_good _ _ _ _ _ HR.out HD.out).mono ?_
        rintro e w4 ⟨rfl, m4, rfl⟩
        go_wp2_with fail
        go_ret2
        exact ⟨by rw [HF.out]; rfl, below_drewN' (HB2.out.trans (hbl.mono hs2)) m4⟩

set_option maxHeartbeats 1000000 in
theorem specLowerPath_any (a b : List UInt8) (w : World) (ha : a.length ≤ 1000000000) (hb : b.length ≤ 1000000000) :
    Calls Try.prog 31 #[.string (bs a), .string (bs b)] w fun e w' => e = .returned (.tuple #[.string (bs (betwB mn a b).1), .bool (betwB mn a b).2]) ∧ Below w.heap.size w w' := by
  go_enter Try.func31, Try.ntmps31
  go_wp2_with fail
  refine (l18Heights_mn _ _ _ ha hb).mono ?_
  rintro e w1 ⟨rfl, hb1⟩
  go_wp2_with fail
  go_ret2
  exact ⟨rfl, hb1⟩

theorem pick_mn (x y : Int) (w : World) : Calls Try.prog 84 #[.int .i64 x, .int .i64 y] w fun e w' => e = .returned (.int .i64 (mn x y)) ∧ w' = w := by
  go_enter Try.func84, Try.ntmps84
  go_wp2_with fail
  all_goals
    go_ret
    exact ⟨ret_int (by rw [mn_min]; omega), rfl⟩

set_option maxHeartbeats 2000000 in
theorem between_mn (a b : List UInt8) (w : World) (ha : a.length ≤ 1000000000) (hb : b.length ≤ 1000000000) :
    Calls Try.prog 83 #[.string (bs a), .string (bs b), .func (.func 84) #[] #[]] w fun e w' => e = .returned (.tuple #[.string (bs (betwB mn a b).1), .bool (betwB mn a b).2]) ∧ Below w.heap.size w w' := by
  rcases hf : fitB a b with _ | _
  · have HF := Lib.hid (show betwB mn a b = ([], false) by simp [betwB, hf])
    have H1 := Lib.hid hf
    clear hf
    go_enter Try.func83, Try.ntmps83
    go_wp2_with fail
    refine (samePaths_any _ _ _ ha hb).mono ?_
    rintro e w0 ⟨rfl, hb0⟩
    rw [H1.out]
    go_wp2_with fail
    go_ret2
    exact ⟨by rw [HF.out]; rfl, hb0⟩
  · obtain ⟨da, db, hab⟩ := fitB_true hf
    have h16 := (dyck_pathB da).1
    have HF := Lib.hid (show betwB mn a b = (selW mn a b a.length, true) by simp [betwB, hf])
    have H1 := Lib.hid hf
    have LA := Lib.hid (htsD_len da)
    have LB := Lib.hid (htsD_len db)
    have EA := Lib.hid (htsD_of da)
    have EB := Lib.hid (htsD_of db)
    have HAB := Lib.hid hab
    have HS := Lib.hid (pick_hts even_mn (a := a) (b := b) rfl hab.symm)
    have HD := Lib.hid (sel_dyck even_mn da db rfl hab.symm)
    have XL := Lib.hid (hts_len a)
    clear hf da db hab
    go_enter Try.func83, Try.ntmps83
    go_wp2_with fail
    refine (samePaths_any _ _ _ ha hb).mono ?_
    rintro e w0 ⟨rfl, hb0⟩
    rw [H1.out]
    go_wp2_with fail
    refine (implHeightsOf_any _ _ ha).mono ?_
    rintro e w1 ⟨A1, n1, c1, hn1, rfl, ho1, hb1⟩
    rw [EA.out] at ho1
    have O1 := Lib.hid ho1.1
    have hlt1 : ∀ g, A1 = some ⟨g, 0, none⟩ → g < w1.heap.size := fun g h => (ho1.1.blk g (by rw [h]; rfl)).2
    have HLT := Lib.hid hlt1
    have N1 := Lib.hid (show n1 = a.length + 1 from hn1.trans (LA.out))
    have hs01 := hb0.size
    have hs12 := hb1.size
    have HB1 := Lib.hid (hb0.trans (hb1.mono hb0.size))
    clear hn1 ho1 hb0 hb1 hlt1
    go_wp2_with fail
    refine (implHeightsOf_any _ _ hb).mono ?_
    rintro e w2 ⟨A2, n2, c2, hn2, rfl, ho2, hb2⟩
    rw [EB.out] at ho2
    have O2 := Lib.hid ho2.1
    have hge : ∀ g, A2 = some ⟨g, 0, none⟩ → w1.heap.size ≤ g := fun g h => (ho2.1.blk g (by rw [h]; rfl)).1
    have HGE := Lib.hid hge
    have hn2' : n1 = n2 := N1.out.trans (Eq.symm (hn2.trans (LB.out.trans (by rw [HAB.out]))))
    have O1 := Lib.hid (O1.out.below hb2)
    have HB2 := Lib.hid (HB1.out.trans (hb2.mono HB1.out.size))
    have hs2 : w.heap.size ≤ w2.heap.size := HB2.out.size
    clear hn2 ho2 hb2 HB1 hge
    subst hn2'
    have hn17 : n1 ≤ 17 := by have := N1.out; omega
    go_wp2_with fail
    go_loopw [10, 21] (fun _ i wr => ∃ k : Nat, k ≤ n1 ∧ i = .int .i64 k ∧ Own wr 3 w0.heap.size A1 n1 c1 (iv (pickTo mn (hts a) (hts b) k ++ (hts a).drop k)) ∧ Own wr 3 w1.heap.size A2 n1 c2 (iv (hts b)) ∧ Below w.heap.size w wr) (fun _ i _ => n1 - (intOf i).toNat)
    case atStart => exact ⟨0, Nat.zero_le _, rfl, O1.out, O2.out, HB2.out⟩
    case round =>
      obtain ⟨k, hk, rfl, ho1, ho2, hbl⟩ := hrel
      obtain ⟨w3, rfl⟩ : ∃ W, W = wr := ⟨wr, rfl⟩
      by_cases hlt : k < n1
      · obtain ⟨g1, x, hA1, hg1, hgs1, hx, hc1, hf1⟩ := ho1.ati hlt
        obtain ⟨g2, y, hA2, hg2, hgs2, hy, hc2, hf2⟩ := ho2.ati hlt
        rw [pick_at] at hx
        have HS2 := Lib.hid (pick_set (m := mn) hx hy)
        cases hA1
        cases hA2
        have hg12 : g1 < w1.heap.size := HLT.out g1 rfl
        have hne : ∀ g, (some (⟨g2, 0, none⟩ : Addr)) = some ⟨g, 0, none⟩ → g ≠ g1 := fun g h => by cases h; omega
        have P1 := Lib.hid ho1
        have P2 := Lib.hid ho2
        have k0 : (0 : Int) ≤ (k : Int) := by omega
        have k1 : (k : Int) < (n1 : Int) := by omega
        have hlo : w.heap.size ≤ g1 := by omega
        have HNE := Lib.hid hne
        clear hx hy ho1 ho2 hne
        go_wp2_with fail
        go_region_with (go_at_call 84; refine (pick_mn _ _ _).mono ?_; rintro e w4 ⟨rfl, rfl⟩)
        all_goals
          go_wp2_with fail
          go_roundw
          case rel => exact ⟨k + 1, by omega, by go_num, by rw [← HS2.out]; exact P1.out.puti k _, P2.out.set_far (p := ⟨g1, k, none⟩) HNE.out _, (hbl.setCell (p := ⟨g1, k, none⟩) hlo _).drew⟩
          case measure => simp [intOf]; omega
      · have hkn : k = n1 := by omega
        have HR := Lib.hid (show Rd w3 A1 n1 (iv (hts (selW mn a b a.length))) by
          have := ho1.rd
          rw [hkn, pick_all (by rw [XL.out, N1.out]), N1.out, HS.out] at this
          rw [N1.out]; exact this)
        have hbs := hbl.size
        clear ho1 ho2 hkn
        go_wp2_with fail
        refine (implPathOfHeights_good _ _ _ _ _ HR.out HD.out).mono ?_
        rintro e w4 ⟨rfl, hb4⟩
        go_wp2_with fail
        go_ret2
        exact ⟨by rw [HF.out]; rfl, hbl.trans (hb4.mono hbs)⟩

set_option maxHeartbeats 1000000 in
theorem implLowerPath_any (a b : List UInt8) (w : World) (ha : a.length ≤ 1000000000) (hb : b.length ≤ 1000000000) :
    Calls Try.prog 30 #[.string (bs a), .string (bs b)] w fun e w' => e = .returned (.tuple #[.string (bs (betwB mn a b).1), .bool (betwB mn a b).2]) ∧ Below w.heap.size w w' := by
  go_enter Try.func30, Try.ntmps30
  go_wp2_with fail
  refine (between_mn _ _ _ ha hb).mono ?_
  rintro e w1 ⟨rfl, hb1⟩
  go_wp2_with fail
  go_ret2
  exact ⟨rfl, hb1⟩

set_option maxHeartbeats 2000000 in
theorem l18Heights_mx (a b : List UInt8) (w : World) (ha : a.length ≤ 1000000000) (hb : b.length ≤ 1000000000) :
    Calls Try.prog 85 #[.string (bs a), .string (bs b), .bool false] w fun e w' => e = .returned (.tuple #[.string (bs (betwB mx a b).1), .bool (betwB mx a b).2]) ∧ Below w.heap.size w w' := by
  rcases hf : fitB a b with _ | _
  · have HF := Lib.hid (show betwB mx a b = ([], false) by simp [betwB, hf])
    have H1 := Lib.hid hf
    clear hf
    go_enter Try.func85, Try.ntmps85
    go_wp2_with fail
    refine (l18Fit_w _ _ _ ha hb).mono ?_
    rintro e w0 ⟨rfl, hb0⟩
    rw [H1.out]
    go_wp2_with fail
    go_ret2
    exact ⟨by rw [HF.out]; rfl, hb0⟩
  · obtain ⟨da, db, hab⟩ := fitB_true hf
    have h16 := (dyck_pathB da).1
    have HF := Lib.hid (show betwB mx a b = (selW mx a b a.length, true) by simp [betwB, hf])
    have H1 := Lib.hid hf
    have LA := Lib.hid (htsD_len da)
    have LB := Lib.hid (htsD_len db)
    have EA := Lib.hid (htsD_of da)
    have EB := Lib.hid (htsD_of db)
    have HAB := Lib.hid hab
    have HS := Lib.hid (pick_hts even_mx (a := a) (b := b) rfl hab.symm)
    have HD := Lib.hid (sel_dyck even_mx da db rfl hab.symm)
    clear hf da db hab
    go_enter Try.func85, Try.ntmps85
    go_wp2_with fail
    refine (l18Fit_w _ _ _ ha hb).mono ?_
    rintro e w0 ⟨rfl, hb0⟩
    rw [H1.out]
    go_wp2_with fail
    refine (specHeightsOf_any _ _ ha).mono ?_
    rintro e w1 ⟨A1, n1, c1, hn1, rfl, ho1, hb1⟩
    rw [EA.out] at ho1
    have R1 := Lib.hid ho1.rd
    have N1 := Lib.hid (show n1 = a.length + 1 from hn1.trans (LA.out))
    clear hn1 ho1
    have HB1 := Lib.hid (hb0.trans (hb1.mono hb0.size))
    clear hb0 hb1
    go_wp2_with fail
    refine (specHeightsOf_any _ _ hb).mono ?_
    rintro e w2 ⟨A2, n2, c2, hn2, rfl, ho2, hb2⟩
    rw [EB.out] at ho2
    have R2 := Lib.hid ho2.rd
    have hn2' : n1 = n2 := N1.out.trans (Eq.symm (hn2.trans (LB.out.trans (by rw [HAB.out]))))
    have R1 := Lib.hid (R1.out.below hb2)
    have HB2 := Lib.hid (HB1.out.trans (hb2.mono HB1.out.size))
    have hs2 : w.heap.size ≤ w2.heap.size := HB2.out.size
    clear hn2 ho2 hb2 HB1
    subst hn2'
    have hn17 : n1 ≤ 17 := by have := N1.out; omega
    go_wp2_with fail
    go_loopw [10, 11] (fun s' i wr => ∃ (k : Nat) (A : Option Addr) (c : Nat), k ≤ n1 ∧ i = .int .i64 k ∧ s' = .slice A k c ∧ Own wr 3 w2.heap.size A k c (iv (pickTo mx (hts a) (hts b) k)) ∧ Below w2.heap.size w2 wr) (fun _ i _ => n1 - (intOf i).toNat)
    case atStart => exact ⟨0, _, _, Nat.zero_le _, rfl, rfl, own_empty w2, (Below.refl _ _).alloc (Nat.le_refl _) _⟩
    case round =>
      obtain ⟨k, A, c, hk, rfl, rfl, ho, hbl⟩ := hrel
      obtain ⟨w3, rfl⟩ : ∃ W, W = wr := ⟨wr, rfl⟩
      have HO := Lib.hid ho
      have hbs := hbl.size
      clear ho
      by_cases hlt : k < n1
      · obtain ⟨b1, o1, x, hA1, hx, hc1⟩ := (R1.out.below hbl).ati hlt
        obtain ⟨b2, o2, y, hA2, hy, hc2⟩ := (R2.out.below hbl).ati hlt
        cases hA1
        cases hA2
        have HS2 := Lib.hid (show pickTo mx (hts a) (hts b) (k + 1) = pickTo mx (hts a) (hts b) k ++ [max x y] by rw [pickTo_succ, getD1 hx, getD1 hy, mx_max])
        have k0 : (0 : Int) ≤ (k : Int) := by omega
        have k1 : (k : Int) < (n1 : Int) := by omega
        clear hx hy
        go_wp2_with fail
        go_region_law (refine stepI3 _ (by rfl) _ _ (by rfl) w2.heap.size A k c (iv (pickTo mx (hts a) (hts b) k)) (by simp [Act.eval]) ((HO.out.alloc _).drew) w3.heap.size (max x y) (by simp [Act.eval]) (by simp [max_if]) (by omega) hbs ?_; intro A' c' w' hown' hg' hb')
        all_goals
          have HO' := Lib.hid (show Own w' 3 w2.heap.size A' (k + 1) c' (iv (pickTo mx (hts a) (hts b) (k + 1))) by rw [HS2.out, iv_snoc]; exact hown')
          have hb3 := ((hbl.alloc hbs _).drew).trans hb'
          clear hown' hg' hb'
          go_wp2_with fail
          go_roundw
          case rel => exact ⟨k + 1, _, c', by omega, by go_num, rfl, HO'.out, hb3⟩
          case measure => simp [intOf] <;> omega
      · obtain rfl : k = n1 := by omega
        clear hlt
        have HR := Lib.hid (show Rd w3 A k (iv (hts (selW mx a b a.length))) by rw [← HS.out, ← N1.out]; exact HO.out.rd)
        go_wp2_with fail
        refine (specPathOfHeights_good _ _ _ _ _ HR.out HD.out).mono ?_
        rintro e w4 ⟨rfl, m4, rfl⟩
        go_wp2_with fail
        go_ret2
        exact ⟨by rw [HF.out]; rfl, below_drewN' (HB2.out.trans (hbl.mono hs2)) m4⟩

set_option maxHeartbeats 1000000 in
theorem specUpperPath_any (a b : List UInt8) (w : World) (ha : a.length ≤ 1000000000) (hb : b.length ≤ 1000000000) :
    Calls Try.prog 33 #[.string (bs a), .string (bs b)] w fun e w' => e = .returned (.tuple #[.string (bs (betwB mx a b).1), .bool (betwB mx a b).2]) ∧ Below w.heap.size w w' := by
  go_enter Try.func33, Try.ntmps33
  go_wp2_with fail
  refine (l18Heights_mx _ _ _ ha hb).mono ?_
  rintro e w1 ⟨rfl, hb1⟩
  go_wp2_with fail
  go_ret2
  exact ⟨rfl, hb1⟩

theorem pick_mx (x y : Int) (w : World) : Calls Try.prog 86 #[.int .i64 x, .int .i64 y] w fun e w' => e = .returned (.int .i64 (mx x y)) ∧ w' = w := by
  go_enter Try.func86, Try.ntmps86
  go_wp2_with fail
  all_goals
    go_ret
    exact ⟨ret_int (by rw [mx_max]; omega), rfl⟩

set_option maxHeartbeats 2000000 in
theorem between_mx (a b : List UInt8) (w : World) (ha : a.length ≤ 1000000000) (hb : b.length ≤ 1000000000) :
    Calls Try.prog 83 #[.string (bs a), .string (bs b), .func (.func 86) #[] #[]] w fun e w' => e = .returned (.tuple #[.string (bs (betwB mx a b).1), .bool (betwB mx a b).2]) ∧ Below w.heap.size w w' := by
  rcases hf : fitB a b with _ | _
  · have HF := Lib.hid (show betwB mx a b = ([], false) by simp [betwB, hf])
    have H1 := Lib.hid hf
    clear hf
    go_enter Try.func83, Try.ntmps83
    go_wp2_with fail
    refine (samePaths_any _ _ _ ha hb).mono ?_
    rintro e w0 ⟨rfl, hb0⟩
    rw [H1.out]
    go_wp2_with fail
    go_ret2
    exact ⟨by rw [HF.out]; rfl, hb0⟩
  · obtain ⟨da, db, hab⟩ := fitB_true hf
    have h16 := (dyck_pathB da).1
    have HF := Lib.hid (show betwB mx a b = (selW mx a b a.length, true) by simp [betwB, hf])
    have H1 := Lib.hid hf
    have LA := Lib.hid (htsD_len da)
    have LB := Lib.hid (htsD_len db)
    have EA := Lib.hid (htsD_of da)
    have EB := Lib.hid (htsD_of db)
    have HAB := Lib.hid hab
    have HS := Lib.hid (pick_hts even_mx (a := a) (b := b) rfl hab.symm)
    have HD := Lib.hid (sel_dyck even_mx da db rfl hab.symm)
    have XL := Lib.hid (hts_len a)
    clear hf da db hab
    go_enter Try.func83, Try.ntmps83
    go_wp2_with fail
    refine (samePaths_any _ _ _ ha hb).mono ?_
    rintro e w0 ⟨rfl, hb0⟩
    rw [H1.out]
    go_wp2_with fail
    refine (implHeightsOf_any _ _ ha).mono ?_
    rintro e w1 ⟨A1, n1, c1, hn1, rfl, ho1, hb1⟩
    rw [EA.out] at ho1
    have O1 := Lib.hid ho1.1
    have hlt1 : ∀ g, A1 = some ⟨g, 0, none⟩ → g < w1.heap.size := fun g h => (ho1.1.blk g (by rw [h]; rfl)).2
    have HLT := Lib.hid hlt1
    have N1 := Lib.hid (show n1 = a.length + 1 from hn1.trans (LA.out))
    have hs01 := hb0.size
    have hs12 := hb1.size
    have HB1 := Lib.hid (hb0.trans (hb1.mono hb0.size))
    clear hn1 ho1 hb0 hb1 hlt1
    go_wp2_with fail
    refine (implHeightsOf_any _ _ hb).mono ?_
    rintro e w2 ⟨A2, n2, c2, hn2, rfl, ho2, hb2⟩
    rw [EB.out] at ho2
    have O2 := Lib.hid ho2.1
    have hge : ∀ g, A2 = some ⟨g, 0, none⟩ → w1.heap.size ≤ g := fun g h => (ho2.1.blk g (by rw [h]; rfl)).1
    have HGE := Lib.hid hge
    have hn2' : n1 = n2 := N1.out.trans (Eq.symm (hn2.trans (LB.out.trans (by rw [HAB.out]))))
    have O1 := Lib.hid (O1.out.below hb2)
    have HB2 := Lib.hid (HB1.out.trans (hb2.mono HB1.out.size))
    have hs2 : w.heap.size ≤ w2.heap.size := HB2.out.size
    clear hn2 ho2 hb2 HB1 hge
    subst hn2'
    have hn17 : n1 ≤ 17 := by have := N1.out; omega
    go_wp2_with fail
    go_loopw [10, 21] (fun _ i wr => ∃ k : Nat, k ≤ n1 ∧ i = .int .i64 k ∧ Own wr 3 w0.heap.size A1 n1 c1 (iv (pickTo mx (hts a) (hts b) k ++ (hts a).drop k)) ∧ Own wr 3 w1.heap.size A2 n1 c2 (iv (hts b)) ∧ Below w.heap.size w wr) (fun _ i _ => n1 - (intOf i).toNat)
    case atStart => exact ⟨0, Nat.zero_le _, rfl, O1.out, O2.out, HB2.out⟩
    case round =>
      obtain ⟨k, hk, rfl, ho1, ho2, hbl⟩ := hrel
      obtain ⟨w3, rfl⟩ : ∃ W, W = wr := ⟨wr, rfl⟩
      by_cases hlt : k < n1
      · obtain ⟨g1, x, hA1, hg1, hgs1, hx, hc1, hf1⟩ := ho1.ati hlt
        obtain ⟨g2, y, hA2, hg2, hgs2, hy, hc2, hf2⟩ := ho2.ati hlt
        rw [pick_at] at hx
        have HS2 := Lib.hid (pick_set (m := mx) hx hy)
        cases hA1
        cases hA2
        have hg12 : g1 < w1.heap.size := HLT.out g1 rfl
        have hne : ∀ g, (some (⟨g2, 0, none⟩ : Addr)) = some ⟨g, 0, none⟩ → g ≠ g1 := fun g h => by cases h; omega
        have P1 := Lib.hid ho1
        have P2 := Lib.hid ho2
        have k0 : (0 : Int) ≤ (k : Int) := by omega
        have k1 : (k : Int) < (n1 : Int) := by omega
        have hlo : w.heap.size ≤ g1 := by omega
        have HNE := Lib.hid hne
        clear hx hy ho1 ho2 hne
        go_wp2_with fail
        go_region_with (go_at_call 86; refine (pick_mx _ _ _).mono ?_; rintro e w4 ⟨rfl, rfl⟩)
        all_goals
          go_wp2_with fail
          go_roundw
          case rel => exact ⟨k + 1, by omega, by go_num, by rw [← HS2.out]; exact P1.out.puti k _, P2.out.set_far (p := ⟨g1, k, none⟩) HNE.out _, (hbl.setCell (p := ⟨g1, k, none⟩) hlo _).drew⟩
          case measure => simp [intOf]; omega
      · have hkn : k = n1 := by omega
        have HR := Lib.hid (show Rd w3 A1 n1 (iv (hts (selW mx a b a.length))) by
          have := ho1.rd
          rw [hkn, pick_all (by rw [XL.out, N1.out]), N1.out, HS.out] at this
          rw [N1.out]; exact this)
        have hbs := hbl.size
        clear ho1 ho2 hkn
        go_wp2_with fail
        refine (implPathOfHeights_good _ _ _ _ _ HR.out HD.out).mono ?_
        rintro e w4 ⟨rfl, hb4⟩
        go_wp2_with fail
        go_ret2
        exact ⟨by rw [HF.out]; rfl, hbl.trans (hb4.mono hbs)⟩

set_option maxHeartbeats 1000000 in
theorem implUpperPath_any (a b : List UInt8) (w : World) (ha : a.length ≤ 1000000000) (hb : b.length ≤ 1000000000) :
    Calls Try.prog 32 #[.string (bs a), .string (bs b)] w fun e w' => e = .returned (.tuple #[.string (bs (betwB mx a b).1), .bool (betwB mx a b).2]) ∧ Below w.heap.size w w' := by
  go_enter Try.func32, Try.ntmps32
  go_wp2_with fail
  refine (between_mx _ _ _ ha hb).mono ?_
  rintro e w1 ⟨rfl, hb1⟩
  go_wp2_with fail
  go_ret2
  exact ⟨rfl, hb1⟩

end Go.Proofs.Yteiffomekjadgaa
