/- The program's readers of trees: readTree, nodes, parseTree, IsBinary, NodesOf, find, node, NodeAt. -/
import Derived.Test.YtiebaoglcdbopaaTree
import Derived.StillTailTactics
namespace Go.Proofs.Ytiebaoglcdbopaa
open Go.RowKit Go.Deep

/-- What readTree hands back. -/
def RTree (n : Nat) (o : Option (Tr × List UInt8)) (w : World) (e : Ending) (w' : World) : Prop :=
  Below w.heap.size w w' ∧ match o with
  | none => e = .returned (.tuple #[.pointer none, .int .i64 (-1)])
  | some x => ∃ T : Tr, sh T = x.1 ∧ TIn w' T ∧ Apt w.heap.size w' T ∧ e = .returned (.tuple #[T.ptr, .int .i64 ((n : Int) - x.2.length)])
theorem RTree.no {n : Nat} {w w' : World} {e : Ending} (hb : Below w.heap.size w w') (he : e = .returned (.tuple #[.pointer none, .int .i64 (-1)])) : RTree n none w e w' := ⟨hb, he⟩
theorem RTree.yes {n : Nat} {w w' : World} {e : Ending} {t : Tr} {r : List UInt8} (T : Tr) (z : Int) (hb : Below w.heap.size w w') (h1 : sh T = t) (h2 : TIn w' T) (h3 : Apt w.heap.size w' T) (hz : z = (n : Int) - r.length) (he : e = .returned (.tuple #[T.ptr, .int .i64 z])) : RTree n (some (t, r)) w e w' :=
  ⟨hb, T, h1, h2, h3, by rw [← hz]; exact he⟩

set_option maxHeartbeats 2000000 in
theorem readTree_any (l : List UInt8) (hl : l.length ≤ 1000000000) : ∀ (f k : Nat) (w : World), l.length < f + k → k ≤ l.length →
    Calls Try.prog 103 #[.string (bs l), .int .i64 k] w (RTree l.length (pz f (l.drop k)) w) := by
  intro f
  induction f with
  | zero => intro k w h1 h2; omega
  | succ f ih =>
    intro k w h1 h2
    have IH := Lib.hid ih
    clear ih
    by_cases hlt : k < l.length
    · obtain ⟨c, hc⟩ : ∃ c, l[k] = c := ⟨_, rfl⟩
      have hdr : l.drop k = c :: l.drop (k + 1) := by rw [List.drop_eq_getElem_cons hlt, hc]
      by_cases h46 : c = 46
      · subst h46
        have HF := Lib.hid (show pz (f + 1) (l.drop k) = some (.nil, l.drop (k + 1)) by rw [hdr, pz, if_pos rfl])
        have e1 : (((l[k]'hlt).toNat : Int) == 46) = true := by rw [hc]; rfl
        clear hc hdr
        go_enter Try.func103, Try.ntmps103
        go_wp2_with fail
        go_ret2
        rw [HF.out]
        exact RTree.yes .nil _ (Below.refl _ _) rfl trivial Apt.nil_ (by simp; omega) rfl
      have e1 : (((l[k]'hlt).toNat : Int) == 46) = false := by rw [hc]; exact u8n h46
      by_cases h40 : c = 40
      · subst h40
        have e2 : (((l[k]'hlt).toNat : Int) == 40) = true := by rw [hc]; rfl
        have hstep : pz (f + 1) (l.drop k) = (pz f (l.drop (k + 1))).bind fun x => (pz f x.2).bind fun y => if y.2.head? = some 41 then some (.node 0 0 () x.1 y.1, y.2.tail) else none := by
          rw [hdr, pz, if_neg (by decide), if_pos rfl]
        have hI := IH.out (k + 1) w (by omega) (by omega)
        rw [show ((k + 1 : Nat) : Int) = (k : Int) + 1 by omega] at hI
        clear hc hdr
        rcases hz : pz f (l.drop (k + 1)) with _ | ⟨a, r1⟩
        · have HF := Lib.hid (show pz (f + 1) (l.drop k) = none by rw [hstep, hz]; rfl)
          rw [hz] at hI
          have HI := Lib.hid hI
          clear hz hstep hI
          go_enter Try.func103, Try.ntmps103
          go_wp2_with fail
          refine HI.out.mono ?_
          rintro e w1 ⟨hb, rfl⟩
          go_wp2_with fail
          go_ret2
          rw [HF.out]
          exact RTree.no hb rfl
        rw [hz] at hI
        have HI := Lib.hid hI
        clear hI
        obtain ⟨x, hx1, hx2, hx3, hx4, -⟩ := pz_cut (by omega) hz
        subst hx3
        have hx5 : (l.length : Int) - (l.drop x).length = x := hx4
        have HX := Lib.hid hx5
        have hJ := fun w => IH.out x w (by omega) (by omega)
        rcases hz2 : pz f (l.drop x) with _ | ⟨b, r2⟩
        · have HF := Lib.hid (show pz (f + 1) (l.drop k) = none by rw [hstep, hz]; simp only [Option.bind_some, hz2]; rfl)
          rw [hz2] at hJ
          have HJ := Lib.hid hJ
          clear hz hz2 hstep hx4 hx5 hJ
          go_enter Try.func103, Try.ntmps103
          go_wp2_with fail
          refine HI.out.mono ?_
          rintro e w1 ⟨hb, T1, hs1, ht1, hp1, rfl⟩
          rw [HX.out]
          obtain ⟨p1, hq1⟩ := ptr_ptr T1
          rw [hq1]
          have HT1 := Lib.hid ht1
          clear ht1 hp1 hs1 hq1
          go_wp2_with fail
          refine (HJ.out _).mono ?_
          rintro e w2 ⟨hb2, rfl⟩
          go_wp2_with fail
          go_ret2
          rw [HF.out]
          exact RTree.no (hb.trans (hb2.mono hb.size)) rfl
        rw [hz2] at hJ
        have HJ := Lib.hid hJ
        clear hJ
        obtain ⟨y, hy1, hy2, hy3, hy4, -⟩ := pz_cut (by omega) hz2
        subst hy3
        have hy5 : (l.length : Int) - (l.drop y).length = y := hy4
        have HY := Lib.hid hy5
        have hval : pz (f + 1) (l.drop k) = if (l.drop y).head? = some 41 then some (.node 0 0 () a b, (l.drop y).tail) else none := by
          rw [hstep, hz]; simp only [Option.bind_some, hz2]
        clear hz hz2 hstep hx4 hy4 hx5 hy5
        have g0 : ¬ (y : Int) < 0 := by omega
        by_cases hly : y < l.length
        · obtain ⟨d, hd⟩ : ∃ d, l[y] = d := ⟨_, rfl⟩
          have hdy : l.drop y = d :: l.drop (y + 1) := by rw [List.drop_eq_getElem_cons hly, hd]
          by_cases h41 : d = 41
          · subst h41
            have HF := Lib.hid (show pz (f + 1) (l.drop k) = some (.node 0 0 () a b, l.drop (y + 1)) by rw [hval, hdy, if_pos (by simp)]; rfl)
            have e4 : (((l[y]'hly).toNat : Int) == 41) = true := by rw [hd]; rfl
            have e5 : (((l[y]'hly).toNat : Int) != 41) = false := by rw [hd]; rfl
            have g2 : ¬ l.length ≤ y := by omega
            clear hd hdy hval
            go_enter Try.func103, Try.ntmps103
            go_wp2_with fail
            refine HI.out.mono ?_
            rintro e w1 ⟨hb, T1, hs1, ht1, hp1, rfl⟩
            rw [HX.out]
            obtain ⟨p1, hq1⟩ := ptr_ptr T1
            rw [hq1]
            have HT1 := Lib.hid ht1
            have HP1 := Lib.hid hp1
            have HS1 := Lib.hid hs1
            have HQ1 := Lib.hid hq1
            clear ht1 hp1 hs1 hq1
            go_wp2_with fail
            refine (HJ.out _).mono ?_
            rintro e w2 ⟨hb2, T2, hs2, ht2, hp2, rfl⟩
            rw [HY.out]
            obtain ⟨p2, hq2⟩ := ptr_ptr T2
            rw [hq2]
            have HT2 := Lib.hid ht2
            have HP2 := Lib.hid hp2
            have HS2 := Lib.hid hs2
            have HQ2 := Lib.hid hq2
            clear ht2 hp2 hs2 hq2
            go_wp2_with fail
            · exfalso
              have h : (y : Int) < 0 ∨ (((l[y]'hly).toNat : Int) != 41) = true := by assumption
              rcases h with h | h
              · omega
              · rw [e5] at h; cases h
            · go_ret2
              rw [HF.out]
              have ht := TIn.new (HT1.out.below hb2) HT2.out 63
              rw [HQ1.out, HQ2.out] at ht
              have hap := HP1.out.join (cs := #[.pointer p1, .pointer p2]) (e := 63) HP2.out hb.size hb2
              exact RTree.yes (.node w2.heap.size 0 () T1 T2) _ ((hb.trans (hb2.mono hb.size)).alloc (Nat.le_trans hb.size hb2.size) _) (by simp [sh, HS1.out, HS2.out]) ht hap (by simp; omega) rfl
          · have HF := Lib.hid (show pz (f + 1) (l.drop k) = none by rw [hval, hdy, if_neg (by simpa using h41)])
            have e4 : (((l[y]'hly).toNat : Int) == 41) = false := by rw [hd]; exact u8n h41
            have e5 : (((l[y]'hly).toNat : Int) != 41) = true := by rw [bne, e4]; rfl
            have g2 : ¬ l.length ≤ y := by omega
            clear hd hdy hval h41
            go_enter Try.func103, Try.ntmps103
            go_wp2_with fail
            refine HI.out.mono ?_
            rintro e w1 ⟨hb, T1, hs1, ht1, hp1, rfl⟩
            rw [HX.out]
            obtain ⟨p1, hq1⟩ := ptr_ptr T1
            rw [hq1]
            clear ht1 hp1 hs1 hq1
            go_wp2_with fail
            refine (HJ.out _).mono ?_
            rintro e w2 ⟨hb2, T2, hs2, ht2, hp2, rfl⟩
            rw [HY.out]
            obtain ⟨p2, hq2⟩ := ptr_ptr T2
            rw [hq2]
            clear ht2 hp2 hs2 hq2
            go_wp2_with fail
            · go_ret2
              rw [HF.out]
              exact RTree.no (hb.trans (hb2.mono hb.size)) rfl
            · exfalso
              have h : (0 : Int) ≤ (y : Int) ∧ (((l[y]'hly).toNat : Int) != 41) = false := by assumption
              rw [e5] at h; cases h.2
        · have HF := Lib.hid (show pz (f + 1) (l.drop k) = none by rw [hval, List.drop_eq_nil_of_le (by omega)]; rfl)
          clear hval
          go_enter Try.func103, Try.ntmps103
          go_wp2_with fail
          refine HI.out.mono ?_
          rintro e w1 ⟨hb, T1, hs1, ht1, hp1, rfl⟩
          rw [HX.out]
          obtain ⟨p1, hq1⟩ := ptr_ptr T1
          rw [hq1]
          clear ht1 hp1 hs1 hq1
          go_wp2_with fail
          refine (HJ.out _).mono ?_
          rintro e w2 ⟨hb2, T2, hs2, ht2, hp2, rfl⟩
          rw [HY.out]
          obtain ⟨p2, hq2⟩ := ptr_ptr T2
          rw [hq2]
          clear ht2 hp2 hs2 hq2
          go_wp2_with fail
          go_ret2
          rw [HF.out]
          exact RTree.no (hb.trans (hb2.mono hb.size)) rfl
      · have HF := Lib.hid (show pz (f + 1) (l.drop k) = none by rw [hdr, pz, if_neg h46, if_neg h40])
        have e2 : (((l[k]'hlt).toNat : Int) == 40) = false := by rw [hc]; exact u8n h40
        clear hc hdr h46 h40
        go_enter Try.func103, Try.ntmps103
        go_wp2_with fail
        go_ret2
        rw [HF.out]
        exact RTree.no (Below.refl _ _) rfl
    · have HF := Lib.hid (show pz (f + 1) (l.drop k) = none by rw [List.drop_eq_nil_of_le (by omega)]; rfl)
      go_enter Try.func103, Try.ntmps103
      go_wp2_with fail
      go_ret2
      rw [HF.out]
      exact RTree.no (Below.refl _ _) rfl

end Go.Proofs.Ytiebaoglcdbopaa
