/- Merged: TreeS. -/
import Derived.Test.YtghfhkbncjgaeaaGreatMg3
import Derived.Test.YtghfhkbncjgaeaaGreatMg16

namespace Go.Proofs.YtghfhkbncjgaeaaGreat
open Go.RowKit Go.Deep

set_option maxHeartbeats 1000000 in
theorem l6End_any (l : List UInt8) (hl : l.length ≤ 1000000000) : ∀ (f k : Nat) (w : World), l.length < f + k → k ≤ l.length →
    Calls Tryz.prog 135 #[.string (bs l), .int .i64 k] w fun e w' => e = .returned (.int .i64 (endv l.length (pz f (l.drop k)))) ∧ w = w' := by
  intro f
  induction f with
  | zero => intro k w h1 h2; omega
  | succ f ih =>
    intro k w h1 h2
    have IH := Lib.hid ih
    clear ih
    by_cases hlt : k < l.length
    · obtain ⟨c, hc⟩ : ∃ c, l[k] = c := ⟨_, rfl⟩
      have hdr : l.drop k = c :: l.drop (k + 1) := by rw [List.drop_eq_getElem_cons hlt, hc]
      by_cases h46 : c = 46
      · subst h46
        have HF := Lib.hid (show endv l.length (pz (f + 1) (l.drop k)) = (k : Int) + 1 by rw [hdr, pz, if_pos rfl]; simp [endv]; omega)
        have e1 : (((l[k]'hlt).toNat : Int) == 46) = true := by rw [hc]; rfl
        clear hc hdr
        go_enter Tryz.func135, Tryz.ntmps135
        go_wp2_with fail
        go_ret
        exact ⟨ret_int HF.out.symm, rfl⟩
      have e1 : (((l[k]'hlt).toNat : Int) == 46) = false := by rw [hc]; exact u8n h46
      by_cases h40 : c = 40
      · subst h40
        have e2 : (((l[k]'hlt).toNat : Int) == 40) = true := by rw [hc]; rfl
        have e3 : (((l[k]'hlt).toNat : Int) != 40) = false := by rw [hc]; rfl
        have hstep : pz (f + 1) (l.drop k) = (pz f (l.drop (k + 1))).bind fun x => (pz f x.2).bind fun y => if y.2.head? = some 41 then some (.node 0 0 () x.1 y.1, y.2.tail) else none := by
          rw [hdr, pz, if_neg (by decide), if_pos rfl]
        clear hc hdr
        rcases hz : pz f (l.drop (k + 1)) with _ | ⟨a, r1⟩
        · have HF := Lib.hid (show endv l.length (pz (f + 1) (l.drop k)) = -1 by rw [hstep, hz]; rfl)
          have HI : Hid (Calls Tryz.prog 135 #[.string (bs l), .int .i64 ((k : Int) + 1)] w fun e w' => e = .returned (.int .i64 (-1)) ∧ w = w') := Lib.hid (by
            have := IH.out (k + 1) w (by omega) (by omega)
            rw [hz] at this
            rwa [show ((k + 1 : Nat) : Int) = (k : Int) + 1 by omega] at this)
          clear hz hstep
          go_enter Tryz.func135, Tryz.ntmps135
          go_wp2_with fail
          refine HI.out.mono ?_
          rintro e w' ⟨rfl, rfl⟩
          go_wp2_with fail
          go_ret
          exact ⟨ret_int HF.out.symm, rfl⟩
        obtain ⟨x, hx1, hx2, hx3, hx4, -⟩ := pz_cut (by omega) hz
        subst hx3
        have HI : Hid (Calls Tryz.prog 135 #[.string (bs l), .int .i64 ((k : Int) + 1)] w fun e w' => e = .returned (.int .i64 (x : Int)) ∧ w = w') := Lib.hid (by
          have := IH.out (k + 1) w (by omega) (by omega)
          rw [hz, hx4] at this
          rwa [show ((k + 1 : Nat) : Int) = (k : Int) + 1 by omega] at this)
        rcases hz2 : pz f (l.drop x) with _ | ⟨b, r2⟩
        · have HF := Lib.hid (show endv l.length (pz (f + 1) (l.drop k)) = -1 by rw [hstep, hz]; simp only [Option.bind_some, hz2]; rfl)
          have HJ : Hid (Calls Tryz.prog 135 #[.string (bs l), .int .i64 (x : Int)] w fun e w' => e = .returned (.int .i64 (-1)) ∧ w = w') := Lib.hid (by
            have := IH.out x w (by omega) (by omega)
            rwa [hz2] at this)
          clear hz hz2 hstep hx4
          go_enter Tryz.func135, Tryz.ntmps135
          go_wp2_with fail
          refine HI.out.mono ?_
          rintro e w' ⟨rfl, rfl⟩
          go_wp2_with fail
          refine HJ.out.mono ?_
          rintro e w' ⟨rfl, rfl⟩
          go_wp2_with fail
          go_ret
          exact ⟨ret_int HF.out.symm, rfl⟩
        obtain ⟨y, hy1, hy2, hy3, hy4, -⟩ := pz_cut (by omega) hz2
        subst hy3
        have HJ : Hid (Calls Tryz.prog 135 #[.string (bs l), .int .i64 (x : Int)] w fun e w' => e = .returned (.int .i64 (y : Int)) ∧ w = w') := Lib.hid (by
          have := IH.out x w (by omega) (by omega)
          rwa [hz2, hy4] at this)
        have hval : pz (f + 1) (l.drop k) = if (l.drop y).head? = some 41 then some (.node 0 0 () a b, (l.drop y).tail) else none := by
          rw [hstep, hz]; simp only [Option.bind_some, hz2]
        clear hz hz2 hstep hx4 hy4
        have g0 : ¬ (y : Int) < 0 := by omega
        by_cases hly : y < l.length
        · obtain ⟨d, hd⟩ : ∃ d, l[y] = d := ⟨_, rfl⟩
          have hdy : l.drop y = d :: l.drop (y + 1) := by rw [List.drop_eq_getElem_cons hly, hd]
          by_cases h41 : d = 41
          · subst h41
            have HF := Lib.hid (show endv l.length (pz (f + 1) (l.drop k)) = (y : Int) + 1 by rw [hval, hdy, if_pos (by simp)]; simp [endv]; omega)
            have e4 : (((l[y]'hly).toNat : Int) == 41) = true := by rw [hd]; rfl
            have e5 : (((l[y]'hly).toNat : Int) != 41) = false := by rw [hd]; rfl
            have g2 : ¬ l.length ≤ y := by omega
            clear hd hdy hval
            go_enter Tryz.func135, Tryz.ntmps135
            go_wp2_with fail
            refine HI.out.mono ?_
            rintro e w' ⟨rfl, rfl⟩
            go_wp2_with fail
            refine HJ.out.mono ?_
            rintro e w' ⟨rfl, rfl⟩
            go_wp2_with fail
            · exfalso
              have h : (y : Int) < 0 ∨ (((l[y]'hly).toNat : Int) != 41) = true := by assumption
              rcases h with h | h
              · omega
              · rw [e5] at h; cases h
            · go_ret
              exact ⟨ret_int HF.out.symm, rfl⟩
          · have HF := Lib.hid (show endv l.length (pz (f + 1) (l.drop k)) = -1 by rw [hval, hdy, if_neg (by simpa using h41)]; rfl)
            have e4 : (((l[y]'hly).toNat : Int) == 41) = false := by rw [hd]; exact u8n h41
            have e5 : (((l[y]'hly).toNat : Int) != 41) = true := by rw [bne, e4]; rfl
            have g2 : ¬ l.length ≤ y := by omega
            clear hd hdy hval h41
            go_enter Tryz.func135, Tryz.ntmps135
            go_wp2_with fail
            refine HI.out.mono ?_
            rintro e w' ⟨rfl, rfl⟩
            go_wp2_with fail
            refine HJ.out.mono ?_
            rintro e w' ⟨rfl, rfl⟩
            go_wp2_with fail
            · go_ret
              exact ⟨ret_int HF.out.symm, rfl⟩
            · exfalso
              have h : (0 : Int) ≤ (y : Int) ∧ (((l[y]'hly).toNat : Int) != 41) = false := by assumption
              rw [e5] at h; cases h.2
        · have HF := Lib.hid (show endv l.length (pz (f + 1) (l.drop k)) = -1 by rw [hval, List.drop_eq_nil_of_le (by omega)]; rfl)
          clear hval
          go_enter Tryz.func135, Tryz.ntmps135
          go_wp2_with fail
          refine HI.out.mono ?_
          rintro e w' ⟨rfl, rfl⟩
          go_wp2_with fail
          refine HJ.out.mono ?_
          rintro e w' ⟨rfl, rfl⟩
          go_wp2_with fail
          go_ret
          exact ⟨ret_int HF.out.symm, rfl⟩
      · have HF := Lib.hid (show endv l.length (pz (f + 1) (l.drop k)) = -1 by rw [hdr, pz, if_neg h46, if_neg h40]; rfl)
        have e2 : (((l[k]'hlt).toNat : Int) == 40) = false := by rw [hc]; exact u8n h40
        have e3 : (((l[k]'hlt).toNat : Int) != 40) = true := by rw [bne, e2]; rfl
        clear hc hdr h46 h40
        go_enter Tryz.func135, Tryz.ntmps135
        go_wp2_with fail
        go_ret
        exact ⟨ret_int HF.out.symm, rfl⟩
    · have HF := Lib.hid (show endv l.length (pz (f + 1) (l.drop k)) = -1 by rw [List.drop_eq_nil_of_le (by omega)]; rfl)
      go_enter Tryz.func135, Tryz.ntmps135
      go_wp2_with fail
      go_ret
      exact ⟨ret_int HF.out.symm, rfl⟩
/-- At a place where a tree's text begins. -/
theorem l6End_sub (l : List UInt8) (k x : Nat) (t : Tr) (r : List UInt8) (w : World) (hl : l.length ≤ 1000000000) (h : l.drop k = tx t ++ r) (hx : x = k + (tx t).length) :
    Calls Tryz.prog 135 #[.string (bs l), .int .i64 k] w fun e w' => e = .returned (.int .i64 (x : Int)) ∧ w = w' := by
  have hlen := congrArg List.length h
  simp only [List.length_drop, List.length_append] at hlen
  have ht := tx_len t
  have := l6End_any l hl (l.length + 1) k w (by omega) (by omega)
  rw [h, pz_tree t (by omega)] at this
  have e : endv l.length (some (sh t, r)) = (x : Int) := by simp only [endv]; omega
  rw [e] at this
  exact this

theorem specIsBinary_any (l : List UInt8) (w : World) (hl : l.length ≤ 1000000000) :
    Calls Tryz.prog 118 #[.string (bs l)] w fun e w' => e = .returned (.bool (isB l)) ∧ w = w' := by
  by_cases h25 : l.length ≤ 25
  · obtain ⟨E, hE⟩ : ∃ E, E = endv l.length (pz (l.length + 1) l) := ⟨_, rfl⟩
    have hI := l6End_any l hl (l.length + 1) 0 w (by omega) (Nat.zero_le _)
    rw [List.drop_zero, ← hE] at hI
    have HI0 := Lib.hid (show Calls Tryz.prog 135 #[.string (bs l), .int .i64 0] w fun e w' => e = .returned (.int .i64 E) ∧ w = w' from hI)
    have hB : isB l = (E == (l.length : Int)) := by rw [isB_eq, ← hE, decide_eq_true h25, Bool.true_and]
    by_cases hEl : E = (l.length : Int)
    · have h0 : l ≠ [] := by
        rintro rfl
        rw [hEl] at hE
        cases hE
      have HF := Lib.hid (show isB l = true by rw [hB, hEl]; simp)
      subst hEl
      have HI := Lib.hid (show Calls Tryz.prog 135 #[.string (bs l), .int .i64 0] w fun e w' => e = .returned (.int .i64 (l.length : Int)) ∧ w = w' from hI)
      have h1 : (l == []) = false := by simpa using h0
      have h2 : l.isEmpty = false := by simpa using h0
      clear hI hB hE HI0
      go_enter Tryz.func118, Tryz.ntmps118
      go_wp2_with fail
      refine HI.out.mono ?_
      rintro e w' ⟨rfl, rfl⟩
      go_wp2_with fail
      go_ret
      exact ⟨ret_bool (by rw [HF.out]), rfl⟩
    · have HF := Lib.hid (show isB l = false by rw [hB]; simpa using hEl)
      have e1 : (E == (l.length : Int)) = false := by simpa using hEl
      clear hI hB hE hEl
      go_enter Tryz.func118, Tryz.ntmps118
      go_wp2_with fail
      refine HI0.out.mono ?_
      rintro e w' ⟨rfl, rfl⟩
      go_wp2_with fail
      go_ret
      exact ⟨ret_bool (by rw [HF.out]), rfl⟩
  · have HF := Lib.hid (show isB l = false by rw [isB_eq, decide_eq_false h25]; rfl)
    go_enter Tryz.func118, Tryz.ntmps118
    go_wp2_with fail
    go_ret
    exact ⟨ret_bool (by rw [HF.out]), rfl⟩

theorem specNodesOf_any (l : List UInt8) (w : World) (hl : l.length ≤ 1000000000) :
    Calls Tryz.prog 119 #[.string (bs l)] w fun e w' => e = .returned (.int .i64 (nodesB l)) ∧ w = w' := by
  rcases isB_cases l with hb | ⟨t, ht, h8, _⟩
  · have HF := Lib.hid (nodesB_no hb)
    have HB := Lib.hid hb
    clear hb
    go_enter Tryz.func119, Tryz.ntmps119
    go_wp2_with fail
    refine (specIsBinary_any _ _ hl).mono ?_
    rintro e w' ⟨rfl, rfl⟩
    rw [HB.out]
    go_wp2_with fail
    go_ret
    exact ⟨ret_int (by rw [HF.out]), rfl⟩
  · have hln : l.length = 3 * nodes t + 1 := by rw [ht, tx_len]
    have HF := Lib.hid (show nodesB l = nodes t by rw [ht, nodesB_tx h8])
    have HB := Lib.hid (show isB l = true by rw [ht, isB_tx h8])
    have h1 : 1 ≤ l.length := by omega
    have HL := Lib.hid hln
    clear ht hln
    go_enter Tryz.func119, Tryz.ntmps119
    go_wp2_with fail
    refine (specIsBinary_any _ _ hl).mono ?_
    rintro e w' ⟨rfl, rfl⟩
    rw [HB.out]
    go_wp2_with fail
    go_ret
    have := HL.out
    exact ⟨ret_int (by rw [HF.out]; omega), rfl⟩

/-- What the parts of a tree's text are. -/
structure Cut (L : List UInt8) (x : Nat) (l r : Tr) : Prop where
  at1 : L.drop 1 = tx l ++ (tx r ++ [41])
  x_eq : x = 1 + (tx l).length
  left : List.take (x - 1) (List.drop 1 L) = tx l
  right : List.take (L.length - 1 - x) (List.drop x L) = tx r
  len : L.length = 3 * (nodes l + nodes r + 1) + 1
  xn : x = 3 * nodes l + 2
  ne : (L == [46]) = false
theorem cut_of (b o : Nat) (a : Unit) (l r : Tr) : ∃ L x, L = tx (.node b o a l r) ∧ Cut L x l r := by
  refine ⟨_, 1 + (tx l).length, rfl, ?_⟩
  have h1 : (tx (.node b o a l r)).drop 1 = tx l ++ (tx r ++ [41]) := by simp [tx]
  have hl := tx_len l
  have hr := tx_len r
  have hn : (tx (.node b o a l r)).length = 3 * (nodes l + nodes r + 1) + 1 := tx_len _
  refine ⟨h1, rfl, ?_, ?_, hn, by omega, by simp [tx]⟩
  · rw [h1, Nat.add_sub_cancel_left, List.take_left]
  · rw [← List.drop_drop, h1, List.drop_left, show (tx (.node b o a l r)).length - 1 - (1 + (tx l).length) = (tx r).length by omega, List.take_left]



end Go.Proofs.YtghfhkbncjgaeaaGreat
