/- The reference's readers of trees: l6End, IsBinary, NodesOf, l16Node, NodeAt. -/
import Derived.Test.YtiebaoglcdbopaaNum
import Derived.Test.YtiebaoglcdbopaaTreeL
namespace Go.Proofs.Ytiebaoglcdbopaa
open Go.RowKit Go.Deep

set_option maxHeartbeats 1000000 in
theorem l6End_any (l : List UInt8) (hl : l.length ≤ 1000000000) : ∀ (f k : Nat) (w : World), l.length < f + k → k ≤ l.length →
    Calls Try.prog 82 #[.string (bs l), .int .i64 k] w fun e w' => e = .returned (.int .i64 (endv l.length (pz f (l.drop k)))) ∧ w = w' := by
  intro f
  induction f with
  | zero => intro k w h1 h2; omega
  | succ f ih =>
    intro k w h1 h2
    have IH := Lib.hid ih
    clear ih
    by_cases hlt : k < l.length
    · obtain ⟨c, hc⟩ : ∃ c, l[k] = c := ⟨_, rfl⟩
      have hdr : l.drop k = c :: l.drop (k + 1) := by rw [List.drop_eq_getElem_cons hlt, hc]
      by_cases h46 : c = 46
      · subst h46
        have HF := Lib.hid (show endv l.length (pz (f + 1) (l.drop k)) = (k : Int) + 1 by rw [hdr, pz, if_pos rfl]; simp [endv]; omega)
        have e1 : (((l[k]'hlt).toNat : Int) == 46) = true := by rw [hc]; rfl
        clear hc hdr
        go_enter Try.func82, Try.ntmps82
        go_wp2_with fail
        go_ret
        exact ⟨ret_int HF.out.symm, rfl⟩
      have e1 : (((l[k]'hlt).toNat : Int) == 46) = false := by rw [hc]; exact u8n h46
      by_cases h40 : c = 40
      · subst h40
        have e2 : (((l[k]'hlt).toNat : Int) == 40) = true := by rw [hc]; rfl
        have e3 : (((l[k]'hlt).toNat : Int) != 40) = false := by rw [hc]; rfl
        have hstep : pz (f + 1) (l.drop k) = (pz f (l.drop (k + 1))).bind fun x => (pz f x.2).bind fun y => if y.2.head? = some 41 then some (.node 0 0 () x.1 y.1, y.2.tail) else none := by
          rw [hdr, pz, if_neg (by decide), if_pos rfl]
        clear hc hdr
        rcases hz : pz f (l.drop (k + 1)) with _ | ⟨a, r1⟩
        · have HF := Lib.hid (show endv l.length (pz (f + 1) (l.drop k)) = -1 by rw [hstep, hz]; rfl)
          have HI : Hid (Calls Try.prog 82 #[.string (bs l), .int .i64 ((k : Int) + 1)] w fun e w' => e = .returned (.int .i64 (-1)) ∧ w = w') := Lib.hid (by
            have := IH.out (k + 1) w (by omega) (by omega)
            rw [hz] at this
            rwa [show ((k + 1 : Nat) : Int) = (k : Int) + 1 by omega] at this)
          clear hz hstep
          go_enter Try.func82, Try.ntmps82
          go_wp2_with fail
          refine HI.out.mono ?_
          rintro e w' ⟨rfl, rfl⟩
          go_wp2_with fail
          go_ret
          exact ⟨ret_int HF.out.symm, rfl⟩
        obtain ⟨x, hx1, hx2, hx3, hx4, -⟩ := pz_cut (by omega) hz
        subst hx3
        have HI : Hid (Calls Try.prog 82 #[.string (bs l), .int .i64 ((k : Int) + 1)] w fun e w' => e = .returned (.int .i64 (x : Int)) ∧ w = w') := Lib.hid (by
          have := IH.out (k + 1) w (by omega) (by omega)
          rw [hz, hx4] at this
          rwa [show ((k + 1 : Nat) : Int) = (k : Int) + 1 by omega] at this)
        rcases hz2 : pz f (l.drop x) with _ | ⟨b, r2⟩
        · have HF := Lib.hid (show endv l.length (pz (f + 1) (l.drop k)) = -1 by rw [hstep, hz]; simp only [Option.bind_some, hz2]; rfl)
          have HJ : Hid (Calls Try.prog 82 #[.string (bs l), .int .i64 (x : Int)] w fun e w' => e = .returned (.int .i64 (-1)) ∧ w = w') := Lib.hid (by
            have := IH.out x w (by omega) (by omega)
            rwa [hz2] at this)
          clear hz hz2 hstep hx4
          go_enter Try.func82, Try.ntmps82
          go_wp2_with fail
          refine HI.out.mono ?_
          rintro e w' ⟨rfl, rfl⟩
          go_wp2_with fail
          refine HJ.out.mono ?_
          rintro e w' ⟨rfl, rfl⟩
          go_wp2_with fail
          go_ret
          exact ⟨ret_int HF.out.symm, rfl⟩
        obtain ⟨y, hy1, hy2, hy3, hy4, -⟩ := pz_cut (by omega) hz2
        subst hy3
        have HJ : Hid (Calls Try.prog 82 #[.string (bs l), .int .i64 (x : Int)] w fun e w' => e = .returned (.int .i64 (y : Int)) ∧ w = w') := Lib.hid (by
          have := IH.out x w (by omega) (by omega)
          rwa [hz2, hy4] at this)
        have hval : pz (f + 1) (l.drop k) = if (l.drop y).head? = some 41 then some (.node 0 0 () a b, (l.drop y).tail) else none := by
          rw [hstep, hz]; simp only [Option.bind_some, hz2]
        clear hz hz2 hstep hx4 hy4
        have g0 : ¬ (y : Int) < 0 := by omega
        by_cases hly : y < l.length
        · obtain ⟨d, hd⟩ : ∃ d, l[y] = d := ⟨_, rfl⟩
          have hdy : l.drop y = d :: l.drop (y + 1) := by rw [List.drop_eq_getElem_cons hly, hd]
          by_cases h41 : d = 41
          · subst h41
            have HF := Lib.hid (show endv l.length (pz (f + 1) (l.drop k)) = (y : Int) + 1 by rw [hval, hdy, if_pos (by simp)]; simp [endv]; omega)
            have e4 : (((l[y]'hly).toNat : Int) == 41) = true := by rw [hd]; rfl
            have e5 : (((l[y]'hly).toNat : Int) != 41) = false := by rw [hd]; rfl
            have g2 : ¬ l.length ≤ y := by omega
            clear hd hdy hval
            go_enter Try.func82, Try.ntmps82
            go_wp2_with fail
            refine HI.out.mono ?_
            rintro e w' ⟨rfl, rfl⟩
            go_wp2_with fail
            refine HJ.out.mono ?_
            rintro e w' ⟨rfl, rfl⟩
            go_wp2_with fail
            · exfalso
              have h : (y : Int) < 0 ∨ (((l[y]'hly).toNat : Int) != 41) = true := by assumption
              rcases h with h | h
              · omega
              · rw [e5] at h; cases h
            · go_ret
              exact ⟨ret_int HF.out.symm, rfl⟩
          · have HF := Lib.hid (show endv l.length (pz (f + 1) (l.drop k)) = -1 by rw [hval, hdy, if_neg (by simpa using h41)]; rfl)
            have e4 : (((l[y]'hly).toNat : Int) == 41) = false := by rw [hd]; exact u8n h41
            have e5 : (((l[y]'hly).toNat : Int) != 41) = true := by rw [bne, e4]; rfl
            have g2 : ¬ l.length ≤ y := by omega
            clear hd hdy hval h41
            go_enter Try.func82, Try.ntmps82
            go_wp2_with fail
            refine HI.out.mono ?_
            rintro e w' ⟨rfl, rfl⟩
            go_wp2_with fail
            refine HJ.out.mono ?_
            rintro e w' ⟨rfl, rfl⟩
            go_wp2_with fail
            · go_ret
              exact ⟨ret_int HF.out.symm, rfl⟩
            · exfalso
              have h : (0 : Int) ≤ (y : Int) ∧ (((l[y]'hly).toNat : Int) != 41) = false := by assumption
              rw [e5] at h; cases h.2
        · have HF := Lib.hid (show endv l.length (pz (f + 1) (l.drop k)) = -1 by rw [hval, List.drop_eq_nil_of_le (by omega)]; rfl)
          clear hval
          go_enter Try.func82, Try.ntmps82
          go_wp2_with fail
          refine HI.out.mono ?_
          rintro e w' ⟨rfl, rfl⟩
          go_wp2_with fail
          refine HJ.out.mono ?_
          rintro e w' ⟨rfl, rfl⟩
          go_wp2_with fail
          go_ret
          exact ⟨ret_int HF.out.symm, rfl⟩
      · have HF := Lib.hid (show endv l.length (pz (f + 1) (l.drop k)) = -1 by rw [hdr, pz, if_neg h46, if_neg h40]; rfl)
        have e2 : (((l[k]'hlt).toNat : Int) == 40) = false := by rw [hc]; exact u8n h40
        have e3 : (((l[k]'hlt).toNat : Int) != 40) = true := by rw [bne, e2]; rfl
        clear hc hdr h46 h40
        go_enter Try.func82, Try.ntmps82
        go_wp2_with fail
        go_ret
        exact ⟨ret_int HF.out.symm, rfl⟩
    · have HF := Lib.hid (show endv l.length (pz (f + 1) (l.drop k)) = -1 by rw [List.drop_eq_nil_of_le (by omega)]; rfl)
      go_enter Try.func82, Try.ntmps82
      go_wp2_with fail
      go_ret
      exact ⟨ret_int HF.out.symm, rfl⟩
/-- At a place where a tree's text begins. -/
theorem l6End_sub (l : List UInt8) (k x : Nat) (t : Tr) (r : List UInt8) (w : World) (hl : l.length ≤ 1000000000) (h : l.drop k = tx t ++ r) (hx : x = k + (tx t).length) :
    Calls Try.prog 82 #[.string (bs l), .int .i64 k] w fun e w' => e = .returned (.int .i64 (x : Int)) ∧ w = w' := by
  have hlen := congrArg List.length h
  simp only [List.length_drop, List.length_append] at hlen
  have ht := tx_len t
  have := l6End_any l hl (l.length + 1) k w (by omega) (by omega)
  rw [h, pz_tree t (by omega)] at this
  have e : endv l.length (some (sh t, r)) = (x : Int) := by simp only [endv]; omega
  rw [e] at this
  exact this

theorem specIsBinary_any (l : List UInt8) (w : World) (hl : l.length ≤ 1000000000) :
    Calls Try.prog 43 #[.string (bs l)] w fun e w' => e = .returned (.bool (isB l)) ∧ w = w' := by
  by_cases h25 : l.length ≤ 25
  · obtain ⟨E, hE⟩ : ∃ E, E = endv l.length (pz (l.length + 1) l) := ⟨_, rfl⟩
    have hI := l6End_any l hl (l.length + 1) 0 w (by omega) (Nat.zero_le _)
    rw [List.drop_zero, ← hE] at hI
    have HI0 := Lib.hid (show Calls Try.prog 82 #[.string (bs l), .int .i64 0] w fun e w' => e = .returned (.int .i64 E) ∧ w = w' from hI)
    have hB : isB l = (E == (l.length : Int)) := by rw [isB_eq, ← hE, decide_eq_true h25, Bool.true_and]
    by_cases hEl : E = (l.length : Int)
    · have h0 : l ≠ [] := by
        rintro rfl
        rw [hEl] at hE
        cases hE
      have HF := Lib.hid (show isB l = true by rw [hB, hEl]; simp)
      subst hEl
      have HI := Lib.hid (show Calls Try.prog 82 #[.string (bs l), .int .i64 0] w fun e w' => e = .returned (.int .i64 (l.length : Int)) ∧ w = w' from hI)
      have h1 : (l == []) = false := by simpa using h0
      have h2 : l.isEmpty = false := by simpa using h0
      clear hI hB hE HI0
      go_enter Try.func43, Try.ntmps43
      go_wp2_with fail
      refine HI.out.mono ?_
      rintro e w' ⟨rfl, rfl⟩
      go_wp2_with fail
      go_ret
      exact ⟨ret_bool (by rw [HF.out]), rfl⟩
    · have HF := Lib.hid (show isB l = false by rw [hB]; simpa using hEl)
      have e1 : (E == (l.length : Int)) = false := by simpa using hEl
      clear hI hB hE hEl
      go_enter Try.func43, Try.ntmps43
      go_wp2_with fail
      refine HI0.out.mono ?_
      rintro e w' ⟨rfl, rfl⟩
      go_wp2_with fail
      go_ret
      exact ⟨ret_bool (by rw [HF.out]), rfl⟩
  · have HF := Lib.hid (show isB l = false by rw [isB_eq, decide_eq_false h25]; rfl)
    go_enter Try.func43, Try.ntmps43
    go_wp2_with fail
    go_ret
    exact ⟨ret_bool (by rw [HF.out]), rfl⟩

theorem specNodesOf_any (l : List UInt8) (w : World) (hl : l.length ≤ 1000000000) :
    Calls Try.prog 13 #[.string (bs l)] w fun e w' => e = .returned (.int .i64 (nodesB l)) ∧ w = w' := by
  rcases isB_cases l with hb | ⟨t, ht, h8, _⟩
  · have HF := Lib.hid (nodesB_no hb)
    have HB := Lib.hid hb
    clear hb
    go_enter Try.func13, Try.ntmps13
    go_wp2_with fail
    refine (specIsBinary_any _ _ hl).mono ?_
    rintro e w' ⟨rfl, rfl⟩
    rw [HB.out]
    go_wp2_with fail
    go_ret
    exact ⟨ret_int (by rw [HF.out]), rfl⟩
  · have hln : l.length = 3 * nodes t + 1 := by rw [ht, tx_len]
    have HF := Lib.hid (show nodesB l = nodes t by rw [ht, nodesB_tx h8])
    have HB := Lib.hid (show isB l = true by rw [ht, isB_tx h8])
    have h1 : 1 ≤ l.length := by omega
    have HL := Lib.hid hln
    clear ht hln
    go_enter Try.func13, Try.ntmps13
    go_wp2_with fail
    refine (specIsBinary_any _ _ hl).mono ?_
    rintro e w' ⟨rfl, rfl⟩
    rw [HB.out]
    go_wp2_with fail
    go_ret
    have := HL.out
    exact ⟨ret_int (by rw [HF.out]; omega), rfl⟩

/-- What the parts of a tree's text are. -/
structure Cut (L : List UInt8) (x : Nat) (l r : Tr) : Prop where
  at1 : L.drop 1 = tx l ++ (tx r ++ [41])
  x_eq : x = 1 + (tx l).length
  left : List.take (x - 1) (List.drop 1 L) = tx l
  right : List.take (L.length - 1 - x) (List.drop x L) = tx r
  len : L.length = 3 * (nodes l + nodes r + 1) + 1
  xn : x = 3 * nodes l + 2
  ne : (L == [46]) = false
theorem cut_of (b o : Nat) (a : Unit) (l r : Tr) : ∃ L x, L = tx (.node b o a l r) ∧ Cut L x l r := by
  refine ⟨_, 1 + (tx l).length, rfl, ?_⟩
  have h1 : (tx (.node b o a l r)).drop 1 = tx l ++ (tx r ++ [41]) := by simp [tx]
  have hl := tx_len l
  have hr := tx_len r
  have hn : (tx (.node b o a l r)).length = 3 * (nodes l + nodes r + 1) + 1 := tx_len _
  refine ⟨h1, rfl, ?_, ?_, hn, by omega, by simp [tx]⟩
  · rw [h1, Nat.add_sub_cancel_left, List.take_left]
  · rw [← List.drop_drop, h1, List.drop_left, show (tx (.node b o a l r)).length - 1 - (1 + (tx l).length) = (tx r).length by omega, List.take_left]

set_option maxHeartbeats 1000000 in
theorem l16Node_any (t : Tr) : ∀ (v : Nat) (w : World), v < nodes t → nodes t ≤ 1000000 →
    Calls Try.prog 81 #[.string (bs (tx t)), .int .i64 v] w fun e w' => e = .returned (.string (bs (tx (nodeAt t v)))) ∧ w = w' := by
  induction t with
  | nil => intro v w h; simp [nodes] at h
  | node b o a l r ihl ihr =>
    intro v w hv hn
    have hnv : v < nodes l + nodes r + 1 := hv
    have hnn : nodes l + nodes r + 1 ≤ 1000000 := hn
    obtain ⟨L, x, hL, hc⟩ := cut_of b o a l r
    rw [← hL]
    have HIL := Lib.hid ihl
    have HIR := Lib.hid ihr
    have HEL := Lib.hid hL
    have HC := Lib.hid hc
    have hlen := hc.len
    have hxn := hc.xn
    have hL9 : L.length ≤ 1000000000 := by omega
    have hx1 : 1 ≤ x := by omega
    have hx2 : x ≤ L.length - 1 := by omega
    have hx3 : 1 ≤ L.length := by omega
    have hl1 := tx_len l
    obtain ⟨X, hX⟩ : ∃ X, X = tx l := ⟨_, rfl⟩
    obtain ⟨Y, hY⟩ : ∃ Y, Y = tx r := ⟨_, rfl⟩
    obtain ⟨nl, hnl⟩ : ∃ nl, nl = nodes l := ⟨_, rfl⟩
    have s1 : List.take (x - 1) L.tail = X := by rw [hX, ← List.drop_one]; exact hc.left
    have s2 : List.take (L.length - 1 - x) (List.drop x L) = Y := by rw [hY]; exact hc.right
    have e3 : ((X.length : Int) - 1) / 3 = (nl : Int) := by rw [hX, hl1, hnl]; omega
    have hXl : 1 ≤ X.length ∧ X.length ≤ 3000001 := by rw [hX, hl1]; omega
    rw [← hnl] at hnv hnn
    have HX := Lib.hid hX
    have HY := Lib.hid hY
    have HNL := Lib.hid hnl
    clear hX hY hc hL ihl ihr hl1 hlen hxn hnl hv hn
    go_enter Try.func81, Try.ntmps81
    go_wp2_with fail
    refine (l6End_sub _ 1 x l _ _ hL9 HC.out.at1 HC.out.x_eq).mono ?_
    rintro e w' ⟨rfl, rfl⟩
    go_wp2_with fail
    · have hlt : v < nl := by assumption
      rw [HX.out]
      refine (HIL.out v w (by rw [← HNL.out]; exact hlt) (by rw [← HNL.out]; omega)).mono ?_
      rintro e w' ⟨rfl, rfl⟩
      go_wp2_with fail
      go_ret
      exact ⟨ret_str (by rw [nodeAt, if_pos (by rw [← HNL.out]; exact hlt)]), rfl⟩
    · have hgt : nl < v := by assumption
      rw [HY.out, show (v : Int) - nl - 1 = ((v - nl - 1 : Nat) : Int) by omega]
      refine (HIR.out (v - nl - 1) w (by omega) (by omega)).mono ?_
      rintro e w' ⟨rfl, rfl⟩
      go_wp2_with fail
      go_ret
      exact ⟨ret_str (by rw [nodeAt, if_neg (by rw [← HNL.out]; omega), if_neg (by rw [← HNL.out]; omega), HNL.out]), rfl⟩
    · have h1 : ¬ v < nl := by assumption
      have h2 : ¬ nl < v := by assumption
      go_ret
      exact ⟨ret_str (by rw [HEL.out, nodeAt, if_neg (by rw [← HNL.out]; exact h1), if_pos (by rw [← HNL.out]; omega)]), rfl⟩

theorem specNodeAt_any (l : List UInt8) (v : Int) (w : World) (hl : l.length ≤ 1000000000) :
    Calls Try.prog 50 #[.string (bs l), .int .i64 v] w fun e w' => e = .returned (.tuple #[.string (bs (nodeAtB l v).1), .bool (nodeAtB l v).2]) ∧ w = w' := by
  have hnb : -1 ≤ nodesB l ∧ nodesB l ≤ 8 := by
    rcases isB_cases l with hb | ⟨t, rfl, h8, _⟩
    · rw [nodesB_no hb]; omega
    · rw [nodesB_tx h8]; omega
  obtain ⟨n, hn⟩ : ∃ n, n = nodesB l := ⟨_, rfl⟩
  rw [← hn] at hnb
  have HN := Lib.hid hn.symm
  rcases hi : inB v 0 (n - 1) with _ | _
  · have HF := Lib.hid (show nodeAtB l v = ([], false) by
      have := inB_not.1 hi
      rcases isB_cases l with hb | ⟨t, rfl, h8, _⟩
      · rw [nodeAtB, atB_no hb]; rfl
      · rw [nodesB_tx h8] at hn
        rw [nodeAtB, atB_out h8 (by omega)]; rfl)
    have HI := Lib.hid hi
    clear hi hn
    go_enter Try.func50, Try.ntmps50
    go_wp2_with fail
    refine (specNodesOf_any _ _ hl).mono ?_
    rintro e w' ⟨rfl, rfl⟩
    rw [HN.out]
    go_wp2_with fail
    refine (l1In_any _ _ _ _).mono ?_
    rintro e w' ⟨rfl, rfl⟩
    rw [HI.out]
    go_wp2_with fail
    go_ret2
    exact ⟨by rw [HF.out]; rfl, rfl⟩
  · have hin := inB_iff.1 hi
    rcases isB_cases l with hb | ⟨t, rfl, h8, hs⟩
    · rw [nodesB_no hb] at hn
      omega
    rw [nodesB_tx h8] at hn
    obtain ⟨N, rfl⟩ := Int.eq_ofNat_of_zero_le hin.1
    have hNt : N < nodes t := by omega
    have HF := Lib.hid (show nodeAtB (tx t) (N : Int) = (tx (nodeAt t N), true) by rw [nodeAtB, atB_in h8 hs hNt]; rfl)
    have HI := Lib.hid hi
    clear hi hn hs
    go_enter Try.func50, Try.ntmps50
    go_wp2_with fail
    refine (specNodesOf_any _ _ hl).mono ?_
    rintro e w' ⟨rfl, rfl⟩
    rw [HN.out]
    go_wp2_with fail
    refine (l1In_any _ _ _ _).mono ?_
    rintro e w' ⟨rfl, rfl⟩
    rw [HI.out]
    go_wp2_with fail
    refine (l16Node_any t N w hNt (by omega)).mono ?_
    rintro e w' ⟨rfl, rfl⟩
    go_wp2_with fail
    go_ret2
    exact ⟨by rw [HF.out]; rfl, rfl⟩

end Go.Proofs.Ytiebaoglcdbopaa
