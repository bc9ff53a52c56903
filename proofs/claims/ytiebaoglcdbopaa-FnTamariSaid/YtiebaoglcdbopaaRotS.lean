/- The reference's l16Replace, RotateRight, RotateLeft. -/
import Derived.Test.YtiebaoglcdbopaaTreeS
namespace Go.Proofs.Ytiebaoglcdbopaa
open Go.RowKit Go.Deep

set_option maxHeartbeats 2000000 in
theorem l16Replace_any (t x : Tr) : ∀ (v : Nat) (w : World), v < nodes t → nodes t ≤ 1000000 → nodes x ≤ 1000000 →
    Calls Try.prog 83 #[.string (bs (tx t)), .int .i64 v, .string (bs (tx x))] w fun e w' => e = .returned (.string (bs (tx (replAt t v x)))) ∧ w = w' := by
  induction t with
  | nil => intro v w h; simp [nodes] at h
  | node b o a l r ihl ihr =>
    intro v w hv hn hx
    have hnv : v < nodes l + nodes r + 1 := hv
    have hnn : nodes l + nodes r + 1 ≤ 1000000 := hn
    obtain ⟨L, k, hL, hc⟩ := cut_of b o a l r
    rw [← hL]
    have HC := Lib.hid hc
    have hl1 := tx_len l
    have hr1 := tx_len r
    have L9 : L.length ≤ 1000000000 := by have := hc.len; omega
    obtain ⟨X, hX⟩ : ∃ X, X = tx l := ⟨_, rfl⟩
    obtain ⟨Y, hY⟩ : ∃ Y, Y = tx r := ⟨_, rfl⟩
    have Ls1 : List.take (k - 1) L.tail = X := by rw [hX, ← List.drop_one]; exact hc.left
    have Ls1' : List.take (k - 1) (List.drop 1 L) = X := by rw [hX]; exact hc.left
    have Ls2 : List.take (L.length - 1 - k) (List.drop k L) = Y := by rw [hY]; exact hc.right
    have Le1 : IntKind.i64.wrap ((L.length : Int) - 1) = (L.length : Int) - 1 := IntWalk.i64_in _ (by omega)
    have Le2 : ((L.length : Int) - 1).toNat = L.length - 1 := by have := hc.len; omega
    have Lb1 : (0 : Int) ≤ (L.length : Int) - 1 := by have := hc.len; omega
    have Lb2 : (k : Int) ≤ (L.length : Int) - 1 := by have := hc.len; have := hc.xn; omega
    have Lb3 : (L.length : Int) - 1 ≤ (L.length : Int) := by omega
    have Lb4 : (0 : Int) ≤ (k : Int) := by omega
    have Lb5 : (1 : Int) ≤ (k : Int) := by have := hc.xn; omega
    have Lb6 : (k : Int) ≤ (L.length : Int) := by omega
    have Lf0 : 1 ≤ k := by have := hc.xn; omega
    have Lf1 : k < L.length := by have := hc.len; have := hc.xn; omega
    have Lf2 : 0 < L.length := by omega
    have Lf3 : ¬ L = [] := by intro h; rw [h] at Lf2; simp at Lf2
    have Lf5 : (k : Int) < (L.length : Int) := by omega
    have Lf6 : k ≤ L.length := by omega
    have Lf7 : (1 : Int) ≤ (L.length : Int) := by omega
    have Lf8 : k ≤ L.length - 1 := by omega
    have HX := Lib.hid hX
    have HY := Lib.hid hY
    obtain ⟨Z, hZ⟩ : ∃ Z, Z = tx x := ⟨_, rfl⟩
    rw [← hZ]
    obtain ⟨nl, hnl⟩ : ∃ nl, nl = nodes l := ⟨_, rfl⟩
    have e3 : ((X.length : Int) - 1) / 3 = (nl : Int) := by rw [hX, hl1, hnl]; omega
    have e3' : Int.tdiv ((X.length : Int) - 1) 3 = (nl : Int) := by rw [Int.tdiv_eq_ediv_of_nonneg (by rw [hX, hl1]; omega)]; exact e3
    have hXl : 1 ≤ X.length ∧ X.length ≤ 3000001 := by rw [hX, hl1]; omega
    have hYl : Y.length ≤ 3000001 := by rw [hY, hr1]; omega
    have hXl2 := hXl.2
    rw [← hnl] at hnv hnn
    have HEL := Lib.hid hL
    rcases Nat.lt_trichotomy v nl with h | h | h
    · obtain ⟨P, hP⟩ : ∃ P, P = tx (replAt l v x) := ⟨_, rfl⟩
      have hPl : P.length ≤ 6000001 := by rw [hP, tx_len]; have := nodes_repl l v x (by omega); omega
      have HI := Lib.hid (show ∀ w, Calls Try.prog 83 #[.string (bs X), .int .i64 v, .string (bs Z)] w fun e w' => e = .returned (.string (bs P)) ∧ w = w' by rw [hX, hZ, hP]; exact fun w => ihl v w (by omega) (by omega) hx)
      have HF := Lib.hid (show tx (replAt (.node b o a l r) v x) = [40] ++ P ++ Y ++ [41] by rw [replAt, if_pos (by omega), hP, hY]; rfl)
      clear hP hZ hX hY hc hL ihl ihr hl1 hr1 hnl hv hn hx
      go_enter Try.func83, Try.ntmps83
      go_wp2_with fail
      refine (l6End_sub _ 1 k l _ _ L9 HC.out.at1 HC.out.x_eq).mono ?_
      rintro e w' ⟨rfl, rfl⟩
      go_wp2_with fail
      refine (HI.out _).mono ?_
      rintro e w' ⟨rfl, rfl⟩
      go_wp2_with fail
      go_ret
      refine ⟨?_, rfl⟩
      rw [HF.out]
      show _ = _
      rw [bs_lit, bs_lit, bs_append, bs_append, bs_append]
      rfl
    · have HF := Lib.hid (show tx (replAt (.node b o a l r) v x) = Z by rw [replAt, if_neg (by omega), if_pos (by omega), hZ])
      have g1 : ¬ v < nl := by omega
      have g2 : ¬ nl < v := by omega
      have HE := Lib.hid h
      clear h hZ hX hY hc hL ihl ihr hl1 hr1 hnl hv hn hx
      go_enter Try.func83, Try.ntmps83
      go_wp2_with fail
      refine (l6End_sub _ 1 k l _ _ L9 HC.out.at1 HC.out.x_eq).mono ?_
      rintro e w' ⟨rfl, rfl⟩
      go_wp2_with fail
      go_ret
      exact ⟨ret_str (by rw [HF.out]), rfl⟩
    · obtain ⟨P, hP⟩ : ∃ P, P = tx (replAt r (v - nl - 1) x) := ⟨_, rfl⟩
      have hPl : P.length ≤ 6000001 := by rw [hP, tx_len]; have := nodes_repl r (v - nl - 1) x (by omega); omega
      have HI := Lib.hid (show ∀ w, Calls Try.prog 83 #[.string (bs Y), .int .i64 ((v : Int) - nl - 1), .string (bs Z)] w fun e w' => e = .returned (.string (bs P)) ∧ w = w' by
        rw [hY, hZ, hP, show (v : Int) - nl - 1 = ((v - nl - 1 : Nat) : Int) by omega]; exact fun w => ihr _ w (by omega) (by omega) hx)
      have HF := Lib.hid (show tx (replAt (.node b o a l r) v x) = [40] ++ X ++ P ++ [41] by rw [replAt, if_neg (by omega), if_neg (by omega), hP, hX, hnl]; rfl)
      have g1 : ¬ v < nl := by omega
      have w1 : IntKind.i64.wrap ((v : Int) - nl) = (v : Int) - nl := IntWalk.i64_in _ (by omega)
      have w2 : IntKind.i64.wrap ((v : Int) - nl - 1) = (v : Int) - nl - 1 := IntWalk.i64_in _ (by omega)
      clear hP hZ hX hY hc hL ihl ihr hl1 hr1 hnl hv hn hx
      go_enter Try.func83, Try.ntmps83
      go_wp2_with fail
      refine (l6End_sub _ 1 k l _ _ L9 HC.out.at1 HC.out.x_eq).mono ?_
      rintro e w' ⟨rfl, rfl⟩
      go_wp2_with fail
      refine (HI.out _).mono ?_
      rintro e w' ⟨rfl, rfl⟩
      go_wp2_with fail
      go_ret
      refine ⟨?_, rfl⟩
      rw [HF.out]
      show _ = _
      rw [bs_lit, bs_lit, bs_append, bs_append, bs_append]
      rfl


set_option maxHeartbeats 2000000 in
theorem specRotateRight_any (l : List UInt8) (v : Int) (w : World) (hl : l.length ≤ 1000000000) :
    Calls Try.prog 35 #[.string (bs l), .int .i64 v] w fun e w' => e = .returned (.tuple #[.string (bs (rotRB l v).1), .bool (rotRB l v).2]) ∧ ∃ n, w' = w.drewN n := by
  have hnb : -1 ≤ nodesB l ∧ nodesB l ≤ 8 := by
    rcases isB_cases l with hb | ⟨t, rfl, h8, _⟩
    · rw [nodesB_no hb]; omega
    · rw [nodesB_tx h8]; omega
  obtain ⟨n, hn⟩ : ∃ n, n = nodesB l := ⟨_, rfl⟩
  rw [← hn] at hnb
  have HN := Lib.hid hn.symm
  rcases hi : inB v 0 (n - 1) with _ | _
  · have HF := Lib.hid (show rotRB l v = ([], false) by
      have := inB_not.1 hi
      rcases isB_cases l with hb | ⟨t, rfl, h8, _⟩
      · rw [rotRB, atB_no hb]; rfl
      · rw [nodesB_tx h8] at hn
        rw [rotRB, atB_out h8 (by omega)]; rfl)
    have HI := Lib.hid hi
    clear hi hn
    go_enter Try.func35, Try.ntmps35
    go_wp2_with fail
    refine (specNodesOf_any _ _ hl).mono ?_
    rintro e w' ⟨rfl, rfl⟩
    rw [HN.out]
    go_wp2_with fail
    refine (l1In_any _ _ _ _).mono ?_
    rintro e w' ⟨rfl, rfl⟩
    rw [HI.out]
    go_wp2_with fail
    go_ret2
    exact ⟨by rw [HF.out]; rfl, 0, rfl⟩
  · have hin := inB_iff.1 hi
    rcases isB_cases l with hb | ⟨t, rfl, h8, hs⟩
    · rw [nodesB_no hb] at hn
      omega
    rw [nodesB_tx h8] at hn
    obtain ⟨N, rfl⟩ := Int.eq_ofNat_of_zero_le hin.1
    have hNt : N < nodes t := by omega
    have hB : rotRB (tx t) (N : Int) = oT (rotR t N) := by rw [rotRB, atB_in h8 hs hNt]
    have hle := nodeAt_le t N
    obtain ⟨b, o, a, sl, sr, hS⟩ := nodeAt_node hNt
    have hsn : nodes sl + nodes sr + 1 ≤ 8 := by rw [hS] at hle; exact Nat.le_trans hle h8
    obtain ⟨L, k, hL, hc⟩ := cut_of b o a sl sr
    have HNA := Lib.hid (show ∀ w, Calls Try.prog 81 #[.string (bs (tx t)), .int .i64 (N : Int)] w fun e w' => e = .returned (.string (bs L)) ∧ w = w' by
      rw [hL, ← hS]; exact fun w => l16Node_any t N w hNt (by omega))
    have HC := Lib.hid hc
    have hl1 := tx_len sl
    have hr1 := tx_len sr
    have HI := Lib.hid hi
    have L9 : L.length ≤ 1000000000 := by have := hc.len; omega
    obtain ⟨X, hX⟩ : ∃ X, X = tx sl := ⟨_, rfl⟩
    obtain ⟨Y, hY⟩ : ∃ Y, Y = tx sr := ⟨_, rfl⟩
    have Ls1 : List.take (k - 1) L.tail = X := by rw [hX, ← List.drop_one]; exact hc.left
    have Ls1' : List.take (k - 1) (List.drop 1 L) = X := by rw [hX]; exact hc.left
    have Ls2 : List.take (L.length - 1 - k) (List.drop k L) = Y := by rw [hY]; exact hc.right
    have Le1 : IntKind.i64.wrap ((L.length : Int) - 1) = (L.length : Int) - 1 := IntWalk.i64_in _ (by omega)
    have Le2 : ((L.length : Int) - 1).toNat = L.length - 1 := by have := hc.len; omega
    have Lb1 : (0 : Int) ≤ (L.length : Int) - 1 := by have := hc.len; omega
    have Lb2 : (k : Int) ≤ (L.length : Int) - 1 := by have := hc.len; have := hc.xn; omega
    have Lb3 : (L.length : Int) - 1 ≤ (L.length : Int) := by omega
    have Lb4 : (0 : Int) ≤ (k : Int) := by omega
    have Lb5 : (1 : Int) ≤ (k : Int) := by have := hc.xn; omega
    have Lb6 : (k : Int) ≤ (L.length : Int) := by omega
    have Lf0 : 1 ≤ k := by have := hc.xn; omega
    have Lf1 : k < L.length := by have := hc.len; have := hc.xn; omega
    have Lf2 : 0 < L.length := by omega
    have Lf3 : ¬ L = [] := by intro h; rw [h] at Lf2; simp at Lf2
    have Lf5 : (k : Int) < (L.length : Int) := by omega
    have Lf6 : k ≤ L.length := by omega
    have Lf7 : (1 : Int) ≤ (L.length : Int) := by omega
    have Lf8 : k ≤ L.length - 1 := by omega
    have HX := Lib.hid hX
    have HY := Lib.hid hY
    rcases sl with _ | ⟨b2, o2, a2, A, B⟩
    · have HF := Lib.hid (show rotRB (tx t) (N : Int) = ([], false) by rw [hB, rotR, hS]; rfl)
      have hne : (X == [46]) = true := by rw [hX]; rfl
      clear hB hS hL hc hX hY hi hn hs hle hin hl1 hr1
      go_enter Try.func35, Try.ntmps35
      go_wp2_with fail
      refine (specNodesOf_any _ _ hl).mono ?_
      rintro e w' ⟨rfl, rfl⟩
      rw [HN.out]
      go_wp2_with fail
      refine (l1In_any _ _ _ _).mono ?_
      rintro e w' ⟨rfl, rfl⟩
      rw [HI.out]
      go_wp2_with fail
      refine (HNA.out _).mono ?_
      rintro e w' ⟨rfl, rfl⟩
      go_wp2_with fail
      refine (l6End_sub _ 1 k _ _ _ L9 HC.out.at1 HC.out.x_eq).mono ?_
      rintro e w' ⟨rfl, rfl⟩
      go_wp2_with fail
      go_ret2
      exact ⟨by rw [HF.out]; rfl, 0, rfl⟩
    · have hAB : nodes A + nodes B ≤ 8 := by simp only [nodes] at hsn; omega
      obtain ⟨M, j, hM, hd⟩ := cut_of b2 o2 a2 A B
      have hMe : X = M := by rw [hX, hM]
      have HDC := Lib.hid hd
      have hne : (M == [46]) = false := hd.ne
      have M9 : M.length ≤ 1000000000 := by have := hd.len; omega
      obtain ⟨P, hP⟩ : ∃ P, P = tx A := ⟨_, rfl⟩
      obtain ⟨Q, hQ⟩ : ∃ Q, Q = tx B := ⟨_, rfl⟩
      have Ms1 : List.take (j - 1) M.tail = P := by rw [hP, ← List.drop_one]; exact hd.left
      have Ms1' : List.take (j - 1) (List.drop 1 M) = P := by rw [hP]; exact hd.left
      have Ms2 : List.take (M.length - 1 - j) (List.drop j M) = Q := by rw [hQ]; exact hd.right
      have Me1 : IntKind.i64.wrap ((M.length : Int) - 1) = (M.length : Int) - 1 := IntWalk.i64_in _ (by omega)
      have Me2 : ((M.length : Int) - 1).toNat = M.length - 1 := by have := hd.len; omega
      have Mb1 : (0 : Int) ≤ (M.length : Int) - 1 := by have := hd.len; omega
      have Mb2 : (j : Int) ≤ (M.length : Int) - 1 := by have := hd.len; have := hd.xn; omega
      have Mb3 : (M.length : Int) - 1 ≤ (M.length : Int) := by omega
      have Mb4 : (0 : Int) ≤ (j : Int) := by omega
      have Mb5 : (1 : Int) ≤ (j : Int) := by have := hd.xn; omega
      have Mb6 : (j : Int) ≤ (M.length : Int) := by omega
      have Mf0 : 1 ≤ j := by have := hd.xn; omega
      have Mf1 : j < M.length := by have := hd.len; have := hd.xn; omega
      have Mf2 : 0 < M.length := by omega
      have Mf3 : ¬ M = [] := by intro h; rw [h] at Mf2; simp at Mf2
      have Mf5 : (j : Int) < (M.length : Int) := by omega
      have Mf6 : j ≤ M.length := by omega
      have Mf7 : (1 : Int) ≤ (M.length : Int) := by omega
      have Mf8 : j ≤ M.length - 1 := by omega
      have HP := Lib.hid hP
      have HQ := Lib.hid hQ
      have HF := Lib.hid (show rotRB (tx t) (N : Int) = (tx (replAt t N (.node 0 0 () A (.node 0 0 () B sr))), true) by rw [hB, rotR, hS]; rfl)
      have hZ : tx (.node 0 0 () A (.node 0 0 () B sr)) = [40] ++ P ++ [40] ++ Q ++ Y ++ [41, 41] := by simp [tx, hP, hQ, hY]
      have hnz : nodes ((.node 0 0 () A (.node 0 0 () B sr)) : Tr) ≤ 1000000 := by simp only [nodes] at hsn ⊢; omega
      obtain ⟨Z, hZe⟩ : ∃ Z, Z = [40] ++ P ++ [40] ++ Q ++ Y ++ [41, 41] := ⟨_, rfl⟩
      have HI2 := Lib.hid (show ∀ w, Calls Try.prog 83 #[.string (bs (tx t)), .int .i64 (N : Int), .string (bs Z)] w fun e w' => e = .returned (.string (bs (tx (replAt t N (.node 0 0 () A (.node 0 0 () B sr)))))) ∧ w = w' by
        rw [hZe, ← hZ]; exact fun w => l16Replace_any t _ N w hNt (by omega) hnz)
      have hA := tx_len A
      have hB2 := tx_len B
      have hPl : P.length ≤ 100 := by rw [hP, hA]; simp only [nodes] at hsn; omega
      have hQl : Q.length ≤ 100 := by rw [hQ, hB2]; simp only [nodes] at hsn; omega
      have hOl : Y.length ≤ 100 := by rw [hY, hr1]; simp only [nodes] at hsn; omega
      have HZ := Lib.hid hZe
      subst hMe
      clear hZ hZe hB hS hL hc hd hM hP hQ hX hY hi hn hs hle hin hl1 hr1 hA hB2 hnz
      go_enter Try.func35, Try.ntmps35
      go_wp2_with fail
      refine (specNodesOf_any _ _ hl).mono ?_
      rintro e w' ⟨rfl, rfl⟩
      rw [HN.out]
      go_wp2_with fail
      refine (l1In_any _ _ _ _).mono ?_
      rintro e w' ⟨rfl, rfl⟩
      rw [HI.out]
      go_wp2_with fail
      refine (HNA.out _).mono ?_
      rintro e w' ⟨rfl, rfl⟩
      go_wp2_with fail
      refine (l6End_sub _ 1 k _ _ _ L9 HC.out.at1 HC.out.x_eq).mono ?_
      rintro e w' ⟨rfl, rfl⟩
      go_wp2_with fail
      refine (l6End_sub _ 1 j _ _ _ M9 HDC.out.at1 HDC.out.x_eq).mono ?_
      rintro e w' ⟨rfl, rfl⟩
      go_wp2_with fail
      go_quiet (fail)
      go_wp2_with fail
      rw [show ({ data := #[40] } ++ bs P ++ { data := #[40] } ++ bs Q ++ bs Y ++ { data := #[41, 41] } : ByteArray) = bs Z from by rw [HZ.out]; apply ByteArray.ext; simp [bs]]
      refine (HI2.out _).mono ?_
      rintro e w' ⟨rfl, rfl⟩
      go_wp2_with fail
      go_ret2
      exact ⟨by rw [HF.out]; rfl, _, rfl⟩

set_option maxHeartbeats 2000000 in
theorem specRotateLeft_any (l : List UInt8) (v : Int) (w : World) (hl : l.length ≤ 1000000000) :
    Calls Try.prog 37 #[.string (bs l), .int .i64 v] w fun e w' => e = .returned (.tuple #[.string (bs (rotLB l v).1), .bool (rotLB l v).2]) ∧ ∃ n, w' = w.drewN n := by
  have hnb : -1 ≤ nodesB l ∧ nodesB l ≤ 8 := by
    rcases isB_cases l with hb | ⟨t, rfl, h8, _⟩
    · rw [nodesB_no hb]; omega
    · rw [nodesB_tx h8]; omega
  obtain ⟨n, hn⟩ : ∃ n, n = nodesB l := ⟨_, rfl⟩
  rw [← hn] at hnb
  have HN := Lib.hid hn.symm
  rcases hi : inB v 0 (n - 1) with _ | _
  · have HF := Lib.hid (show rotLB l v = ([], false) by
      have := inB_not.1 hi
      rcases isB_cases l with hb | ⟨t, rfl, h8, _⟩
      · rw [rotLB, atB_no hb]; rfl
      · rw [nodesB_tx h8] at hn
        rw [rotLB, atB_out h8 (by omega)]; rfl)
    have HI := Lib.hid hi
    clear hi hn
    go_enter Try.func37, Try.ntmps37
    go_wp2_with fail
    refine (specNodesOf_any _ _ hl).mono ?_
    rintro e w' ⟨rfl, rfl⟩
    rw [HN.out]
    go_wp2_with fail
    refine (l1In_any _ _ _ _).mono ?_
    rintro e w' ⟨rfl, rfl⟩
    rw [HI.out]
    go_wp2_with fail
    go_ret2
    exact ⟨by rw [HF.out]; rfl, 0, rfl⟩
  · have hin := inB_iff.1 hi
    rcases isB_cases l with hb | ⟨t, rfl, h8, hs⟩
    · rw [nodesB_no hb] at hn
      omega
    rw [nodesB_tx h8] at hn
    obtain ⟨N, rfl⟩ := Int.eq_ofNat_of_zero_le hin.1
    have hNt : N < nodes t := by omega
    have hB : rotLB (tx t) (N : Int) = oT (rotL t N) := by rw [rotLB, atB_in h8 hs hNt]
    have hle := nodeAt_le t N
    obtain ⟨b, o, a, sl, sr, hS⟩ := nodeAt_node hNt
    have hsn : nodes sl + nodes sr + 1 ≤ 8 := by rw [hS] at hle; exact Nat.le_trans hle h8
    obtain ⟨L, k, hL, hc⟩ := cut_of b o a sl sr
    have HNA := Lib.hid (show ∀ w, Calls Try.prog 81 #[.string (bs (tx t)), .int .i64 (N : Int)] w fun e w' => e = .returned (.string (bs L)) ∧ w = w' by
      rw [hL, ← hS]; exact fun w => l16Node_any t N w hNt (by omega))
    have HC := Lib.hid hc
    have hl1 := tx_len sl
    have hr1 := tx_len sr
    have HI := Lib.hid hi
    have L9 : L.length ≤ 1000000000 := by have := hc.len; omega
    obtain ⟨X, hX⟩ : ∃ X, X = tx sl := ⟨_, rfl⟩
    obtain ⟨Y, hY⟩ : ∃ Y, Y = tx sr := ⟨_, rfl⟩
    have Ls1 : List.take (k - 1) L.tail = X := by rw [hX, ← List.drop_one]; exact hc.left
    have Ls1' : List.take (k - 1) (List.drop 1 L) = X := by rw [hX]; exact hc.left
    have Ls2 : List.take (L.length - 1 - k) (List.drop k L) = Y := by rw [hY]; exact hc.right
    have Le1 : IntKind.i64.wrap ((L.length : Int) - 1) = (L.length : Int) - 1 := IntWalk.i64_in _ (by omega)
    have Le2 : ((L.length : Int) - 1).toNat = L.length - 1 := by have := hc.len; omega
    have Lb1 : (0 : Int) ≤ (L.length : Int) - 1 := by have := hc.len; omega
    have Lb2 : (k : Int) ≤ (L.length : Int) - 1 := by have := hc.len; have := hc.xn; omega
    have Lb3 : (L.length : Int) - 1 ≤ (L.length : Int) := by omega
    have Lb4 : (0 : Int) ≤ (k : Int) := by omega
    have Lb5 : (1 : Int) ≤ (k : Int) := by have := hc.xn; omega
    have Lb6 : (k : Int) ≤ (L.length : Int) := by omega
    have Lf0 : 1 ≤ k := by have := hc.xn; omega
    have Lf1 : k < L.length := by have := hc.len; have := hc.xn; omega
    have Lf2 : 0 < L.length := by omega
    have Lf3 : ¬ L = [] := by intro h; rw [h] at Lf2; simp at Lf2
    have Lf5 : (k : Int) < (L.length : Int) := by omega
    have Lf6 : k ≤ L.length := by omega
    have Lf7 : (1 : Int) ≤ (L.length : Int) := by omega
    have Lf8 : k ≤ L.length - 1 := by omega
    have HX := Lib.hid hX
    have HY := Lib.hid hY
    rcases sr with _ | ⟨b2, o2, a2, A, B⟩
    · have HF := Lib.hid (show rotLB (tx t) (N : Int) = ([], false) by rw [hB, rotL, hS]; rfl)
      have hne : (Y == [46]) = true := by rw [hY]; rfl
      clear hB hS hL hc hX hY hi hn hs hle hin hl1 hr1
      go_enter Try.func37, Try.ntmps37
      go_wp2_with fail
      refine (specNodesOf_any _ _ hl).mono ?_
      rintro e w' ⟨rfl, rfl⟩
      rw [HN.out]
      go_wp2_with fail
      refine (l1In_any _ _ _ _).mono ?_
      rintro e w' ⟨rfl, rfl⟩
      rw [HI.out]
      go_wp2_with fail
      refine (HNA.out _).mono ?_
      rintro e w' ⟨rfl, rfl⟩
      go_wp2_with fail
      refine (l6End_sub _ 1 k _ _ _ L9 HC.out.at1 HC.out.x_eq).mono ?_
      rintro e w' ⟨rfl, rfl⟩
      go_wp2_with fail
      go_ret2
      exact ⟨by rw [HF.out]; rfl, 0, rfl⟩
    · have hAB : nodes A + nodes B ≤ 8 := by simp only [nodes] at hsn; omega
      obtain ⟨M, j, hM, hd⟩ := cut_of b2 o2 a2 A B
      have hMe : Y = M := by rw [hY, hM]
      have HDC := Lib.hid hd
      have hne : (M == [46]) = false := hd.ne
      have M9 : M.length ≤ 1000000000 := by have := hd.len; omega
      obtain ⟨P, hP⟩ : ∃ P, P = tx A := ⟨_, rfl⟩
      obtain ⟨Q, hQ⟩ : ∃ Q, Q = tx B := ⟨_, rfl⟩
      have Ms1 : List.take (j - 1) M.tail = P := by rw [hP, ← List.drop_one]; exact hd.left
      have Ms1' : List.take (j - 1) (List.drop 1 M) = P := by rw [hP]; exact hd.left
      have Ms2 : List.take (M.length - 1 - j) (List.drop j M) = Q := by rw [hQ]; exact hd.right
      have Me1 : IntKind.i64.wrap ((M.length : Int) - 1) = (M.length : Int) - 1 := IntWalk.i64_in _ (by omega)
      have Me2 : ((M.length : Int) - 1).toNat = M.length - 1 := by have := hd.len; omega
      have Mb1 : (0 : Int) ≤ (M.length : Int) - 1 := by have := hd.len; omega
      have Mb2 : (j : Int) ≤ (M.length : Int) - 1 := by have := hd.len; have := hd.xn; omega
      have Mb3 : (M.length : Int) - 1 ≤ (M.length : Int) := by omega
      have Mb4 : (0 : Int) ≤ (j : Int) := by omega
      have Mb5 : (1 : Int) ≤ (j : Int) := by have := hd.xn; omega
      have Mb6 : (j : Int) ≤ (M.length : Int) := by omega
      have Mf0 : 1 ≤ j := by have := hd.xn; omega
      have Mf1 : j < M.length := by have := hd.len; have := hd.xn; omega
      have Mf2 : 0 < M.length := by omega
      have Mf3 : ¬ M = [] := by intro h; rw [h] at Mf2; simp at Mf2
      have Mf5 : (j : Int) < (M.length : Int) := by omega
      have Mf6 : j ≤ M.length := by omega
      have Mf7 : (1 : Int) ≤ (M.length : Int) := by omega
      have Mf8 : j ≤ M.length - 1 := by omega
      have HP := Lib.hid hP
      have HQ := Lib.hid hQ
      have HF := Lib.hid (show rotLB (tx t) (N : Int) = (tx (replAt t N (.node 0 0 () (.node 0 0 () sl A) B)), true) by rw [hB, rotL, hS]; rfl)
      have hZ : tx (.node 0 0 () (.node 0 0 () sl A) B) = [40, 40] ++ X ++ P ++ [41] ++ Q ++ [41] := by simp [tx, hP, hQ, hX]
      have hnz : nodes ((.node 0 0 () (.node 0 0 () sl A) B) : Tr) ≤ 1000000 := by simp only [nodes] at hsn ⊢; omega
      obtain ⟨Z, hZe⟩ : ∃ Z, Z = [40, 40] ++ X ++ P ++ [41] ++ Q ++ [41] := ⟨_, rfl⟩
      have HI2 := Lib.hid (show ∀ w, Calls Try.prog 83 #[.string (bs (tx t)), .int .i64 (N : Int), .string (bs Z)] w fun e w' => e = .returned (.string (bs (tx (replAt t N (.node 0 0 () (.node 0 0 () sl A) B))))) ∧ w = w' by
        rw [hZe, ← hZ]; exact fun w => l16Replace_any t _ N w hNt (by omega) hnz)
      have hA := tx_len A
      have hB2 := tx_len B
      have hPl : P.length ≤ 100 := by rw [hP, hA]; simp only [nodes] at hsn; omega
      have hQl : Q.length ≤ 100 := by rw [hQ, hB2]; simp only [nodes] at hsn; omega
      have hOl : X.length ≤ 100 := by rw [hX, hl1]; simp only [nodes] at hsn; omega
      have HZ := Lib.hid hZe
      subst hMe
      clear hZ hZe hB hS hL hc hd hM hP hQ hX hY hi hn hs hle hin hl1 hr1 hA hB2 hnz
      go_enter Try.func37, Try.ntmps37
      go_wp2_with fail
      refine (specNodesOf_any _ _ hl).mono ?_
      rintro e w' ⟨rfl, rfl⟩
      rw [HN.out]
      go_wp2_with fail
      refine (l1In_any _ _ _ _).mono ?_
      rintro e w' ⟨rfl, rfl⟩
      rw [HI.out]
      go_wp2_with fail
      refine (HNA.out _).mono ?_
      rintro e w' ⟨rfl, rfl⟩
      go_wp2_with fail
      refine (l6End_sub _ 1 k _ _ _ L9 HC.out.at1 HC.out.x_eq).mono ?_
      rintro e w' ⟨rfl, rfl⟩
      go_wp2_with fail
      refine (l6End_sub _ 1 j _ _ _ M9 HDC.out.at1 HDC.out.x_eq).mono ?_
      rintro e w' ⟨rfl, rfl⟩
      go_wp2_with fail
      go_quiet (fail)
      go_wp2_with fail
      rw [show ({ data := #[40, 40] } ++ bs X ++ bs P ++ { data := #[41] } ++ bs Q ++ { data := #[41] } : ByteArray) = bs Z from by rw [HZ.out]; apply ByteArray.ext; simp [bs]]
      refine (HI2.out _).mono ?_
      rintro e w' ⟨rfl, rfl⟩
      go_wp2_with fail
      go_ret2
      exact ⟨by rw [HF.out]; rfl, _, rfl⟩

end Go.Proofs.Ytiebaoglcdbopaa
