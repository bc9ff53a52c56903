/- The reference's l16Build, BinaryOfWeights. -/
import Derived.Test.YtiebaoglcdbopaaWtS
import Derived.Test.YtiebaoglcdbopaaSame
namespace Go.Proofs.Ytiebaoglcdbopaa
open Go.RowKit Go.Deep

/-- A front part and a back part of a slice that is read. -/
theorem Rd.front {w : World} {b off n k : Nat} {xs : List Int} (h : Rd w (some ⟨b, off, none⟩) n (iv xs)) (hk : k ≤ n) : Rd w (some ⟨b, off, none⟩) k (iv (xs.take k)) := by
  have hl := h.len
  rw [iv_len] at hl
  refine ⟨by rw [iv_len, List.length_take]; omega, fun hn => ?_⟩
  obtain ⟨b', off', e, hc⟩ := h.2 (by omega)
  cases e
  refine ⟨b, off, rfl, fun j u hu => hc j u ?_⟩
  unfold iv at *
  rw [List.map_take, List.getElem?_take] at hu
  split at hu
  · exact hu
  · cases hu
theorem Rd.back {w : World} {b off n k : Nat} {xs : List Int} (h : Rd w (some ⟨b, off, none⟩) n (iv xs)) (hk : k ≤ n) : Rd w (some ⟨b, off + k, none⟩) (n - k) (iv (xs.drop k)) := by
  have hl := h.len
  rw [iv_len] at hl
  refine ⟨by rw [iv_len, List.length_drop]; omega, fun hn => ?_⟩
  obtain ⟨b', off', e, hc⟩ := h.2 (by omega)
  cases e
  refine ⟨b, off + k, rfl, fun j u hu => ?_⟩
  unfold iv at *
  rw [List.map_drop, List.getElem?_drop] at hu
  rw [Nat.add_assoc]
  exact hc (k + j) u hu
theorem Rd.zero {w : World} {A : Option Addr} : Rd w A 0 (iv []) := ⟨rfl, fun h => absurd h (by omega)⟩

/-- Loops that look for the first place. -/
def NoQ (q : Nat → Nat → Int → Bool) (n : Nat) (xs : List Int) (k : Nat) : Prop := ∀ j, j < k → q n j (xs.getD j 0) = false
theorem bld_none {q : Nat → Nat → Int → Bool} {f n : Nat} {xs : List Int} (hl : xs.length = n) (h : NoQ q n xs n) : bld q f xs = .nil := by
  cases f with
  | zero => rfl
  | succ f =>
    have : (List.range xs.length).find? (fun i => q xs.length i (xs.getD i 0)) = none := by
      rw [List.find?_eq_none]
      intro j hj
      rw [List.mem_range] at hj
      rw [hl, h j (by omega)]
      simp
    unfold bld
    rw [this]
theorem bld_at {q : Nat → Nat → Int → Bool} {f n k : Nat} {xs : List Int} (hl : xs.length = n) (hk : k < n) (h : NoQ q n xs k) (hq : q n k (xs.getD k 0) = true) :
    bld q (f + 1) xs = .node 0 0 () (bld q f (xs.take k)) (bld q f (xs.drop (k + 1))) := by
  have : (List.range xs.length).find? (fun i => q xs.length i (xs.getD i 0)) = some k := find_range (by omega) (by rw [hl]; exact hq) (fun j hj => by rw [hl]; exact h j hj)
  rw [bld, this]

set_option maxHeartbeats 1000000 in
theorem l16Build_any : ∀ (f : Nat) (A : Option Addr) (n c : Nat) (xs : List Int) (w : World), n ≤ f → n ≤ c → c ≤ 9223372036854775807 → n ≤ 8 → Rd w A n (iv xs) → (∀ x ∈ xs, 0 ≤ x ∧ x ≤ 100) →
    Calls Try.prog 92 #[.slice A n c] w fun e w' => e = .returned (.string (bs (tx (bld qS f xs)))) ∧ ∃ m, w' = w.drewN m := by
  intro f
  induction f with
  | zero =>
    intro A n c xs w hf hc hc2 hn h hx
    obtain rfl : n = 0 := by omega
    have hxs : xs = [] := by have := h.len; rw [iv_len] at this; exact List.eq_nil_of_length_eq_zero this
    have HF := Lib.hid (show tx (bld qS 0 xs) = [46] from rfl)
    clear h hx hxs
    go_enter Try.func92, Try.ntmps92
    go_wp2_with fail
    refine wp_loop_rounds 1 ?_
    rw [rounds_succ]
    go_wp2_with fail
    go_ret
    exact ⟨by rw [HF.out]; rfl, 0, rfl⟩
  | succ f ih =>
    intro A n c xs w hf hc hc2 hn h hx
    have HR := Lib.hid h
    have HL := Lib.hid (show xs.length = n by have := h.len; rw [iv_len] at this; exact this)
    have HX := Lib.hid hx
    have IH := Lib.hid ih
    clear h hx ih
    go_enter Try.func92, Try.ntmps92
    go_wp2_with fail
    go_loop [3] (fun i => ∃ k : Nat, k ≤ n ∧ i = .int .i64 k ∧ Hid (NoQ qS n xs k)) (fun i => n - (intOf i).toNat)
    case atStart => exact ⟨0, Nat.zero_le _, rfl, Lib.hid (fun j hj => by omega)⟩
    case round =>
      obtain ⟨k, hk, rfl, HQ⟩ := hrel
      by_cases hlt : k < n
      · obtain ⟨b, off, x, rfl, hx, hcell⟩ := HR.out.ati hlt
        have hxb := HX.out x (List.mem_of_getElem? hx)
        have hD := getDx hx
        by_cases hq : (n : Int) - 1 ≤ (k : Int) + x
        · have HF := Lib.hid (bld_at (f := f) HL.out hlt HQ.out (by rw [hD]; simpa [qS] using hq))
          have n1 := (bld_nodes qS f (xs.take k)).1
          have n2 := (bld_nodes qS f (xs.drop (k + 1))).1
          have l1 := tx_len (bld qS f (xs.take k))
          have l2 := tx_len (bld qS f (xs.drop (k + 1)))
          have hxl := HL.out
          rw [List.length_take] at n1
          rw [List.length_drop] at n2
          obtain ⟨P, hP⟩ : ∃ P, P = tx (bld qS f (xs.take k)) := ⟨_, rfl⟩
          obtain ⟨Q, hQ⟩ : ∃ Q, Q = tx (bld qS f (xs.drop (k + 1))) := ⟨_, rfl⟩
          rw [← hP] at l1
          rw [← hQ] at l2
          have pl : P.length ≤ 100 := by omega
          have ql : Q.length ≤ 100 := by omega
          have HI1 := Lib.hid (show ∀ m, Calls Try.prog 92 #[.slice (some ⟨b, off, none⟩) k c] (w.drewN m) fun e w' => e = .returned (.string (bs P)) ∧ ∃ n, w' = (w.drewN m).drewN n by
            rw [hP]; exact fun m => IH.out _ _ _ _ _ (by omega) (by omega) hc2 (by omega) ((HR.out.front hk).drewN m) (fun x hx => HX.out x (List.mem_of_mem_take hx)))
          have HI2 := Lib.hid (show ∀ (A : Option Addr) m, (A = some ⟨b, off + (k + 1), none⟩ ∨ n = k + 1) → Calls Try.prog 92 #[.slice A (n - (k + 1)) (c - (k + 1))] (w.drewN m) fun e w' => e = .returned (.string (bs Q)) ∧ ∃ n, w' = (w.drewN m).drewN n by
            rw [hQ]
            intro A m hA
            refine IH.out _ _ _ _ _ (by omega) (by omega) (by omega) (by omega) ?_ (fun x hx => HX.out x (List.mem_of_mem_drop hx))
            rcases hA with rfl | hA
            · exact (HR.out.back hlt).drewN m
            · rw [List.drop_eq_nil_of_le (by omega), hA, Nat.sub_self]; exact Rd.zero)
          have HV := Lib.hid (show tx (bld qS (f + 1) xs) = [40] ++ P ++ Q ++ [41] by rw [HF.out, hP, hQ]; rfl)
          clear hP hQ l1 l2 n1 n2 hxl hx hD
          have w1 : IntKind.i64.wrap ((k : Int) + 1) = (k : Int) + 1 := IntWalk.i64_in _ (by omega)
          have c1 : (0 : Int) ≤ (k : Int) := by omega
          have c2 : (k : Int) ≤ (c : Int) := by omega
          have c3 : (0 : Int) ≤ (k : Int) + 1 := by omega
          have c4 : (k : Int) + 1 ≤ (n : Int) := by omega
          have c5 : ((k : Int) + 1).toNat = k + 1 := by omega
          have c6 : k ≤ c := by omega
          have c7 : k + 1 ≤ n := by omega
          have c8 : k < n := by omega
          have c9 : (k : Int) ≤ (k : Int) + 1 := by omega
          have p1 : ¬ 9223372036854775807 < 1 + P.length := by omega
          have p2 : ¬ 9223372036854775807 < 1 + P.length + Q.length := by omega
          have p3 : ¬ 9223372036854775807 < 1 + P.length + Q.length + 1 := by omega
          by_cases hck : c = k + 1
          · subst hck
            have hn1 : n = k + 1 := by omega
            have HI3 := Lib.hid (show ∀ m, Calls Try.prog 92 #[.slice (some ⟨b, off, none⟩) 0 0] (w.drewN m) fun e w' => e = .returned (.string (bs Q)) ∧ ∃ n, w' = (w.drewN m).drewN n from fun m => by
              have := HI2.out (some ⟨b, off, none⟩) m (Or.inr hn1)
              rwa [show n - (k + 1) = 0 by omega, show k + 1 - (k + 1) = 0 by omega] at this)
            clear hn1
            go_wp2_with fail
            go_quiet (first | (go_at_call 92; with_reducible exact Calls.quiet_of (HI3.out _)) | (go_at_call 92; exact Calls.quiet_of (HI1.out _)))
            go_wp2_with fail
            go_ret
            refine ⟨?_, _, rfl⟩
            rw [HV.out]
            show _ = _
            rw [bs_lit, bs_lit, bs_append, bs_append, bs_append]
            rfl
          · go_wp2_with fail
            go_quiet (first | (go_at_call 92; with_reducible exact Calls.quiet_of (HI1.out _)) | (go_at_call 92; exact Calls.quiet_of (HI2.out _ _ (Or.inl rfl))))
            go_wp2_with fail
            go_ret
            refine ⟨?_, _, rfl⟩
            rw [HV.out]
            show _ = _
            rw [bs_lit, bs_lit, bs_append, bs_append, bs_append]
            rfl
        · have HN := Lib.hid (show NoQ qS n xs (k + 1) from fun j hj => by
            rcases Nat.lt_or_ge j k with h1 | h1
            · exact HQ.out j h1
            · obtain rfl : j = k := by omega
              rw [hD]; simp [qS]; omega)
          have hq' : ¬ (n : Int) - 1 ≤ (k : Int) + x := hq
          clear hx hD
          go_wp2_with fail
          go_round
          case rel => exact ⟨k + 1, by omega, by go_num, HN⟩
          case measure => simp [intOf]; omega
      · have hkn : k = n := by omega
        have HF := Lib.hid (show tx (bld qS (f + 1) xs) = [46] by rw [bld_none HL.out (by rw [← hkn]; rw [hkn]; rw [hkn] at HQ; exact HQ.out)]; rfl)
        clear hkn
        go_wp2_with fail
        go_ret
        exact ⟨by rw [HF.out]; rfl, 0, rfl⟩

/-- What BinaryOfWeights answers. -/
def bwB (xs : List Int) : List UInt8 × Bool := oT (bw xs)
set_option maxHeartbeats 1000000 in
theorem specBinaryOfWeights_any (A : Option Addr) (n c : Nat) (xs : List Int) (w : World) (h : Rd w A n (iv xs)) (hn : n ≤ 1000000000) (hc : n ≤ c) (hc2 : c ≤ 9223372036854775807) :
    Calls Try.prog 47 #[.slice A n c] w fun e w' => e = .returned (.tuple #[.string (bs (bwB xs).1), .bool (bwB xs).2]) ∧ Below w.heap.size w w' := by
  have HR := Lib.hid h
  have HL := Lib.hid (show xs.length = n by have := h.len; rw [iv_len] at this; exact this)
  clear h
  go_enter Try.func47, Try.ntmps47
  go_wp2_with fail
  go_loop [4] (fun i => ∃ k : Nat, k ≤ n ∧ i = .int .i64 k ∧ Hid (∀ (j : Nat) (x : Int), j < k → xs[j]? = some x → 0 ≤ x ∧ x ≤ (n : Int) - 1 - j)) (fun i => n - (intOf i).toNat)
  case atStart => exact ⟨0, Nat.zero_le _, rfl, Lib.hid (fun j x hj => by omega)⟩
  case round =>
    obtain ⟨k, hk, rfl, HA⟩ := hrel
    by_cases hlt : k < n
    · obtain ⟨b, off, x, rfl, hx, hcell⟩ := HR.out.ati hlt
      rcases hi : inB x 0 ((n : Int) - 1 - (k : Int)) with _ | _
      · have HI := Lib.hid hi
        have HF := Lib.hid (show bwB xs = ([], false) by rw [bwB, bw_range hx (by rw [HL.out]; exact inB_not.1 hi)]; rfl)
        clear hi hx
        go_wp2_with fail
        refine (l1In_any _ _ _ _).mono ?_
        rintro e w' ⟨rfl, rfl⟩
        rw [HI.out]
        go_wp2_with fail
        go_ret2
        exact ⟨by rw [HF.out]; rfl, Below.refl _ _⟩
      · have HI := Lib.hid hi
        have HN := Lib.hid (show ∀ (j : Nat) (x : Int), j < k + 1 → xs[j]? = some x → 0 ≤ x ∧ x ≤ (n : Int) - 1 - j from fun j y hj hy => by
          rcases Nat.lt_or_ge j k with h1 | h1
          · exact HA.out j y h1 hy
          · obtain rfl : j = k := by omega
            rw [hx] at hy
            cases hy
            exact inB_iff.1 hi)
        clear hi hx
        go_wp2_with fail
        refine (l1In_any _ _ _ _).mono ?_
        rintro e w' ⟨rfl, rfl⟩
        rw [HI.out]
        go_wp2_with fail
        go_round
        case rel => exact ⟨k + 1, by omega, by go_num, HN⟩
        case measure => simp [intOf]; omega
    · have hkn : k = n := by omega
      by_cases h8 : n ≤ 8
      · have hx9 : ∀ x ∈ xs, 0 ≤ x ∧ x ≤ 100 := by
          intro x hx
          obtain ⟨j, hj⟩ := List.mem_iff_getElem?.1 hx
          have hj2 := (List.getElem?_eq_some_iff.1 hj).1
          rw [HL.out] at hj2
          have := HA.out j x (by omega) hj
          omega
        have hb := bld_nodes qS n xs
        rw [HL.out] at hb
        obtain ⟨T, hT⟩ : ∃ T, T = bld qS n xs := ⟨_, rfl⟩
        rw [← hT] at hb
        have hT8 : nodes T ≤ 8 := by omega
        have hTl := tx_len T
        have hTl9 : (tx T).length ≤ 1000000000 := by omega
        have HB := Lib.hid (show ∀ w, Rd w A n (iv xs) → Calls Try.prog 92 #[.slice A n c] w fun e w' => e = .returned (.string (bs (tx T))) ∧ ∃ m, w' = w.drewN m by
          rw [hT]; exact fun w h => l16Build_any n A n c xs w (Nat.le_refl _) hc hc2 h8 h hx9)
        have HW := Lib.hid (wtsB_tx hT8)
        have hwl := wts_len T
        have hwl9 : (wts T).length ≤ 1000000000 := by omega
        by_cases heq : wts T = xs
        · have HF := Lib.hid (show bwB xs = (tx T, true) by rw [bwB, bwS_yes (by rw [HL.out]; exact h8) (by rw [HL.out, ← hT]; exact heq), HL.out, ← hT]; rfl)
          have HD := Lib.hid (show decide (wts T = xs) = true by simpa using heq)
          clear hkn heq hwl hTl hb hT
          go_wp2_with fail
          refine (HB.out _ HR.out).mono ?_
          rintro e w1 ⟨rfl, m, rfl⟩
          go_wp2_with fail
          refine (specWeightsOf_any _ _ hTl9).mono ?_
          rintro e w2 ⟨A2, n2, c2, hn2, rfl, ho2, hb2⟩
          rw [HW.out] at hn2 ho2
          have HO2 := Lib.hid ho2
          have hn29 : n2 ≤ 1000000000 := by omega
          have HR2 := Lib.hid ((HR.out.drewN m).below hb2)
          clear hn2 ho2
          go_wp2_with fail
          refine (l13Same_any _ _ _ _ _ _ (wts T) xs _ HO2.out.rd HR2.out hn29 hn).mono ?_
          rintro e w3 ⟨rfl, m3, rfl⟩
          rw [HD.out]
          go_wp2_with fail
          go_ret2
          exact ⟨by rw [HF.out]; rfl, below_drewN' ((below_of_drewN ⟨m, rfl⟩).trans hb2) _⟩
        · have HF := Lib.hid (show bwB xs = ([], false) by rw [bwB, bwS_no (by rw [HL.out, ← hT]; exact heq)]; rfl)
          have HD := Lib.hid (show decide (wts T = xs) = false by simpa using heq)
          clear hkn heq hwl hTl hb hT
          go_wp2_with fail
          refine (HB.out _ HR.out).mono ?_
          rintro e w1 ⟨rfl, m, rfl⟩
          go_wp2_with fail
          refine (specWeightsOf_any _ _ hTl9).mono ?_
          rintro e w2 ⟨A2, n2, c2, hn2, rfl, ho2, hb2⟩
          rw [HW.out] at hn2 ho2
          have HO2 := Lib.hid ho2
          have hn29 : n2 ≤ 1000000000 := by omega
          have HR2 := Lib.hid ((HR.out.drewN m).below hb2)
          clear hn2 ho2
          go_wp2_with fail
          refine (l13Same_any _ _ _ _ _ _ (wts T) xs _ HO2.out.rd HR2.out hn29 hn).mono ?_
          rintro e w3 ⟨rfl, m3, rfl⟩
          rw [HD.out]
          go_wp2_with fail
          go_ret2
          exact ⟨by rw [HF.out]; rfl, below_drewN' ((below_of_drewN ⟨m, rfl⟩).trans hb2) _⟩
      · have HF := Lib.hid (show bwB xs = ([], false) by rw [bwB, bw_big (by rw [HL.out]; omega)]; rfl)
        have h8' : ¬ n ≤ 8 := h8
        clear hkn
        go_wp2_with fail
        go_ret2
        exact ⟨by rw [HF.out]; rfl, Below.refl _ _⟩

end Go.Proofs.Ytiebaoglcdbopaa
