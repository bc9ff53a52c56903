/- Merged: TpS AppS PathsS. -/
import Derived.Test.YtghfhkbncjgaeaaGreatMg26
import Derived.Test.YtghfhkbncjgaeaaGreatMg27
import Derived.Test.YtghfhkbncjgaeaaGreatMg29
import Derived.Test.YtghfhkbncjgaeaaGreatMg8
import Derived.Test.YtghfhkbncjgaeaaGreatMg3
import Derived.Test.YtghfhkbncjgaeaaGreatMg1

namespace Go.Proofs.YtghfhkbncjgaeaaGreat
set_option linter.unusedVariables false
open Go.RowKit

theorem insD_step {d : List (List Int)} {f : List Int → List Int} {i : Nat} {x : List Int} (h : d[i]? = some x) : insD ((d.take (i + 1)).map f) = putD (insD ((d.take i).map f)) (f x) := by
  obtain ⟨h1, h2⟩ := List.getElem?_eq_some_iff.1 h
  rw [List.take_succ_eq_append_getElem h1, h2, List.map_append]
  unfold insD
  rw [List.foldl_append]; rfl
theorem insD_len (f : List Int → List Int) (d : List (List Int)) : ∀ i, i ≤ d.length → (insD ((d.take i).map f)).length = i
  | 0, _ => rfl
  | i + 1, h => by
    have hi : i < d.length := by omega
    rw [insD_step (List.getElem?_eq_getElem hi), putD_len, insD_len f d i (by omega)]
theorem insD_two {f : List Int → List Int} (hf : ∀ x, (f x).length = 2) (d : List (List Int)) : ∀ i, i ≤ d.length → ∀ r ∈ insD ((d.take i).map f), r.length = 2
  | 0, _ => fun r hr => by cases hr
  | i + 1, h => by
    have hi : i < d.length := by omega
    rw [insD_step (List.getElem?_eq_getElem hi)]
    exact putD_two (insD_two hf d i (by omega)) (hf _)
theorem rowD_two (n k : Int) (x : List Int) : (rowD n k x).length = 2 := rfl

set_option maxRecDepth 20000 in
set_option maxHeartbeats 4000000 in
theorem specTurnPolygon_yes (A : Option Addr) (n m c k : Nat) (vs : List Value) (d : List (List Int)) (w : World) (h : R2 w A m vs d) (ht : triB n d = true) (hk : k < n) :
    Calls Tryz.prog 80 #[.int .i64 n, .slice A m c, .int .i64 k] w (RetDgB w (turnD n d k) true) := by
  unfold RetDgB
  have H := triOk ht
  have hml := h.n_eq
  have hm7 : m ≤ 7 := by rw [hml]; exact H.len7
  have hn2 := H.n2
  have hn10 := H.n10
  have HT := Lib.hid H
  have HTB := Lib.hid ht
  have HR := Lib.hid h
  have HM := Lib.hid hml
  have HI := Lib.hid (insD_len (rowD n k) d)
  have HI2 := Lib.hid (insD_two (rowD_two n k) d)
  have HKB := Lib.hid (show inB (k : Int) 0 ((n : Int) - 1) = true from inB_true (by omega) (by omega))
  have u2 : IntKind.i64.wrap ((n : Int) - 1) = (n : Int) - 1 := IntWalk.i64_in _ (by omega)
  clear h ht H hml
  go_enter Tryz.func80, Tryz.ntmps80
  go_wp2_with fail
  refine (specIsTriangulation_yes _ _ _ _ _ _ _ (HR.out.alloc _) HTB.out).mono ?_
  rintro e w1 ⟨rfl, q, hq⟩
  have hbw : Below w.heap.size w w1 := by rw [hq]; exact below_drewN' ((Below.refl _ _).alloc (Nat.le_refl _) _) q
  have HO0 := Lib.hid (show R2 w1 (some ⟨w.heap.size, 0, none⟩) 0 [] (insD ((d.take 0).map (rowD n k))) by rw [hq]; exact (O2.empty w).r2.drewN q)
  clear hq
  go_wp2_with fail
  refine (l1In_any _ _ _ _).mono ?_
  rintro e w' ⟨rfl, rfl⟩
  rw [HKB.out]
  go_wp2_with fail
  go_loopw [8, 9, 10, 11] (fun s iv _ _ wr => ∃ (i g c' : Nat) (vs' : List Value), i ≤ m ∧ iv = .int .i64 i ∧ s = .slice (some ⟨g, 0, none⟩) i c' ∧ i ≤ c' ∧ c' ≤ maxLen ∧ R2 wr (some ⟨g, 0, none⟩) i vs' (insD ((d.take i).map (rowD n k))) ∧ Below w.heap.size w wr) (fun _ iv _ _ _ => m - (intOf iv).toNat)
  case atStart => exact ⟨0, w.heap.size, 0, [], Nat.zero_le _, rfl, rfl, Nat.le_refl _, by decide, HO0.out, hbw⟩
  case round =>
    obtain ⟨i, g, c', vs', hi, rfl, rfl, hic, hcm, ho, hb⟩ := hrel
    have O := Lib.hid ho
    have hbs := hb.size
    clear ho
    by_cases hlt : i < m
    · obtain ⟨x, hx⟩ : ∃ x, d[i]? = some x := ⟨_, List.getElem?_eq_getElem (by have := HM.out; omega)⟩
      have hx2 := HT.out.two i x hx
      obtain ⟨b, off, Ai, ci, rfl, hc, hrd⟩ := (HR.out.below hb).at_ hx
      rw [hx2] at hc hrd
      obtain ⟨b1, o1, rfl, p1, p2⟩ := getD2 hrd
      have yb := HT.out.nums hx
      have HS := Lib.hid (insD_step (f := rowD n k) hx)
      obtain ⟨X0, hX0⟩ : ∃ z, z = x.getD 0 0 := ⟨_, rfl⟩
      obtain ⟨X1, hX1⟩ : ∃ z, z = x.getD 1 0 := ⟨_, rfl⟩
      rw [← hX0] at p1 yb
      rw [← hX1] at p2 yb
      obtain ⟨P, hP⟩ : ∃ P, P = (X0 + (k : Int)) % (n : Int) := ⟨_, rfl⟩
      obtain ⟨Q, hQ⟩ : ∃ Q, Q = (X1 + (k : Int)) % (n : Int) := ⟨_, rfl⟩
      have hPn : 0 ≤ P ∧ P < n := by rw [hP]; exact ⟨Int.emod_nonneg _ (by omega), Int.emod_lt_of_pos _ (by omega)⟩
      have hQn : 0 ≤ Q ∧ Q < n := by rw [hQ]; exact ⟨Int.emod_nonneg _ (by omega), Int.emod_lt_of_pos _ (by omega)⟩
      have HRW := Lib.hid (show rowD n k x = [min P Q, max P Q] by unfold rowD; rw [← hX0, ← hX1, hP, hQ])
      have u4 : IntKind.i64.wrap (X0 + (k : Int)) = X0 + (k : Int) := IntWalk.i64_in _ (by omega)
      have u5 : IntKind.i64.wrap (X1 + (k : Int)) = X1 + (k : Int) := IntWalk.i64_in _ (by omega)
      have m1 : Int.tmod (X0 + (k : Int)) (n : Int) = P := by rw [hP, Int.tmod_eq_emod_of_nonneg (by omega)]
      have m2 : Int.tmod (X1 + (k : Int)) (n : Int) = Q := by rw [hQ, Int.tmod_eq_emod_of_nonneg (by omega)]
      have m3 : (X0 + (k : Int)) % (n : Int) = P := hP.symm
      have m4 : (X1 + (k : Int)) % (n : Int) = Q := hQ.symm
      have u6 : IntKind.i64.wrap P = P := IntWalk.i64_in _ (by omega)
      have u7 : IntKind.i64.wrap Q = Q := IntWalk.i64_in _ (by omega)
      have n0 : ((n : Int) == 0) = false := by rw [beq_eq_false_iff_ne]; omega
      have n0' : ¬ (n : Int) = 0 := by omega
      have n0'' : ¬ n = 0 := by omega
      have i0 : (0 : Int) ≤ (i : Int) := by omega
      have i1 : (i : Int) < (m : Int) := by omega
      clear hx hx2 hrd hX0 hX1 hP hQ
      rcases Int.lt_trichotomy P Q with hPQ | hPQ | hPQ
      case' inl =>
        have r1 : ¬ Q < P := by omega
        have HRW2 := Lib.hid (show rowD n k x = [P, Q] by rw [HRW.out, show min P Q = P by omega, show max P Q = Q by omega])
        obtain ⟨Y, hY⟩ : ∃ Y, Y = P := ⟨_, rfl⟩
        obtain ⟨Z, hZ⟩ : ∃ Z, Z = Q := ⟨_, rfl⟩
      case' inr.inl =>
        have r1 : ¬ Q < P := by omega
        have r2 : ¬ P < Q := by omega
        have HRW2 := Lib.hid (show rowD n k x = [P, P] by rw [HRW.out, show min P Q = P by omega, show max P Q = P by omega])
        obtain ⟨Y, hY⟩ : ∃ Y, Y = P := ⟨_, rfl⟩
        obtain ⟨Z, hZ⟩ : ∃ Z, Z = P := ⟨_, rfl⟩
        clear hPQ
      case' inr.inr =>
        have r1 : ¬ P < Q := by omega
        have HRW2 := Lib.hid (show rowD n k x = [Q, P] by rw [HRW.out, show min P Q = Q by omega, show max P Q = P by omega])
        obtain ⟨Y, hY⟩ : ∃ Y, Y = Q := ⟨_, rfl⟩
        obtain ⟨Z, hZ⟩ : ∃ Z, Z = P := ⟨_, rfl⟩
      all_goals
        have HPUT := Lib.hid (fun (r : List Int) (hr : r = rowD n k x) (hrd : Rd (wr.alloc (.cells #[.int .i64 Y, .int .i64 Z] 3)) (some ⟨wr.heap.size, 0, none⟩) 2 (iv r)) => l7Put_any g i c' vs' _ (some ⟨wr.heap.size, 0, none⟩) 2 r (wr.alloc (.cells #[.int .i64 Y, .int .i64 Z] 3)) (O.out.alloc _) hic hrd (HI2.out i (by have := HM.out; omega)) (by omega))
        have HPT := HPUT.out [Y, Z] (by rw [HRW2.out, hY, hZ]) (Own.lit wr 3 #[.int .i64 Y, .int .i64 Z] 2 rfl (by decide)).rd
        rw [hY, hZ] at HPT
        have HPT2 := Lib.hid HPT
        clear HPT hY hZ
        go_wp2_with fail
        refine HPT2.out.mono ?_
        rintro e w2 ⟨g2, m2, c2, vs2, hm2, hmc2, hcm2, rfl, hr2, hb2⟩
        have hmm : m2 = i + 1 := by rw [hm2, putD_len, HI.out i (by have := HM.out; omega)]
        subst hmm
        have HR2 := Lib.hid hr2
        have hb3 := hb.trans (((Below.refl wr.heap.size wr).alloc (Nat.le_refl _) (.cells #[.int .i64 (_ : Int), .int .i64 (_ : Int)] 3)).trans (hb2.mono (by simp)) |>.mono hbs)
        clear hr2 hb2 hm2
        go_wp2_with fail
        go_roundw
        case rel => exact ⟨i + 1, g2, c2, vs2, by omega, by go_num, rfl, hmc2, hcm2, by rw [HS.out, HRW2.out]; exact HR2.out, hb3⟩
        case measure => simp [intOf]; omega
    · have HE := Lib.hid (show turnD n d k = insD ((d.take i).map (rowD n k)) by unfold turnD; rw [List.take_of_length_le (by have := HM.out; omega)])
      have HEL := Lib.hid (show i = (insD ((d.take i).map (rowD n k))).length from O.out.n_eq)
      go_wp2_with fail
      go_ret2
      rw [HE.out]
      exact ⟨g, i, c', vs', HEL.out, hic, hcm, rfl, O.out, hb⟩

end Go.Proofs.YtghfhkbncjgaeaaGreat

namespace Go.Proofs.YtghfhkbncjgaeaaGreat
open Go.RowKit

theorem sv_one {ys : List (List UInt8)} : ∀ u ∈ sv ys, u.oneCell' = true := by
  intro u hu; simp [sv] at hu; obtain ⟨x, _, rfl⟩ := hu; rfl
/-- append of a whole slice of strings. -/
theorem appAllS (w : World) {ops : Array Oper} {rest : List Oper} {o : Oper} {a : Act} {Q : Exit → Act → World → Prop} (hgd : o.guard = none) (s x : Operand)
    (ho : o.op = .call { callee := .builtin .append, args := #[s, x], argTypes := #[44, 44] })
    (B : Nat) (A : Option Addr) (n c : Nat) (vs : List Value) (hs : a.eval s = .slice A n c) (hown : Own w 9 B A n c vs)
    (X : Option Addr) (m d : Nat) (ys : List (List UInt8)) (hx : a.eval x = .slice X m d) (hd : X = none → d = 0) (hr : Rd w X m (sv ys)) (hn : n + m ≤ 1000000000) (hbase : B ≤ w.heap.size)
    (h : ∀ A' c' w', Own w' 9 B A' (n + m) c' (vs ++ sv ys) → w.grownBy w' (Value.ownBlock (.slice A n c)) → Below B w w' → wpList Tryz.prog ops Q rest (a.put o.dst (.slice A' (n + m) c')) w') : wpList Tryz.prog ops Q (o :: rest) a w :=
  wpList_plain hgd fun _ hK => wp_appAll w s x 44 ho 9 (.string ByteArray.empty) 16 Tryz.underlying44 info_str rfl (by decide) B A n c vs hs hown X m d (sv ys) hx hd hr sv_one hn hbase fun A' c' w' a1 a2 a3 => hK _ _ (h A' c' w' a1 a2 a3)
theorem Own.nocap {w : World} {e : TypeId} {B : Nat} {A : Option Addr} {n c : Nat} {vs : List Value} (h : Own w e B A n c vs) : A = none → c = 0 := by
  rintro rfl
  rcases h.form with ⟨_, _, h3⟩ | ⟨g, h1, _⟩
  · exact h3
  · cases h1

end Go.Proofs.YtghfhkbncjgaeaaGreat

namespace Go.Proofs.YtghfhkbncjgaeaaGreat
open Go.RowKit

set_option maxHeartbeats 1000000 in
theorem l3All_any : ∀ (f : Nat) (l : List UInt8) (u d : Nat) (w : World), u ≤ d → u + d ≤ f → f ≤ 16 → l.length + f ≤ 100 →
    Calls Tryz.prog 71 #[.string (bs l), .int .i64 u, .int .i64 d] w (RetS w (pth f l u d)) := by
  intro f
  induction f with
  | zero =>
    intro l u d w hud hf h16 hl
    obtain rfl : d = 0 := by omega
    have HF := Lib.hid (pth_done (f := 0) (l := l) (u := u))
    go_enter Tryz.func71, Tryz.ntmps71
    go_wp2_with fail
    go_ret
    rw [HF.out]
    exact RetS.mk rfl rfl (Own.lit w 9 #[.string (bs l)] 1 rfl (by decide)) ((Below.refl _ _).alloc (Nat.le_refl _) _)
  | succ f ih =>
    intro l u d w hud hf h16 hl
    by_cases hd : d = 0
    · subst hd
      have HF := Lib.hid (pth_done (f := f + 1) (l := l) (u := u))
      clear ih
      go_enter Tryz.func71, Tryz.ntmps71
      go_wp2_with fail
      go_ret
      rw [HF.out]
      exact RetS.mk rfl rfl (Own.lit w 9 #[.string (bs l)] 1 rfl (by decide)) ((Below.refl _ _).alloc (Nat.le_refl _) _)
    have hd0 : 0 < d := by omega
    have e0 : ((d : Int) == 0) = false := by rw [beq_eq_false_iff_ne]; omega
    have HP := Lib.hid (pth_go (f := f) (l := l) (u := u) hd0)
    have p1 : ¬ 9223372036854775807 < l.length + 1 := by omega
    have q1 := pth_len f (l ++ [117]) (u - 1) d
    have q2 := pth_len f (l ++ [100]) u (d - 1)
    have q3 := pow16 (f := f) (by omega)
    by_cases hu : 0 < u
    · by_cases hdu : u < d
      · skip
        obtain ⟨U, hU⟩ : ∃ U, U = pth f (l ++ [117]) (u - 1) d := ⟨_, rfl⟩
        have HU := Lib.hid (show ∀ w, Calls Tryz.prog 71 #[.string (bs l ++ { data := #[117] }), .int .i64 ((u : Int) - 1), .int .i64 d] w (RetS w U) from fun w => by
          rw [hU, show (u : Int) - 1 = ((u - 1 : Nat) : Int) by omega, bs_lit, bs_append]; exact ih _ _ _ w (by omega) (by omega) (by omega) (by simp; omega))
        rw [← hU] at q1
        have hU5 : U.length ≤ 65536 := Nat.le_trans q1 q3
        obtain ⟨D, hD⟩ : ∃ D, D = pth f (l ++ [100]) u (d - 1) := ⟨_, rfl⟩
        have HD := Lib.hid (show ∀ w, Calls Tryz.prog 71 #[.string (bs l ++ { data := #[100] }), .int .i64 u, .int .i64 ((d : Int) - 1)] w (RetS w D) from fun w => by
          rw [hD, show (d : Int) - 1 = ((d - 1 : Nat) : Int) by omega, bs_lit, bs_append]; exact ih _ _ _ w (by omega) (by omega) (by omega) (by simp; omega))
        rw [← hD] at q2
        have hD5 : D.length ≤ 65536 := Nat.le_trans q2 q3
        have HF := Lib.hid (show pth (f + 1) l u d = U ++ D by rw [HP.out, if_pos hu, if_pos hdu, hU, hD])
        clear hU hD q1 q2 q3 ih hd
        go_enter Tryz.func71, Tryz.ntmps71
        go_wp2_with fail
        refine (HU.out _).mono ?_
        rintro e w1 ⟨A1, n1, c1, hn1, rfl, ho1, hb1⟩
        have HO1 := Lib.hid ho1
        have hn15 : n1 ≤ 65536 := by rw [hn1]; exact hU5
        have HN1 := Lib.hid hn1
        have HC1 := Lib.hid ((own_emptyS w).below hb1)
        have hbb1 := ((Below.refl w.heap.size w).alloc (Nat.le_refl _) (.cells #[] 9)).trans (hb1.mono (by simp))
        have hsz1 := hbb1.size
        clear ho1 hn1 hb1
        go_wp2_with (at_builtin; refine appAllS _ rfl _ _ rfl w.heap.size (some ⟨w.heap.size, 0, none⟩) (0) 0 (sv []) rfl HC1.out A1 n1 c1 U rfl HO1.out.1.nocap HO1.out.rd (by omega) hsz1 ?_; intro B1 d1 v1 hown1 hg1 hbv1)
        have HW1 := Lib.hid (show Own v1 9 w.heap.size B1 n1 d1 (sv U) by simpa [sv] using hown1)
        have hbw1 := hbb1.trans hbv1
        have hsv1 := hbw1.size
        clear hown1 hg1 hbv1 hbb1
        go_wp2_with fail
        refine (HD.out _).mono ?_
        rintro e w2 ⟨A2, n2, c2, hn2, rfl, ho2, hb2⟩
        have HO2 := Lib.hid ho2
        have hn25 : n2 ≤ 65536 := by rw [hn2]; exact hD5
        have HN2 := Lib.hid hn2
        have HC2 := Lib.hid (HW1.out.below hb2)
        have hbb2 := hbw1.trans (hb2.mono hsv1)
        have hsz2 := hbb2.size
        clear ho2 hn2 hb2
        go_wp2_with (at_builtin; refine appAllS _ rfl _ _ rfl w.heap.size B1 n1 d1 (sv U) rfl HC2.out A2 n2 c2 D rfl HO2.out.1.nocap HO2.out.rd (by omega) hsz2 ?_; intro B2 d2 v2 hown2 hg2 hbv2)
        have HW2 := Lib.hid hown2
        have hbw2 := hbb2.trans hbv2
        have hsv2 := hbw2.size
        clear hown2 hg2 hbv2 hbb2
        go_wp2_with fail
        go_ret
        rw [HF.out]
        refine RetS.mk (by rw [List.length_append, ← HN1.out, ← HN2.out]) rfl ?_ hbw2
        have := HW2.out
        unfold sv at this ⊢
        simpa using this
      · skip
        obtain ⟨U, hU⟩ : ∃ U, U = pth f (l ++ [117]) (u - 1) d := ⟨_, rfl⟩
        have HU := Lib.hid (show ∀ w, Calls Tryz.prog 71 #[.string (bs l ++ { data := #[117] }), .int .i64 ((u : Int) - 1), .int .i64 d] w (RetS w U) from fun w => by
          rw [hU, show (u : Int) - 1 = ((u - 1 : Nat) : Int) by omega, bs_lit, bs_append]; exact ih _ _ _ w (by omega) (by omega) (by omega) (by simp; omega))
        rw [← hU] at q1
        have hU5 : U.length ≤ 65536 := Nat.le_trans q1 q3
        have HF := Lib.hid (show pth (f + 1) l u d = U by rw [HP.out, if_pos hu, if_neg hdu, hU, List.append_nil])
        have hdu' : ¬ u < d := hdu
        clear hU q1 q2 q3 ih hd
        go_enter Tryz.func71, Tryz.ntmps71
        go_wp2_with fail
        refine (HU.out _).mono ?_
        rintro e w1 ⟨A1, n1, c1, hn1, rfl, ho1, hb1⟩
        have HO1 := Lib.hid ho1
        have hn15 : n1 ≤ 65536 := by rw [hn1]; exact hU5
        have HN1 := Lib.hid hn1
        have HC1 := Lib.hid ((own_emptyS w).below hb1)
        have hbb1 := ((Below.refl w.heap.size w).alloc (Nat.le_refl _) (.cells #[] 9)).trans (hb1.mono (by simp))
        have hsz1 := hbb1.size
        clear ho1 hn1 hb1
        go_wp2_with (at_builtin; refine appAllS _ rfl _ _ rfl w.heap.size (some ⟨w.heap.size, 0, none⟩) (0) 0 (sv []) rfl HC1.out A1 n1 c1 U rfl HO1.out.1.nocap HO1.out.rd (by omega) hsz1 ?_; intro B1 d1 v1 hown1 hg1 hbv1)
        have HW1 := Lib.hid hown1
        have hbw1 := hbb1.trans hbv1
        have hsv1 := hbw1.size
        clear hown1 hg1 hbv1 hbb1
        go_wp2_with fail
        go_ret
        rw [HF.out]
        refine RetS.mk (by rw [← HN1.out]) rfl ?_ hbw1
        have := HW1.out
        unfold sv at this ⊢
        simpa using this
    · skip
      obtain ⟨D, hD⟩ : ∃ D, D = pth f (l ++ [100]) u (d - 1) := ⟨_, rfl⟩
      have HD := Lib.hid (show ∀ w, Calls Tryz.prog 71 #[.string (bs l ++ { data := #[100] }), .int .i64 u, .int .i64 ((d : Int) - 1)] w (RetS w D) from fun w => by
        rw [hD, show (d : Int) - 1 = ((d - 1 : Nat) : Int) by omega, bs_lit, bs_append]; exact ih _ _ _ w (by omega) (by omega) (by omega) (by simp; omega))
      rw [← hD] at q2
      have hD5 : D.length ≤ 65536 := Nat.le_trans q2 q3
      have HF := Lib.hid (show pth (f + 1) l u d = D by rw [HP.out, if_neg hu, if_pos (by omega), hD, List.nil_append])
      have hdu : u < d := by omega
      have hu' : u = 0 := by omega
      subst hu'
      clear hD q1 q2 q3 ih hd
      go_enter Tryz.func71, Tryz.ntmps71
      go_wp2_with fail
      refine (HD.out _).mono ?_
      rintro e w1 ⟨A1, n1, c1, hn1, rfl, ho1, hb1⟩
      have HO1 := Lib.hid ho1
      have hn15 : n1 ≤ 65536 := by rw [hn1]; exact hD5
      have HN1 := Lib.hid hn1
      have HC1 := Lib.hid ((own_emptyS w).below hb1)
      have hbb1 := ((Below.refl w.heap.size w).alloc (Nat.le_refl _) (.cells #[] 9)).trans (hb1.mono (by simp))
      have hsz1 := hbb1.size
      clear ho1 hn1 hb1
      go_wp2_with (at_builtin; refine appAllS _ rfl _ _ rfl w.heap.size (some ⟨w.heap.size, 0, none⟩) (0) 0 (sv []) rfl HC1.out A1 n1 c1 D rfl HO1.out.1.nocap HO1.out.rd (by omega) hsz1 ?_; intro B1 d1 v1 hown1 hg1 hbv1)
      have HW1 := Lib.hid hown1
      have hbw1 := hbb1.trans hbv1
      have hsv1 := hbw1.size
      clear hown1 hg1 hbv1 hbb1
      go_wp2_with fail
      go_ret
      rw [HF.out]
      refine RetS.mk (by rw [← HN1.out]) rfl ?_ hbw1
      have := HW1.out
      unfold sv at this ⊢
      simpa using this

theorem specPathsOf_any (n : Nat) (w : World) (hn : n ≤ 6) :
    Calls Tryz.prog 40 #[.int .i64 n] w (RetS w (paths n)) := by
  have HB := Lib.hid (inB_true (x := n) (lo := 0) (hi := 6) (by omega) (by omega))
  have HC := Lib.hid (show ∀ w, Calls Tryz.prog 71 #[.string { data := #[] }, .int .i64 n, .int .i64 n] w (RetS w (paths n)) from fun w => l3All_any (2 * n) [] n n w (Nat.le_refl _) (by omega) (by omega) (by simp; omega))
  go_enter Tryz.func40, Tryz.ntmps40
  go_wp2_with fail
  refine (l1In_any _ _ _ _).mono ?_
  rintro e w' ⟨rfl, rfl⟩
  rw [HB.out]
  go_wp2_with fail
  refine (HC.out _).mono ?_
  rintro e w1 ⟨A, m, c, hm, rfl, ho, hb⟩
  have HO := Lib.hid ho
  have HM := Lib.hid hm
  clear ho hm
  go_wp2_with fail
  go_ret
  exact RetS.mk HM.out rfl HO.out.1 hb

end Go.Proofs.YtghfhkbncjgaeaaGreat
