/- Merged: TkI. -/
import Derived.Test.YtghfhkbncjgaeaaGreatMg37
import Derived.Test.YtghfhkbncjgaeaaGreatMg38
import Derived.Test.YtghfhkbncjgaeaaGreatMg24

namespace Go.Proofs.YtghfhkbncjgaeaaGreat
set_option linter.unusedVariables false
open Go.RowKit Go.Deep

set_option maxHeartbeats 1000000 in
theorem implBinaryOf_yes (t : Tr) (w : World) (h : nodes t ≤ 8) :
    Calls Tryz.prog 67 #[.string (bs (wd t))] w fun e w' => e = .returned (.tuple #[.string (bs (tx t)), .bool true]) ∧ Below w.heap.size w w' := by
  have hl := wd_len t
  have HB := Lib.hid (dyck_wd h)
  have HC := Lib.hid (fun w => treeOfPath_any t w h)
  have HX := Lib.hid (fun (M : Tr) (w : World) (hM : sh M = sh t) (hT : TIn w M) => show Calls Tryz.prog 102 #[M.ptr] w fun e w' => e = .returned (.string (bs (tx t))) ∧ ∃ n, w' = w.drewN n by
    have := text_any M w hT (by have h1 := nodes_of_sh hM; omega)
    rwa [tx_of_sh hM] at this)
  obtain ⟨X, hX⟩ : ∃ X, X = tx t := ⟨_, rfl⟩
  obtain ⟨Q, hQ⟩ : ∃ Q, Q = wd t := ⟨_, rfl⟩
  rw [← hX] at HX ⊢
  rw [← hQ] at HC HB hl ⊢
  have hL9 : Q.length ≤ 1000000000 := by omega
  clear hX hQ hl
  go_enter Tryz.func67, Tryz.ntmps67
  go_wp2_with fail
  refine (implIsDyck_any _ _ hL9).mono ?_
  rintro e w1 ⟨rfl, hb1⟩
  rw [HB.out]
  have hs1 := hb1.size
  go_wp2_with fail
  refine (HC.out _).mono ?_
  rintro e w2 ⟨M, p, hsM, hp, rfl, hT, hb2⟩
  have HM := Lib.hid (HX.out M w2 hsM hT)
  rw [hp] at HM
  have hb3 := hb1.trans (hb2.mono hs1)
  clear hsM hp hT hb2
  go_wp2_with fail
  refine HM.out.mono ?_
  rintro e w3 ⟨rfl, q, rfl⟩
  go_wp2_with fail
  go_ret2
  exact ⟨rfl, below_drewN' hb3 q⟩

set_option maxRecDepth 20000 in
set_option maxHeartbeats 2000000 in
theorem implTriangulationOf_yes (t : Tr) (w : World) (h : nodes t ≤ 3 ∨ nodes t ≤ 4 ∨ nodes t ≤ 8) (h5 : (sdI t 0 (nodes t + 1) []).length ≤ 7) (h2 : ∀ r ∈ sdI t 0 (nodes t + 1) [], r.length = 2) :
    Calls Tryz.prog 68 #[.string (bs (tx t))] w (RetDgB w (insD (sdI t 0 (nodes t + 1) [])) true) := by
  unfold RetDgB
  have h8 : nodes t ≤ 8 := by omega
  have HP := Lib.hid (fun w => parseTree_yes t w h8)
  obtain ⟨X, hX⟩ : ∃ X, X = tx t := ⟨_, rfl⟩
  rw [← hX] at HP ⊢
  have hIL : (insD (sdI t 0 (nodes t + 1) [])).length = (sdI t 0 (nodes t + 1) []).length := by
    have := insD_len id (sdI t 0 (nodes t + 1) []) _ (Nat.le_refl _)
    rwa [List.map_id, List.take_length] at this
  have HIL := Lib.hid hIL
  have HTR := Lib.hid (fun (M : Tr) (w0 : World) (hM : sh M = sh t) (hT : TIn w0 M) (q : Nat) => show Calls Tryz.prog 104 #[M.ptr, .int .i64 0, .int .i64 ((nodes t : Int) + 1), .slice (some ⟨w0.heap.size, 0, none⟩) 0 0, .slice (some ⟨w0.heap.size + 1, 0, none⟩) 0 0] (((w0.drewN q).alloc (.cells #[] 28)).alloc (.cells #[] 28)) (RTri w0.heap.size 0 0 (nodes t) (sdI t 0 (nodes t + 1) []) (((w0.drewN q).alloc (.cells #[] 28)).alloc (.cells #[] 28))) by
    have hnn := nodes_of_sh hM
    have hb0 : Below w0.heap.size w0 (((w0.drewN q).alloc (.cells #[] 28)).alloc (.cells #[] 28)) := ((below_drewN' (Below.refl _ _) q).alloc (Nat.le_refl _) _).alloc (by simp) _
    have hTw : TwR w0.heap.size (((w0.drewN q).alloc (.cells #[] 28)).alloc (.cells #[] 28)) (some ⟨w0.heap.size, 0, none⟩) 0 0 [] (some ⟨w0.heap.size + 1, 0, none⟩) 0 0 [] [] := by
      refine ⟨(Own.lit (w0.drewN q) 28 #[] 0 rfl (by decide)).alloc _, ?_, fun g h1 h2 => ?_⟩
      · have := (O2.empty ((w0.drewN q).alloc (.cells #[] 28))).mono (lo' := w0.heap.size) (by simp)
        simpa using this
      · cases h1
        injection h2 with h2
        injection h2 with h2
        omega
    have := triangles_any w0.heap.size w0 M 0 (nodes t + 1) 0 ((nodes t : Int) + 1) rfl (by omega) _ _ 0 0 [] _ 0 0 [] [] hTw (by omega) (by omega) (Nat.le_refl _) (by simp; omega) hb0 hT (TIn.lt hT)
    rw [hnn] at this
    rwa [← sdI_sh M, hM, sdI_sh t] at this)
  have HND := Lib.hid (fun (M : Tr) (w0 : World) (hM : sh M = sh t) (hT : TIn w0 M) => show Calls Tryz.prog 105 #[M.ptr] w0 fun e w' => e = .returned (.int .i64 (nodes t)) ∧ ∃ n, w' = w0.drewN n by
    have := nodes_any M w0 hT (by have h1 := nodes_of_sh hM; omega)
    rwa [nodes_of_sh hM] at this)
  obtain ⟨D, hD⟩ : ∃ D, D = sdI t 0 (nodes t + 1) [] := ⟨_, rfl⟩
  rw [← hD] at HTR HIL h5 h2 ⊢
  have H2 := Lib.hid h2
  clear hX hIL hD h2 h
  go_enter Tryz.func68, Tryz.ntmps68
  go_wp2_with fail
  refine (HP.out _).mono ?_
  rintro e w1 ⟨M, p, hsM, hp, rfl, hT, -, hb1⟩
  have HN := Lib.hid (HND.out M w1 hsM hT)
  have HT := Lib.hid (fun q => HTR.out M w1 hsM hT q)
  rw [hp] at HN HT
  have hs1 := hb1.size
  clear hsM hp hT
  go_wp2_with fail
  refine HN.out.mono ?_
  rintro e w2 ⟨rfl, q, rfl⟩
  go_wp2_with fail
  refine (HT.out q).mono ?_
  rintro e w3 ⟨A1, c1, vs1, a2, n2, c2, vs2, rfl, tw, hb3, -⟩
  have hn2 : n2 ≤ 7 := by have := tw.si.n_eq; omega
  have HO := Lib.hid tw.si
  have HNL := Lib.hid tw.si.n_eq
  have hb3' : Below w1.heap.size w1 w3 := (((below_drewN' (Below.refl _ _) q).alloc (Nat.le_refl _) (.cells #[] 28)).alloc (by simp) (.cells #[] 28)).trans hb3
  have hb4 := hb1.trans (hb3'.mono hs1)
  clear tw hb3
  go_wp2_with fail
  refine (sortFunc_any w1.heap.size a2 n2 c2 vs2 D w3 HO.out H2.out hn2).mono ?_
  rintro e w4 ⟨rfl, ⟨vs4, hO4⟩, hb5⟩
  have HO4 := Lib.hid hO4
  have hb6 := hb4.trans (hb5.mono hs1)
  clear hO4
  go_wp2_with fail
  go_ret2
  exact ⟨a2, n2, c2, vs4, by rw [HIL.out]; exact HNL.out, (own_capT2 HO4.out.outer).1, (own_capT2 HO4.out.outer).2, rfl, HO4.out.r2, hb6⟩

theorem O2.pushLit {w w' : World} {lo : Nat} {A : Option Addr} {n c : Nat} {vs : List Value} {xss : List (List Int)} {o2 : Obj} {g' c' : Nat} {x y : Int} (h : O2 w lo A n c vs xss) (hlo : lo ≤ w.heap.size) (ho : Own w' 28 lo (some ⟨g', 0, none⟩) (n + 1) c' (vs ++ [.slice (some ⟨w.heap.size, 0, none⟩) 2 2])) (hg : ((w.alloc (.cells #[.int .i64 x, .int .i64 y] 3)).alloc o2).grownBy w' (Value.ownBlock (.slice A n c))) :
    O2 w' lo (some ⟨g', 0, none⟩) (n + 1) c' (vs ++ [.slice (some ⟨w.heap.size, 0, none⟩) 2 2]) (xss ++ [[x, y]]) := by
  refine O2.push (ys := [x, y]) ((h.alloc _).alloc o2) (((Own.lit w 3 #[.int .i64 x, .int .i64 y] 2 rfl (by decide)).mono hlo).alloc o2) ?_ hg ho
  intro g hgg j u hu he
  cases hgg
  have hjl : j < xss.length := by rw [← h.len]; exact (List.getElem?_eq_some_iff.1 hu).1
  obtain ⟨Aj, cj, e1, e2⟩ := h.row j xss[j] (List.getElem?_eq_getElem hjl)
  rw [hu] at e1
  cases e1
  have := (e2.blk _ he).2
  omega
theorem map_take_step {d : List (List Int)} {f : List Int → List Int} {i : Nat} {x : List Int} (h : d[i]? = some x) : (d.take (i + 1)).map f = (d.take i).map f ++ [f x] := by
  obtain ⟨h1, h2⟩ := List.getElem?_eq_some_iff.1 h
  rw [List.take_succ_eq_append_getElem h1, h2, List.map_append]; rfl

set_option maxRecDepth 20000 in
set_option maxHeartbeats 4000000 in
theorem implTurnPolygon_yes (A : Option Addr) (n m c k : Nat) (vs : List Value) (d : List (List Int)) (w : World) (h : R2 w A m vs d) (ht : triB n d = true) (hk : k < n) (hmc : m ≤ c) :
    Calls Tryz.prog 69 #[.int .i64 n, .slice A m c, .int .i64 k] w (RetDgB w (turnD n d k) true) := by
  unfold RetDgB
  have H := triOk ht
  have hml := h.n_eq
  have hm7 : m ≤ 7 := by rw [hml]; exact H.len7
  have hn2 := H.n2
  have hn10 := H.n10
  have HT := Lib.hid H
  have HTB := Lib.hid ht
  have HR := Lib.hid h
  have HM := Lib.hid hml
  have HKB := Lib.hid (show inB (k : Int) 0 ((n : Int) - 1) = true from inB_true (by omega) (by omega))
  have u2 : IntKind.i64.wrap ((n : Int) - 1) = (n : Int) - 1 := IntWalk.i64_in _ (by omega)
  clear h ht H hml
  go_enter Tryz.func69, Tryz.ntmps69
  go_wp2_with fail
  refine (implIsTriangulation_yes _ _ _ _ _ _ _ HR.out HTB.out hmc).mono ?_
  rintro e w1 ⟨rfl, q, hq⟩
  have hbw : Below w.heap.size w w1 := by rw [hq]; exact below_drewN' (Below.refl _ _) q
  have hsz : w.heap.size = w1.heap.size := by rw [hq]; rfl
  have HSZ := Lib.hid hsz
  clear hq hsz
  go_wp2_with fail
  refine (within_any _ _ _ _).mono ?_
  rintro e w' ⟨rfl, rfl⟩
  rw [HKB.out]
  have HO0 := Lib.hid (show O2 (w1.alloc (.cells #[] 28)) w.heap.size (some ⟨w1.heap.size, 0, none⟩) 0 0 [] ((d.take 0).map (rowD n k)) from (O2.empty w1).mono (by rw [HSZ.out]; exact Nat.le_refl _))
  have hbw2 := hbw.alloc hbw.size (.cells #[] 28)
  go_wp2_with fail
  go_loopw [8, 10, 11, 12, 28] (fun s _ _ _ iv' wr => ∃ (i g c' : Nat) (vs' : List Value), i ≤ m ∧ iv' = .int .i64 i ∧ s = .slice (some ⟨g, 0, none⟩) i c' ∧ O2 wr w.heap.size (some ⟨g, 0, none⟩) i c' vs' ((d.take i).map (rowD n k)) ∧ Below w.heap.size w wr) (fun _ _ _ _ iv' _ => m - (intOf iv').toNat)
  case atStart => exact ⟨0, w1.heap.size, 0, [], Nat.zero_le _, rfl, rfl, HO0.out, hbw2⟩
  case round =>
    obtain ⟨i, g, c', vs', hi, rfl, rfl, ho, hb⟩ := hrel
    have O := Lib.hid ho
    have hbs := hb.size
    clear ho
    by_cases hlt : i < m
    · obtain ⟨x, hx⟩ : ∃ x, d[i]? = some x := ⟨_, List.getElem?_eq_getElem (by have := HM.out; omega)⟩
      have hx2 := HT.out.two i x hx
      obtain ⟨b, off, Ai, ci, rfl, hc, hrd⟩ := (HR.out.below hb).at_ hx
      rw [hx2] at hc hrd
      obtain ⟨b1, o1, rfl, p1, p2⟩ := getD2 hrd
      have yb := HT.out.nums hx
      have HS := Lib.hid (map_take_step (f := rowD n k) hx)
      obtain ⟨X0, hX0⟩ : ∃ z, z = x.getD 0 0 := ⟨_, rfl⟩
      obtain ⟨X1, hX1⟩ : ∃ z, z = x.getD 1 0 := ⟨_, rfl⟩
      rw [← hX0] at p1 yb
      rw [← hX1] at p2 yb
      obtain ⟨P, hP⟩ : ∃ P, P = (X0 + (k : Int)) % (n : Int) := ⟨_, rfl⟩
      obtain ⟨Q, hQ⟩ : ∃ Q, Q = (X1 + (k : Int)) % (n : Int) := ⟨_, rfl⟩
      have hPn : 0 ≤ P ∧ P < n := by rw [hP]; exact ⟨Int.emod_nonneg _ (by omega), Int.emod_lt_of_pos _ (by omega)⟩
      have hQn : 0 ≤ Q ∧ Q < n := by rw [hQ]; exact ⟨Int.emod_nonneg _ (by omega), Int.emod_lt_of_pos _ (by omega)⟩
      have HRW := Lib.hid (show rowD n k x = [min P Q, max P Q] by unfold rowD; rw [← hX0, ← hX1, hP, hQ])
      have u4 : IntKind.i64.wrap (X0 + (k : Int)) = X0 + (k : Int) := IntWalk.i64_in _ (by omega)
      have u5 : IntKind.i64.wrap (X1 + (k : Int)) = X1 + (k : Int) := IntWalk.i64_in _ (by omega)
      have m1 : Int.tmod (X0 + (k : Int)) (n : Int) = P := by rw [hP, Int.tmod_eq_emod_of_nonneg (by omega)]
      have m2 : Int.tmod (X1 + (k : Int)) (n : Int) = Q := by rw [hQ, Int.tmod_eq_emod_of_nonneg (by omega)]
      have m3 : (X0 + (k : Int)) % (n : Int) = P := hP.symm
      have m4 : (X1 + (k : Int)) % (n : Int) = Q := hQ.symm
      have u6 : IntKind.i64.wrap P = P := IntWalk.i64_in _ (by omega)
      have u7 : IntKind.i64.wrap Q = Q := IntWalk.i64_in _ (by omega)
      have n0 : ((n : Int) == 0) = false := by rw [beq_eq_false_iff_ne]; omega
      have n0' : ¬ (n : Int) = 0 := by omega
      have n0'' : ¬ n = 0 := by omega
      have i0 : (0 : Int) ≤ (i : Int) := by omega
      have i1 : (i : Int) < (m : Int) := by omega
      clear hx hx2 hrd hX0 hX1 hP hQ
      go_wp2_with fail
      go_quiet (fail)
      generalize hw2 : wr.drewN _ = w2
      have O2' := Lib.hid (show O2 w2 w.heap.size (some ⟨g, 0, none⟩) i c' vs' ((d.take i).map (rowD n k)) by rw [← hw2]; exact O.out.drewN _)
      have hb2 : Below w.heap.size w w2 := by rw [← hw2]; exact below_drewN' hb _
      have hs2 := hb2.size
      clear hw2
      rcases Int.lt_trichotomy P Q with hPQ | hPQ | hPQ
      case' inl =>
        have r1 : ¬ Q < P := by omega
        have HRW2 := Lib.hid (show rowD n k x = [P, Q] by rw [HRW.out, show min P Q = P by omega, show max P Q = Q by omega])
        go_wp2_with (at_builtin; refine appRowL _ rfl _ _ rfl w.heap.size (some ⟨g, 0, none⟩) i c' vs' rfl ((O2'.out.outer.alloc (.cells #[.int .i64 P, .int .i64 Q] 3)).alloc _) (w2.heap.size + 1) (some ⟨w2.heap.size, 0, none⟩) 2 2 rfl (by simp) (by omega) (by omega) ?_; intro g3 c3 w3 hown hgr hb3 hat)
      case' inr.inl =>
        have r1 : ¬ Q < P := by omega
        have r2 : ¬ P < Q := by omega
        have HRW2 := Lib.hid (show rowD n k x = [P, P] by rw [HRW.out, show min P Q = P by omega, show max P Q = P by omega])
        clear hPQ
        go_wp2_with (at_builtin; refine appRowL _ rfl _ _ rfl w.heap.size (some ⟨g, 0, none⟩) i c' vs' rfl ((O2'.out.outer.alloc (.cells #[.int .i64 P, .int .i64 P] 3)).alloc _) (w2.heap.size + 1) (some ⟨w2.heap.size, 0, none⟩) 2 2 rfl (by simp) (by omega) (by omega) ?_; intro g3 c3 w3 hown hgr hb3 hat)
      case' inr.inr =>
        have r1 : ¬ P < Q := by omega
        have HRW2 := Lib.hid (show rowD n k x = [Q, P] by rw [HRW.out, show min P Q = Q by omega, show max P Q = P by omega])
        go_wp2_with (at_builtin; refine appRowL _ rfl _ _ rfl w.heap.size (some ⟨g, 0, none⟩) i c' vs' rfl ((O2'.out.outer.alloc (.cells #[.int .i64 Q, .int .i64 P] 3)).alloc _) (w2.heap.size + 1) (some ⟨w2.heap.size, 0, none⟩) 2 2 rfl (by simp) (by omega) (by omega) ?_; intro g3 c3 w3 hown hgr hb3 hat)
      all_goals
        have O3 := Lib.hid (O2'.out.pushLit hs2 hown hgr)
        have hb4 := ((hb2.alloc hs2 _).alloc (by simp; omega) _).trans hb3
        clear hown hgr hb3 hat
        go_wp2_with fail
        go_roundw
        case rel => exact ⟨i + 1, by omega, by omega, g3, c3, ⟨rfl, rfl, rfl⟩, _, by have h := O3.out; rw [← HRW2.out, ← HS.out, List.map_take] at h; exact h⟩
        case measure => simp [intOf]; omega
    · have HE := Lib.hid (show turnD n d k = insD ((d.take i).map (rowD n k)) by unfold turnD; rw [List.take_of_length_le (by have := HM.out; omega)])
      have HEL := Lib.hid (show i = (insD ((d.take i).map (rowD n k))).length by rw [insD_len (rowD n k) d i (by have := HM.out; omega)])
      have HTW := Lib.hid (show ∀ r ∈ (d.take i).map (rowD n k), r.length = 2 from fun r hr => by obtain ⟨z, _, rfl⟩ := List.mem_map.1 hr; rfl)
      go_wp2_with fail
      refine (sortFunc_any w.heap.size g i c' vs' _ wr O.out HTW.out (by omega)).mono ?_
      rintro e w4 ⟨rfl, ⟨vs4, hO4⟩, hb5⟩
      have HO4 := Lib.hid hO4
      have hb6 := hb.trans hb5
      clear hO4
      go_wp2_with fail
      go_ret2
      rw [HE.out]
      exact ⟨g, i, c', vs4, HEL.out, (own_capT2 HO4.out.outer).1, (own_capT2 HO4.out.outer).2, rfl, HO4.out.r2, hb6⟩

end Go.Proofs.YtghfhkbncjgaeaaGreat
