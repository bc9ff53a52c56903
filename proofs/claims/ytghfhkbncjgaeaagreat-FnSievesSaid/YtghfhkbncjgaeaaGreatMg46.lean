/- Merged: DivImpl DivMain. -/
import Derived.Test.YtghfhkbncjgaeaaGreatMg45

namespace Go.Proofs.YtghfhkbncjgaeaaGreat
open Go.RowKit

/-- What divide hands back. -/
def DivPost (w : World) (o : Option (List Int × List Int)) (e : Ending) (w' : World) : Prop :=
  match o with
  | none => e = .returned (.tuple #[.slice none 0 0, .slice none 0 0, .bool false]) ∧ Below w.heap.size w w'
  | some (q, r) => ∃ R0 m0 d0 R1 m1 d1, m0 = (trimL q).length ∧ m1 = (trimL r).length ∧ e = .returned (.tuple #[.slice R0 m0 d0, .slice R1 m1 d1, .bool true]) ∧ Own w' 3 w.heap.size R0 m0 d0 (iv (trimL q)) ∧ Own w' 3 w.heap.size R1 m1 d1 (iv (trimL r)) ∧ (∀ k, Value.ownBlock (.slice R0 m0 d0) = some k → Value.ownBlock (.slice R1 m1 d1) ≠ some k) ∧ Below w.heap.size w w'

set_option maxHeartbeats 2000000 in
theorem divide_any (A1 : Option Addr) (n1 c1 : Nat) (xs : List Int) (A2 : Option Addr) (n2 c2 : Nat) (ys : List Int) (w : World) (h1 : Rd w A1 n1 (iv xs)) (h2 : Rd w A2 n2 (iv ys)) (hx : xs.length ≤ 61 ∧ ∀ x ∈ xs, -10000000 ≤ x ∧ x ≤ 10000000) (hy : isDiv ys = true) :
    Calls Tryz.prog 50 #[.slice A1 n1 c1, .slice A2 n2 c2] w (DivPost w (divQ xs ys)) := by
  have HR1 := Lib.hid h1
  have HR2 := Lib.hid h2
  have HL1 := Lib.hid (show xs.length = n1 by have := h1.len; rw [iv_len] at this; exact this)
  have HL2 := Lib.hid (show ys.length = n2 by have := h2.len; rw [iv_len] at this; exact this)
  obtain ⟨b1, bx⟩ := hx
  obtain ⟨b2, b3, _, by'⟩ := isDiv_iff hy
  rw [HL1.out] at b1
  rw [HL2.out] at b2 b3
  have BX := Lib.hid bx
  have BY := Lib.hid by'
  clear h1 h2 hy bx by'
  go_enter Tryz.func50, Tryz.ntmps50
  go_wp2_with fail
  refine (copyInts_any _ _ _ _ _ HR1.out (by omega)).mono ?_
  rintro e w1 ⟨Al, nl, cl, hnl, rfl, hol, hb1⟩
  obtain rfl : n1 = nl := by rw [hnl, HL1.out]
  have HOL := Lib.hid hol
  have hs1 := hb1.size
  clear hnl
  obtain ⟨m, hm, hmm⟩ := mkDiv n1 n2 (by omega) w1
  have HM := Lib.hid hm
  have HN := Lib.hid (show n1 < n1 + 1 from Nat.lt_succ_self _)
  have hm61 : m ≤ 61 := by omega
  have hown0 := Own.made w1 3 (.int .i64 0) m (by unfold maxLen; omega)
  rw [iv_rep] at hown0
  have HO0 := Lib.hid (hown0.mono hs1)
  have hgne : ∀ g : Nat, Al = some ⟨g, 0, none⟩ → g ≠ w1.heap.size := fun g hg => by have := (hol.blk g (by rw [hg]; rfl)).2; omega
  clear hown0 hol hm
  rcases hmm with ⟨hmx, hmi, hmk⟩ | ⟨hmx, hmi, hmk⟩
  all_goals
    clear hmi
    go_wp2_with fail
    clear hmx hmk
    go_loopw [9, 10, 11, 12] (fun i _ _ _ wr => ∃ (z : Nat) (q r : List Int), z ≤ m ∧ i = .int .i64 ((z : Int) - 1) ∧ Hid (divR ys z q r = divQ xs ys) ∧ Hid (∀ j : Nat, -(10000000 + ((m : Int) - z) * 1000000000) ≤ r.getD j 0 ∧ r.getD j 0 ≤ 10000000 + ((m : Int) - z) * 1000000000) ∧ Own wr 3 w.heap.size (some ⟨w1.heap.size, 0, none⟩) m m (iv q) ∧ Own wr 3 w.heap.size Al n1 cl (iv r) ∧ Below w.heap.size w wr) (fun i _ _ _ _ => (intOf i + 1).toNat)
    case atStart => exact ⟨m, List.replicate m 0, xs, Nat.le_refl _, rfl, Lib.hid (by unfold divQ; rw [HL1.out, HL2.out, HM.out]), Lib.hid (fun j => by have := getD_bd7 BX.out j; omega), HO0.out, HOL.out.alloc _, hb1.alloc hs1 _⟩
    case round =>
      obtain ⟨z, q, r, hz, rfl, HD, HB, hoq, hor, hb⟩ := hrel
      rcases z with _ | z
      · have HD' := Lib.hid (show divQ xs ys = some (q, r) from HD.out.symm)
        have HQ := Lib.hid hoq
        have HR := Lib.hid hor
        have hsz := hb.size
        clear hoq hor HD HB
        have zz : ¬ (0 : Int) ≤ ((0 : Nat) : Int) - 1 := by omega
        have HLQ := Lib.hid (show q.length = m by have := HQ.out.len; rw [iv_len] at this; exact this)
        have HLR := Lib.hid (show r.length = n1 by have := HR.out.len; rw [iv_len] at this; exact this)
        have hcl : n1 ≤ cl ∧ cl ≤ 9223372036854775807 ∧ (Al = none → cl = 0) := own_cap HR.out
        go_wp2_with fail
        refine (trimmed_any _ _ _ _ _ HQ.out.rd (by omega) (Nat.le_refl _) (by unfold maxLen; omega) (by simp)).mono ?_
        rintro e w' ⟨rfl, rfl⟩
        go_wp2_with fail
        refine (trimmed_any _ _ _ _ _ HR.out.rd (by omega) hcl.1 (by unfold maxLen; omega) hcl.2.2).mono ?_
        rintro e w' ⟨rfl, rfl⟩
        go_wp2_with fail
        go_ret3
        rw [HD'.out]
        exact ⟨_, _, _, _, _, _, by rw [trimL_len, HLQ.out], by rw [trimL_len, HLR.out], rfl, by rw [trimL, HLQ.out, ← iv_take]; exact HQ.out.front (tz_le _ _), by rw [trimL, HLR.out, ← iv_take]; exact HR.out.front (tz_le _ _), by
          intro k hk hk2
          rcases Al with _ | ⟨ga, oa, sa⟩
          · cases hk2
          · have e1 : w1.heap.size = k := by simpa [Value.ownBlock] using hk
            have e2 : ga = k := by simpa [Value.ownBlock] using hk2
            rcases HR.out.form with ⟨h0, _⟩ | ⟨g0, h0, _⟩
            · cases h0
            · cases h0
              exact hgne ga rfl (by omega), hb⟩
      · have ez : ((z + 1 : Nat) : Int) - 1 = (z : Int) := by omega
        rw [ez]
        have hN := HN.out
        have hM := HM.out
        obtain ⟨g, f, hg, hgl, hgs, hf, hcf, hff⟩ := hor.ati (show z + n2 - 1 < n1 by omega)
        subst hg
        have hgm := hgne g rfl
        have HF := Lib.hid (getD_ofQ hf)
        have HQ := Lib.hid hoq
        have HR := Lib.hid hor
        have i0 : (0 : Int) ≤ (z : Int) + (n2 : Int) - 1 := by omega
        have i1 : (z : Int) + (n2 : Int) - 1 < (n1 : Int) := by omega
        have i2 : ((z : Int) + (n2 : Int) - 1).toNat = z + n2 - 1 := by omega
        have i3 : IntKind.i64.wrap ((z : Int) + (n2 : Int) - 1) = (z : Int) + (n2 : Int) - 1 := IntWalk.i64_in _ (by omega)
        have i4 : IntKind.i64.wrap ((z : Int) + (n2 : Int)) = (z : Int) + (n2 : Int) := IntWalk.i64_in _ (by omega)
        clear hf hor hoq ez
        rcases hin : inM f with _ | _
        · have HI := Lib.hid hin
          have HD' := Lib.hid (show divQ xs ys = none by rw [← HD.out, divR, HL2.out, HF.out, if_neg (by rw [hin]; decide)])
          have hsz := hb.size
          clear hin hN hM HB
          go_wp2_with fail
          refine (within_any _ _ _ _).mono ?_
          rintro e w' ⟨rfl, rfl⟩
          rw [show inB f (-1000000000) 1000000000 = false from HI.out]
          go_wp2_with fail
          go_ret3
          rw [HD'.out]
          exact ⟨rfl, hb⟩
        · have HI := Lib.hid hin
          have HD' := Lib.hid (show divR ys z (q.set z f) (upd r (fun k => -(f * ys.getD k 0)) z n2) = divQ xs ys by rw [← HD.out, divR, HL2.out, HF.out, if_pos hin])
          have fb := inB_iff.1 (show inB f (-1000000000) 1000000000 = true from hin)
          obtain ⟨gq, fq, hgq, _, hgqs, _, hcq, hfq⟩ := HQ.out.ati (show z < m by omega)
          cases hgq
          have HQ' := Lib.hid (HQ.out.puti z f)
          have HR' := Lib.hid (HR.out.set_far (p := ⟨w1.heap.size, z, none⟩) (fun g' hg' => by cases hg'; exact hgm) (.int .i64 f))
          have hb' := hb.setCell (p := ⟨w1.heap.size, z, none⟩) hs1 (.int .i64 f)
          have zm : (z : Int) < (m : Int) := by omega
          have zb : z + n2 ≤ n1 := by omega
          clear hin hN hM
          go_wp2_with fail
          refine (within_any _ _ _ _).mono ?_
          rintro e w' ⟨rfl, rfl⟩
          rw [show inB f (-1000000000) 1000000000 = true from HI.out]
          go_wp2_with fail
          go_loopw [11, 12, 47] (fun _ _ i wr => ∃ j : Nat, j ≤ n2 ∧ i = .int .i64 j ∧ Own wr 3 w.heap.size (some ⟨w1.heap.size, 0, none⟩) m m (iv (q.set z f)) ∧ Own wr 3 w.heap.size (some ⟨g, 0, none⟩) n1 cl (iv (upd r (fun k => -(f * ys.getD k 0)) z j)) ∧ Below w.heap.size w wr) (fun _ _ i _ => n2 - (intOf i).toNat)
          case atStart => exact ⟨0, Nat.zero_le _, rfl, HQ'.out, HR'.out, hb'⟩
          case round =>
            obtain ⟨j, hj, rfl, hoq, hor, hb2⟩ := hrel
            by_cases hlt2 : j < n2
            · obtain ⟨b2, o2, x2, rfl, hx2, hc2⟩ := (HR2.out.below hb2).ati hlt2
              obtain ⟨g', y, hg', _, hgs', hy, hcy, hfy⟩ := hor.ati (show z + j < n1 by omega)
              cases hg'
              have HQ2 := Lib.hid hoq
              have HR3 := Lib.hid hor
              have ux := getD_unit BY.out j
              rw [getD_ofQ hx2] at ux
              have pb := unit_mul fb ux
              have rl : r.length = n1 := by have := HR.out.len; rw [iv_len] at this; exact this
              have yb := upd_div_bd (z := z) HB.out fb BY.out j (by omega) (z + j)
              rw [getD_ofQ hy] at yb
              have HNN := Lib.hid (show (upd r (fun k => -(f * ys.getD k 0)) z j).set (z + j) (y - f * x2) = upd r (fun k => -(f * ys.getD k 0)) z (j + 1) by
                show _ = List.set _ _ _
                rw [getD_ofQ hy]; show _ = List.set _ (z + j) (y + -(f * ys.getD j 0)); rw [getD_ofQ hx2, Int.sub_eq_add_neg])
              have kk0 : (0 : Int) ≤ (z : Int) + (j : Int) := by omega
              have kk : (z : Int) + (j : Int) < (n1 : Int) := by omega
              have ke : ((z : Int) + (j : Int)).toNat = z + j := by omega
              have v1 : IntKind.i64.wrap (f * x2) = f * x2 := IntWalk.i64_in _ (by omega)
              have v2 : IntKind.i64.wrap (y - f * x2) = y - f * x2 := IntWalk.i64_in _ (by omega)
              have v3 : IntKind.i64.wrap ((z : Int) + (j : Int)) = (z : Int) + (j : Int) := IntWalk.i64_in _ (by omega)
              clear hx2 hy hoq hor yb pb rl ux hcf hff hcq hfq
              go_wp2_with fail
              go_roundw
              case rel => exact ⟨j + 1, by omega, by go_num, HQ2.out.set_far (p := ⟨g, z + j, none⟩) (fun g' hg' => by cases hg'; exact fun e => hgm e.symm) _, by rw [← HNN.out]; exact HR3.out.puti (z + j) (y - f * x2), (hb2.setCell (p := ⟨g, z + j, none⟩) hgl _)⟩
              case measure => simp [intOf]; omega
            · have HQ2 := Lib.hid hoq
              have HR3 := Lib.hid (show Own wr 3 w.heap.size (some ⟨g, 0, none⟩) n1 cl (iv (upd r (fun k => -(f * ys.getD k 0)) z n2)) by rw [show n2 = j by omega]; exact hor)
              have rl : r.length = n1 := by have := HR.out.len; rw [iv_len] at this; exact this
              have HB2 := Lib.hid (show ∀ j : Nat, -(10000000 + ((m : Int) - z) * 1000000000) ≤ (upd r (fun k => -(f * ys.getD k 0)) z n2).getD j 0 ∧ (upd r (fun k => -(f * ys.getD k 0)) z n2).getD j 0 ≤ 10000000 + ((m : Int) - z) * 1000000000 from fun j => by
                have := upd_div_bd (z := z) HB.out fb BY.out n2 (by omega) j
                omega)
              clear hoq hor rl
              go_wp2_with fail
              go_roundw
              case rel => exact ⟨z, _, _, by omega, rfl, HD'.out, HB2.out, HQ2.out, HR3.out, hb2⟩
              case measure => simp [intOf]

end Go.Proofs.YtghfhkbncjgaeaaGreat

namespace Go.Proofs.YtghfhkbncjgaeaaGreat
open Go.RowKit

theorem divP_bad1 {xs ys : List Int} (h : isFac xs = false) : divP xs ys = ([], [], false) := by simp [divP, h]
theorem divP_bad2 {xs ys : List Int} (h : isDiv ys = false) : divP xs ys = ([], [], false) := by simp [divP, h]
theorem isDiv_bad1 {ys : List Int} (h : inB ys.length 1 13 = false) : isDiv ys = false := by simp [isDiv, h]
theorem isDiv_bad2 {ys : List Int} {y : Int} (h : ys.getLastD 0 = y) (h1 : y ≠ 1) : isDiv ys = false := by
  unfold isDiv
  rw [h, show (y == 1) = false by simpa using h1]; simp
theorem isDiv_bad3 {ys : List Int} (h : ys.all inU = false) : isDiv ys = false := by simp only [isDiv, h, Bool.and_false]
theorem divR_len (ys : List Int) : ∀ (z : Nat) (q r q' r' : List Int), divR ys z q r = some (q', r') → q'.length = q.length ∧ r'.length = r.length
  | 0, q, r, q', r', h => by cases h; exact ⟨rfl, rfl⟩
  | z + 1, q, r, q', r', h => by
    unfold divR at h
    split at h
    · have := divR_len ys z _ _ _ _ h
      rw [List.length_set, upd_len] at this
      exact this
    · cases h
theorem divQ_len {xs ys q r : List Int} (hx : xs.length ≤ 61) (h : divQ xs ys = some (q, r)) : (trimL q).length ≤ 62 ∧ (trimL r).length ≤ 62 := by
  have := divR_len ys _ _ _ _ _ h
  rw [trimL_len, trimL_len]
  have h1 := tz_le q q.length
  have h2 := tz_le r r.length
  simp at this
  omega
theorem take_all_step {P : Int → Bool} {xs : List Int} {k : Nat} {x : Int} (hx : xs[k]? = some x) : (xs.take (k + 1)).all P = ((xs.take k).all P && P x) := by
  obtain ⟨hl, hxx⟩ := List.getElem?_eq_some_iff.1 hx
  rw [List.take_succ_eq_append_getElem hl, List.all_append, hxx]; simp

set_option maxHeartbeats 2000000 in
theorem implDividePolynomials_any (A1 : Option Addr) (n1 c1 : Nat) (xs : List Int) (A2 : Option Addr) (n2 c2 : Nat) (ys : List Int) (w : World) (h1 : Rd w A1 n1 (iv xs)) (h2 : Rd w A2 n2 (iv ys)) (hn1 : n1 ≤ 1000000000) (hn2 : n2 ≤ 1000000000) :
    Calls Tryz.prog 57 #[.slice A1 n1 c1, .slice A2 n2 c2] w (RetIIB w (divP xs ys).1 (divP xs ys).2.1 (divP xs ys).2.2) := by
  have HR1 := Lib.hid h1
  have HR2 := Lib.hid h2
  have HL1 := Lib.hid (show xs.length = n1 by have := h1.len; rw [iv_len] at this; exact this)
  have HL2 := Lib.hid (show ys.length = n2 by have := h2.len; rw [iv_len] at this; exact this)
  clear h1 h2
  rcases hp : isFac xs with _ | _
  · have HF := Lib.hid (divP_bad1 (ys := ys) hp)
    have HP := Lib.hid hp
    clear hp
    go_enter Tryz.func57, Tryz.ntmps57
    go_wp2_with fail
    refine (isFactor_any _ _ _ _ _ HR1.out hn1).mono ?_
    rintro e w' ⟨rfl, rfl⟩
    rw [HP.out]
    go_wp2_with fail
    go_loop [7, 9, 31] (fun o _ i => ∃ k : Nat, k ≤ n2 ∧ i = .int .i64 k ∧ o = .bool false) (fun _ _ i => n2 - (intOf i).toNat)
    case atStart => exact ⟨0, Nat.zero_le _, rfl, rfl⟩
    case round =>
      obtain ⟨k, hk, rfl, rfl⟩ := hrel
      by_cases hlt : k < n2
      · obtain ⟨b, off, x, hA, hx, hc⟩ := HR2.out.ati hlt
        subst hA
        clear hx
        go_wp2_with fail
        go_round
        case rel => exact ⟨k + 1, by omega, by go_num, rfl⟩
        case measure => simp [intOf]; omega
      · go_wp2_with fail
        go_ret3
        rw [HF.out]
        exact RetIIB.empty (Below.refl _ _)
  rcases hq : inB n2 1 13 with _ | _
  · have HF := Lib.hid (divP_bad2 (xs := xs) (isDiv_bad1 (ys := ys) (by rw [HL2.out]; exact hq)))
    have HP := Lib.hid hp
    have HQ := Lib.hid hq
    clear hp hq
    go_enter Tryz.func57, Tryz.ntmps57
    go_wp2_with fail
    refine (isFactor_any _ _ _ _ _ HR1.out hn1).mono ?_
    rintro e w' ⟨rfl, rfl⟩
    rw [HP.out]
    go_wp2_with fail
    refine (within_any _ _ _ _).mono ?_
    rintro e w' ⟨rfl, rfl⟩
    rw [HQ.out]
    go_wp2_with fail
    go_loop [7, 9, 31] (fun o _ i => ∃ k : Nat, k ≤ n2 ∧ i = .int .i64 k ∧ o = .bool false) (fun _ _ i => n2 - (intOf i).toNat)
    case atStart => exact ⟨0, Nat.zero_le _, rfl, rfl⟩
    case round =>
      obtain ⟨k, hk, rfl, rfl⟩ := hrel
      by_cases hlt : k < n2
      · obtain ⟨b, off, x, hA, hx, hc⟩ := HR2.out.ati hlt
        subst hA
        clear hx
        go_wp2_with fail
        go_round
        case rel => exact ⟨k + 1, by omega, by go_num, rfl⟩
        case measure => simp [intOf]; omega
      · go_wp2_with fail
        go_ret3
        rw [HF.out]
        exact RetIIB.empty (Below.refl _ _)
  have g2 := inB_iff.1 hq
  obtain ⟨b0, off0, y, hA, hy, hcy⟩ := HR2.out.ati (show n2 - 1 < n2 by omega)
  subst hA
  have HY := Lib.hid (last_of0 hy (by rw [HL2.out]; omega))
  have i0 : (0 : Int) ≤ (n2 : Int) - 1 := by omega
  have i1 : (n2 : Int) - 1 < (n2 : Int) := by omega
  have i2 : ((n2 : Int) - 1).toNat = n2 - 1 := by omega
  clear hy
  by_cases h1 : y = 1
  case neg =>
    have HF := Lib.hid (divP_bad2 (xs := xs) (isDiv_bad2 HY.out h1))
    have e1 : (y == 1) = false := by simpa using h1
    have HP := Lib.hid hp
    have HQ := Lib.hid hq
    clear hp hq h1
    go_enter Tryz.func57, Tryz.ntmps57
    go_wp2_with fail
    refine (isFactor_any _ _ _ _ _ HR1.out hn1).mono ?_
    rintro e w' ⟨rfl, rfl⟩
    rw [HP.out]
    go_wp2_with fail
    refine (within_any _ _ _ _).mono ?_
    rintro e w' ⟨rfl, rfl⟩
    rw [HQ.out]
    go_wp2_with fail
    go_loop [7, 9, 31] (fun o _ i => ∃ k : Nat, k ≤ n2 ∧ i = .int .i64 k ∧ o = .bool false) (fun _ _ i => n2 - (intOf i).toNat)
    case atStart => exact ⟨0, Nat.zero_le _, rfl, rfl⟩
    case round =>
      obtain ⟨k, hk, rfl, rfl⟩ := hrel
      by_cases hlt : k < n2
      · obtain ⟨b, off, x, hA, hx, hc⟩ := HR2.out.ati hlt
        cases hA
        clear hx
        go_wp2_with fail
        go_round
        case rel => exact ⟨k + 1, by omega, by go_num, rfl⟩
        case measure => simp [intOf]; omega
      · go_wp2_with fail
        go_ret3
        rw [HF.out]
        exact RetIIB.empty (Below.refl _ _)
  have e1 : (y == 1) = true := by simpa using h1
  have HP := Lib.hid hp
  have HQ := Lib.hid hq
  have HY1 := Lib.hid (show ys.getLastD 0 = 1 by rw [HY.out, h1])
  clear hp hq h1
  go_enter Tryz.func57, Tryz.ntmps57
  go_wp2_with fail
  refine (isFactor_any _ _ _ _ _ HR1.out hn1).mono ?_
  rintro e w' ⟨rfl, rfl⟩
  rw [HP.out]
  go_wp2_with fail
  refine (within_any _ _ _ _).mono ?_
  rintro e w' ⟨rfl, rfl⟩
  rw [HQ.out]
  go_wp2_with fail
  go_loop [7, 9, 31] (fun o _ i => ∃ k : Nat, k ≤ n2 ∧ i = .int .i64 k ∧ o = .bool ((ys.take k).all inU)) (fun _ _ i => n2 - (intOf i).toNat)
  case atStart => exact ⟨0, Nat.zero_le _, rfl, rfl⟩
  case round =>
    obtain ⟨k, hk, rfl, rfl⟩ := hrel
    by_cases hlt : k < n2
    · obtain ⟨b, off, x, hA, hx, hc⟩ := HR2.out.ati hlt
      cases hA
      have HS := Lib.hid (take_all_step (P := inU) hx)
      clear hx
      rcases ht : (ys.take k).all inU with _ | _
      · rw [ht] at HS
        clear ht
        go_wp2_with fail
        go_round
        case rel => exact ⟨k + 1, by omega, by go_num, by rw [HS.out]; rfl⟩
        case measure => simp [intOf]; omega
      · rw [ht] at HS
        clear ht
        go_wp2_with fail
        refine (within_any _ _ _ _).mono ?_
        rintro e w' ⟨rfl, rfl⟩
        go_wp2_with fail
        go_round
        case rel => exact ⟨k + 1, by omega, by go_num, by rw [HS.out]; rfl⟩
        case measure => simp [intOf]; omega
    · have hkn : k = n2 := by omega
      subst hkn
      have htk : ys.take k = ys := List.take_of_length_le (by rw [HL2.out]; omega)
      rw [htk]
      rcases ht : ys.all inU with _ | _
      · have HF := Lib.hid (divP_bad2 (xs := xs) (isDiv_bad3 ht))
        clear ht htk
        go_wp2_with fail
        go_ret3
        rw [HF.out]
        exact RetIIB.empty (Below.refl _ _)
      · have hdv : isDiv ys = true := by
          unfold isDiv
          rw [HL2.out, HQ.out, HY1.out, ht]; rfl
        have HDV := Lib.hid hdv
        have HF0 := Lib.hid (show divP xs ys = match divQ xs ys with
          | none => ([], [], false)
          | some (q, r) => if isPol (trimL q) && isPol (trimL r) then (trimL q, trimL r, true) else ([], [], false) by unfold divP; rw [HP.out, hdv]; rfl)
        clear ht htk hdv
        go_wp2_with fail
        refine (divide_any _ _ _ _ _ _ _ _ _ HR1.out HR2.out (isFac_iff7 HP.out) HDV.out).mono ?_
        rcases hdq : divQ xs ys with _ | ⟨q, r⟩
        · have HF := Lib.hid (show divP xs ys = ([], [], false) by rw [HF0.out, hdq])
          clear hdq HF0
          rintro e w2 ⟨rfl, hb⟩
          go_wp2_with fail
          go_ret3
          rw [HF.out]
          exact RetIIB.empty hb
        · have hlen := divQ_len (isFac_iff HP.out).1 hdq
          have HF1 := Lib.hid (show divP xs ys = if isPol (trimL q) && isPol (trimL r) then (trimL q, trimL r, true) else ([], [], false) by rw [HF0.out, hdq])
          clear hdq HF0
          rintro e w2 ⟨R0, m0, d0, R1, m1, d1, hm0, hm1, rfl, ho0, ho1, hne, hb⟩
          have HM0 := Lib.hid hm0
          have HM1 := Lib.hid hm1
          have HO0 := Lib.hid ho0
          have HO1 := Lib.hid ho1
          have HNE := Lib.hid hne
          have l0 : m0 ≤ 1000000000 := by omega
          have l1 : m1 ≤ 1000000000 := by omega
          clear hlen hm0 hm1 ho0 ho1 hne
          rcases hq1 : isPol (trimL q) with _ | _
          · have HF := Lib.hid (show divP xs ys = ([], [], false) by rw [HF1.out, hq1]; rfl)
            have HI := Lib.hid hq1
            clear hq1 HF1
            go_wp2_with fail
            refine (implIsPolynomial_any _ _ _ _ _ HO0.out.rd l0).mono ?_
            rintro e w' ⟨rfl, rfl⟩
            rw [HI.out]
            go_wp2_with fail
            go_ret3
            rw [HF.out]
            exact RetIIB.empty hb
          · rw [hq1] at HF1
            have HI := Lib.hid hq1
            clear hq1
            rcases hr1 : isPol (trimL r) with _ | _
            all_goals
              have HJ := Lib.hid hr1
              rw [hr1] at HF1
              clear hr1
              go_wp2_with fail
              refine (implIsPolynomial_any _ _ _ _ _ HO0.out.rd l0).mono ?_
              rintro e w' ⟨rfl, rfl⟩
              rw [HI.out]
              go_wp2_with fail
              refine (implIsPolynomial_any _ _ _ _ _ HO1.out.rd l1).mono ?_
              rintro e w' ⟨rfl, rfl⟩
              rw [HJ.out]
              go_wp2_with fail
              go_ret3
              rw [HF1.out]
              first
                | exact RetIIB.empty hb
                | exact RetIIB.mk HM0.out HM1.out rfl HO0.out HO1.out HNE.out hb

end Go.Proofs.YtghfhkbncjgaeaaGreat
