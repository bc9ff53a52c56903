/- Merged: Ways UnrS DrawU. -/
import Derived.Test.YtiebaoglcdbopaaCatI
import Derived.Test.YtiebaoglcdbopaaRows2
import Derived.StillTailTactics
import Derived.Test.YtiebaoglcdbopaaDraw2
import Derived.Test.YtiebaoglcdbopaaDrawT
import Derived.Test.YtiebaoglcdbopaaSameW
import Derived.Test.YtiebaoglcdbopaaRtL
import Derived.Test.YtiebaoglcdbopaaRotS
namespace Go.Proofs.Ytiebaoglcdbopaa
set_option linter.unusedVariables false
open Go.RowKit

theorem appRowW (w : World) {ops : Array Oper} {rest : List Oper} {o : Oper} {a : Act} {Q : Exit → Act → World → Prop} (hgd : o.guard = none) (s x : Operand)
    (ho : o.op = .call { callee := .builtin .append, args := #[s, x], argTypes := #[79, 79] })
    (B : Nat) (A : Option Addr) (n c : Nat) (vs : List Value) (hs : a.eval s = .slice A n c) (hown : Own w 42 B A n c vs)
    (g : Nat) (y : Option Addr) (m d : Nat) (hx : a.eval x = .slice (some ⟨g, 0, none⟩) 1 1) (hy : w.cell? ⟨g, 0, none⟩ = some (.slice y m d)) (hn : n ≤ 1000000000) (hbase' : B ≤ g)
    (h : ∀ A' c' w', Own w' 42 B A' (n + 1) c' (vs ++ [.slice y m d]) → w.grownBy w' (Value.ownBlock (.slice A n c)) → Below B w w' → wpList Try.prog ops Q rest (a.put o.dst (.slice A' (n + 1) c')) w') : wpList Try.prog ops Q (o :: rest) a w :=
  app1 w hgd s x 79 ho 42 (.slice none 0 0) 24 Try.underlying79 info_ints rfl (by decide) B A n c vs hs hown g _ hx hy rfl hn hbase' h
/-- The new row x, which lies in its own block, at the end. -/
theorem O2.pushxW {w wv w' : World} {lo g : Nat} {A A' : Option Addr} {n c c' L : Nat} {vs : List Value} {xss : List (List Int)} {ys : List Int} (h : O2 w lo A n c vs xss) (hg : g = w.heap.size) (hb : Below w.heap.size w wv) (hr : Own wv 3 lo (some ⟨g, 0, none⟩) L L (iv ys)) (hL : L = ys.length)
    (ow : Obj) (hgr : (wv.alloc ow).grownBy w' (Value.ownBlock (.slice A n c))) (ho : Own w' 42 lo A' (n + 1) c' (vs ++ [.slice (some ⟨g, 0, none⟩) L L])) : O2 w' lo A' (n + 1) c' (vs ++ [.slice (some ⟨g, 0, none⟩) L L]) (xss ++ [ys]) := by
  subst hL
  refine ((h.below hb).alloc ow).push (hr.alloc ow) ?_ hgr ho
  intro g' hg' j u hu he
  cases hg'
  have hj : j < xss.length := by have := (List.getElem?_eq_some_iff.1 hu).1; rw [h.len] at this; exact this
  obtain ⟨Aj, cj, hv, hoj⟩ := h.row j _ (List.getElem?_eq_getElem hj)
  rw [hu] at hv
  cases hv
  have := (hoj.blk _ he).2
  omega

theorem O2.fill {w : World} {lo : Nat} {A : Option Addr} {n c : Nat} {vs : List Value} {xss : List (List Int)} {gj k j cj : Nat} {x : Int} {old : List Int} (h : O2 w lo A n c vs xss) (hj : xss[j]? = some old) (hv : vs[j]? = some (.slice (some ⟨gj, 0, none⟩) old.length cj)) : O2 (w.setCell ⟨gj, k, none⟩ (.int .i64 x)) lo A n c vs (xss.set j (old.set k x)) where
  outer := h.outer.set_far (p := ⟨gj, k, none⟩) (fun g hA => by obtain ⟨Aj, cj', h1, h2⟩ := h.row j old hj; rw [hv] at h1; cases h1; subst hA; exact own_ne h.outer h2 (by decide)) _
  len := by simp [h.len]
  row i xs hi := by
    by_cases hij : i = j
    · subst hij
      have hl := (List.getElem?_eq_some_iff.1 hj).1
      rw [List.getElem?_set_self hl] at hi
      cases hi
      obtain ⟨Aj, cj', h1, h2⟩ := h.row i old hj
      rw [hv] at h1
      cases h1
      exact ⟨_, _, by rw [List.length_set]; exact hv, by rw [List.length_set]; exact h2.puti k x⟩
    · rw [List.getElem?_set_ne (by omega)] at hi
      obtain ⟨Ai, ci, h1, h2⟩ := h.row i xs hi
      refine ⟨Ai, ci, h1, h2.set_far (fun g hA e => ?_) _⟩
      subst hA
      exact h.apart i j _ _ g hij h1 hv rfl (by rw [e]; rfl)
  apart := h.apart

def rowsW (D t : Nat) : List (List Int) := (List.range t).map (rwB D)
theorem rowsW_len (D t : Nat) : (rowsW D t).length = t := by simp [rowsW]
theorem rowsW_snoc (D t : Nat) : rowsW D (t + 1) = rowsW D t ++ [rwB D t] := by simp [rowsW, List.range_succ]
theorem rowsW_at {D t T : Nat} (h : T < t) : (rowsW D t)[T]? = some (rwB D T) := by simp [rowsW, h]
/-- Row t, j places filled. -/
def rowAt (D : Nat) : Nat → Nat → List Int
  | 0, j => onB (D + 1) j
  | T + 1, j => stB (rwB D T) (T + 1) j
theorem rowAt_len (D t j : Nat) (h : j ≤ D + 1) : (rowAt D t j).length = D + 1 := by
  cases t with
  | zero => unfold rowAt onB; simp; omega
  | succ T => unfold rowAt; rw [stB_len, rwB_len]
theorem rowAt_none (D t : Nat) : rowAt D t 0 = List.replicate (D + 1) 0 := by
  cases t with
  | zero => unfold rowAt onB; simp
  | succ T => show List.replicate (rwB D T).length 0 = _; rw [rwB_len]
theorem rowAt_full (D t : Nat) : rowAt D t (D + 1 - t) = rwB D t := by
  cases t with
  | zero => unfold rowAt onB rwB; simp
  | succ T => show stB (rwB D T) (T + 1) (D + 1 - (T + 1)) = stB (rwB D T) (T + 1) (D - T); rw [show D + 1 - (T + 1) = D - T by omega]
theorem rw_at {D t : Nat} {r : List Int} : (rowsW D t ++ [r])[t]? = some r := by
  rw [List.getElem?_append_right (by rw [rowsW_len]; exact Nat.le_refl _), rowsW_len, Nat.sub_self]; rfl
theorem rw_lo {D t T : Nat} {r : List Int} (h : T < t) : (rowsW D t ++ [r])[T]? = some (rwB D T) := by
  rw [List.getElem?_append_left (by rw [rowsW_len]; exact h), rowsW_at h]
theorem rw_set {D t : Nat} {r r' : List Int} : (rowsW D t ++ [r]).set t r' = rowsW D t ++ [r'] := by
  rw [List.set_append_right _ _ (by rw [rowsW_len]; exact Nat.le_refl _), rowsW_len, Nat.sub_self]; rfl

set_option maxRecDepth 100000 in
set_option maxHeartbeats 8000000 in
theorem l3Ways_any (U D : Nat) (hU : U ≤ 8) (hD : D ≤ 8) (w : World) : Calls Try.prog 65 #[.int .i64 U, .int .i64 D] w fun e w' => e = .returned (.int .i64 (balV U D)) ∧ Below w.heap.size w w' := by
  have u0 : IntKind.i64.wrap ((D : Int) + 1) = (D : Int) + 1 := IntWalk.i64_in _ (by omega)
  go_enter Try.func65, Try.ntmps65
  go_wp2_with fail
  go_loopw [5, 6, 7] (fun tv ix _ wr => ∃ (t : Nat) (A : Option Addr) (c : Nat) (vs : List Value), t ≤ U + 1 ∧ ix = .int .i64 t ∧ tv = .slice A t c ∧ O2 wr w.heap.size A t c vs (rowsW D t) ∧ Below w.heap.size w wr) (fun _ ix _ _ => U + 1 - (intOf ix).toNat)
  case atStart => exact ⟨0, _, _, _, Nat.zero_le _, rfl, rfl, O2.empty w, (Below.refl _ _).alloc (Nat.le_refl _) _⟩
  case round =>
    obtain ⟨t, A, c, vs, ht, rfl, rfl, hrows, hb⟩ := hrel
    obtain ⟨w1, rfl⟩ : ∃ W, W = wr := ⟨wr, rfl⟩
    have HROWS := Lib.hid hrows
    have hs1 := hb.size
    clear hrows
    by_cases hlt : t ≤ U
    · have hmk := mkI (D + 1) (by omega) w1
      rw [show ((D + 1 : Nat) : Int) = (D : Int) + 1 by omega] at hmk
      have hbm := (Below.refl w1.heap.size w1).alloc (Nat.le_refl _) (.cells (madeCells #[.int .i64 0] (D + 1)) 3)
      have HROW := Lib.hid (show Own (w1.alloc (.cells (madeCells #[.int .i64 0] (D + 1)) 3)) 3 w.heap.size (some ⟨w1.heap.size, 0, none⟩) (D + 1) (D + 1) (iv (rowAt D t 0)) by
        have := Own.made w1 3 (.int .i64 0) (D + 1) (by unfold maxLen; omega)
        rw [iv_rep] at this
        rw [rowAt_none]
        exact this.mono hs1)
      have HRL := Lib.hid (rowAt_len D t 0 (by omega)).symm
      have i0 : (t : Int) ≤ (U : Int) := by omega
      go_wp2_with (at_builtin; go_loud (refine appRowW _ rfl _ _ rfl w.heap.size A t c vs rfl (((HROWS.out.below hbm).outer.alloc _)) (w1.heap.size + 1) (some ⟨w1.heap.size, 0, none⟩) (D + 1) (D + 1) rfl (by simp) (by omega) (by omega) ?_); intro A3 c3 w3 hown3 hgr3 hb4)
      have HP := Lib.hid (HROWS.out.pushxW rfl hbm HROW.out HRL.out _ hgr3 hown3)
      have hbf := (hb.trans ((hbm.mono hs1).alloc (by have := hbm.size; omega) _)).trans hb4
      clear hown3 hgr3 hb4 hmk hbm HROW HRL hb hs1
      obtain ⟨vs3, hvs3⟩ : ∃ v, v = vs ++ [Value.slice (some ⟨w1.heap.size, 0, none⟩) (D + 1) (D + 1)] := ⟨_, rfl⟩
      rw [← hvs3] at HP
      clear hvs3 HROWS
      go_wp2_with fail
      go_loopw [7] (fun kx wr => ∃ j : Nat, j ≤ D + 1 - t ∧ kx = .int .i64 ((t : Int) + j) ∧ O2 wr w.heap.size A3 (t + 1) c3 vs3 (rowsW D t ++ [rowAt D t j]) ∧ Below w.heap.size w wr) (fun kx _ => D + 1 - (intOf kx).toNat)
      case atStart => exact ⟨0, Nat.zero_le _, by go_num, HP.out, hbf⟩
      case round =>
        obtain ⟨j, hj, rfl, hrw, hb⟩ := hrel
        obtain ⟨w4, rfl⟩ : ∃ W, W = wr := ⟨wr, rfl⟩
        clear HP hbf
        have HP := Lib.hid hrw
        clear hrw
        by_cases hjd : j < D + 1 - t
        · obtain ⟨d, hd⟩ : ∃ d : Nat, d = t + j := ⟨_, rfl⟩
          have hdD : d < D + 1 := by omega
          have e0 : (t : Int) + (j : Int) = (d : Int) := by omega
          have hlen := rowAt_len D t j (by omega)
          obtain ⟨g0, At, ct, hA, hg0, hg0s, hvt, hct, hft, hot⟩ := HP.out.head (rw_at (D := D) (t := t) (r := rowAt D t j))
          subst hA
          rw [hlen] at hct hot
          obtain ⟨gt, y, hA, hgt, hgts, hy, hcy, hfy⟩ := hot.ati hdD
          subst hA
          have HFILL := Lib.hid (fun x : Int => HP.out.fill (k := d) (x := x) (rw_at (D := D) (t := t) (r := rowAt D t j)) hvt)
          have i1 : (0 : Int) ≤ (t : Int) := by omega
          have i2 : (t : Int) < (t : Int) + 1 := by omega
          have i3 : (0 : Int) ≤ (d : Int) := by omega
          have i4 : (d : Int) < (D : Int) + 1 := by omega
          have i5 : (d : Int) ≤ (D : Int) := by omega
          have k0 : t < t + 1 := by omega
          have k1 : d < D + 1 := by omega
          have HD := Lib.hid hd
          clear hy hot hvt hft
          rw [e0]
          by_cases ht0 : t = 0
          · have f0 : ((t : Int) == 0) = true := by rw [beq_iff_eq]; omega
            have HN := Lib.hid (show (rowAt D t j).set d 1 = rowAt D t (j + 1) by
              have hd2 : d = j := by omega
              rw [hd2]
              subst ht0
              exact onB_set (by omega))
            clear hd e0 hlen ht0
            go_wp2_with fail
            go_roundw
            case rel => exact ⟨j + 1, by omega, by have := HD.out; go_num, by have := HFILL.out 1; rw [rw_set, HN.out] at this; exact this, hb.setCell (p := ⟨gt, d, none⟩) hgt _⟩
            case measure => simp [intOf]; omega
          · have f0 : ((t : Int) == 0) = false := by rw [beq_eq_false_iff_ne]; omega
            obtain ⟨T, hT⟩ : ∃ T, t = T + 1 := ⟨t - 1, by omega⟩
            obtain ⟨g0', AT, cT, hA, -, -, -, hcT, -, hoT⟩ := HP.out.head (rw_lo (D := D) (t := t) (T := T) (r := rowAt D t j) (by omega))
            cases hA
            rw [rwB_len] at hcT hoT
            obtain ⟨gT, x, hA, -, -, hx, hcx, -⟩ := hoT.ati hdD
            subst hA
            have hxb := rwB_bd (D := D) (by omega) T d
            have hxd : (rwB D T).getD d 0 = x := by rw [List.getD_eq_getElem?_getD, hx]; rfl
            rw [hxd] at hxb
            have HTT := Lib.hid hT
            have i6 : (0 : Int) ≤ (t : Int) - 1 := by omega
            have i7 : (t : Int) - 1 < (t : Int) + 1 := by omega
            have i8 : ((t : Int) - 1).toNat = T := by omega
            have i9 : T < t + 1 := by omega
            have m1 : (1 : Int) ≤ (t : Int) := by omega
            have m2 : 1 ≤ t := by omega
            have m3 : (t : Int) < (t : Int) + 1 + 1 := by omega
            have m4 : t < t + 1 + 1 := by omega
            have u1 : IntKind.i64.wrap ((t : Int) - 1) = (t : Int) - 1 := IntWalk.i64_in _ (by omega)
            clear hoT hx
            by_cases hj0 : j = 0
            · have f1 : ((d : Int) == (t : Int)) = true := by rw [beq_iff_eq]; omega
              have HN := Lib.hid (show (rowAt D t j).set d x = rowAt D t (j + 1) by
                subst hT
                show _ = stB (rwB D T) (T + 1) (j + 1)
                rw [stB, ← hd, hxd, if_neg (by omega), Int.add_zero]
                rfl)
              clear hd e0 hlen ht0 hj0 hxd hxb hT
              go_wp2_with fail
              go_still_tail 14, (by kernel_rfl)
              change wpList _ _ _ _ _ w4.drew
              go_wp2_with fail
              go_roundw
              case rel => exact ⟨j + 1, by omega, by have := HD.out; go_num, by have := HFILL.out x; rw [rw_set, HN.out] at this; exact this.drew, (hb.setCell (p := ⟨gt, d, none⟩) hgt _).drew⟩
              case measure => simp [intOf]; omega
            · have f1 : ((d : Int) == (t : Int)) = false := by rw [beq_eq_false_iff_ne]; omega
              obtain ⟨g0', At', ct', hA, -, -, hvt', hct', -, hot⟩ := HP.out.head (rw_at (D := D) (t := t) (r := rowAt D t j))
              cases hA
              rw [hlen] at hct' hot
              rw [hct] at hct'
              cases hct'
              obtain ⟨gt', z, hA, -, -, hz, hcz, -⟩ := hot.ati (show d - 1 < D + 1 by omega)
              cases hA
              have hzd : (rowAt D t j).getD (d - 1) 0 = z := by rw [List.getD_eq_getElem?_getD, hz]; rfl
              have hst := stB_bd (row := rwB D T) (b := 16 ^ T) (by have := rwB_bd (D := D) (by omega) T 0; omega) (rwB_bd (by omega) T) (T + 1) j (d - 1)
              have hp := pow16C (u := T) (by omega)
              have hjb : (j : Int) * 16 ^ T ≤ 15 * 16 ^ T := Int.mul_le_mul_of_nonneg_right (by omega) (by have := rwB_bd (D := D) (by omega) T 0; omega)
              have hzr : (stB (rwB D T) (T + 1) j).getD (d - 1) 0 = z := by rw [← hzd, hT]; rfl
              rw [hzr] at hst
              have u2 : IntKind.i64.wrap (x + z) = x + z := IntWalk.i64_in _ (by omega)
              have u3 : IntKind.i64.wrap ((d : Int) - 1) = (d : Int) - 1 := IntWalk.i64_in _ (by omega)
              have j1 : (0 : Int) ≤ (d : Int) - 1 := by omega
              have j2 : (d : Int) - 1 < (D : Int) + 1 := by omega
              have j3 : ((d : Int) - 1).toNat = d - 1 := by omega
              have j4 : d - 1 < D + 1 := by omega
              have m5 : (1 : Int) ≤ (d : Int) := by omega
              have m6 : 1 ≤ d := by omega
              have m7 : (d : Int) < (D : Int) + 1 + 1 := by omega
              have m8 : d < D + 1 + 1 := by omega
              have HN := Lib.hid (show (rowAt D t j).set d (x + z) = rowAt D t (j + 1) by
                subst hT
                show _ = stB (rwB D T) (T + 1) (j + 1)
                rw [stB, ← hd, hxd, if_pos (by omega), hzr]
                rfl)
              clear hd e0 hlen ht0 hj0 hxd hxb hT hot hz hzd hst hp hjb hzr hvt'
              go_wp2_with fail
              go_still_tail 23, (by kernel_rfl)
              change wpList _ _ _ _ _ w4.drew
              go_wp2_with fail
              go_roundw
              case rel => exact ⟨j + 1, by omega, by have := HD.out; go_num, by have := HFILL.out (x + z); rw [rw_set, HN.out] at this; exact this.drew, (hb.setCell (p := ⟨gt, d, none⟩) hgt _).drew⟩
              case measure => simp [intOf]; omega
        · have HE := Lib.hid (show rowsW D t ++ [rowAt D t j] = rowsW D (t + 1) by rw [rowsW_snoc, ← rowAt_full D t, show j = D + 1 - t by omega])
          have j9 : ¬ (t : Int) + (j : Int) ≤ (D : Int) := by omega
          go_wp2_with fail
          go_roundw
          case rel => exact ⟨t + 1, _, _, vs3, by omega, by go_num, rfl, by rw [← HE.out]; exact HP.out, hb⟩
          case measure => simp [intOf]; omega
    · have htU : t = U + 1 := by omega
      subst htU
      have i0 : ¬ ((U + 1 : Nat) : Int) ≤ (U : Int) := by omega
      obtain ⟨g0, AT, cT, hA, -, -, -, hcT, -, hoT⟩ := HROWS.out.head (rowsW_at (D := D) (t := U + 1) (T := U) (by omega))
      subst hA
      rw [rwB_len] at hcT hoT
      obtain ⟨gT, x, hA, -, -, hx, hcx, -⟩ := hoT.ati (show D < D + 1 by omega)
      subst hA
      have HV := Lib.hid (show balV U D = x by rw [balV, List.getD_eq_getElem?_getD, hx]; rfl)
      have i1 : (0 : Int) ≤ (U : Int) := by omega
      have i2 : (U : Int) < ((U + 1 : Nat) : Int) := by omega
      have i3 : (0 : Int) ≤ (D : Int) := by omega
      have i4 : (D : Int) < (D : Int) + 1 := by omega
      have k0 : U < U + 1 := by omega
      have k1 : D < D + 1 := by omega
      clear hx hoT
      go_wp2_with fail
      go_ret
      exact ⟨ret_int (by rw [HV.out]), hb⟩

end Go.Proofs.Ytiebaoglcdbopaa

namespace Go.Proofs.Ytiebaoglcdbopaa
set_option linter.unusedVariables false
open Go.RowKit Go.Deep

def wOk (d u : Nat) : Bool := decide (1 ≤ balV u d ∧ balV u d ≤ 1430) && (if u = 0 then decide (balV 0 (d - 1) = balV 0 d) else if u = d then decide (balV u d = balV (u - 1) d) else decide (balV u d = balV (u - 1) d + balV u (d - 1)))
theorem wOk_all : ((List.range 9).all fun d => (List.range (d + 1)).all fun u => wOk d u) = true := by decide +kernel
theorem w_ok {u d : Nat} (h : u ≤ d) (hd : d ≤ 8) : wOk d u = true := by
  have := wOk_all
  rw [List.all_eq_true] at this
  have := this d (List.mem_range.2 (by omega))
  rw [List.all_eq_true] at this
  exact this u (List.mem_range.2 (by omega))
theorem bal_bd {u d : Nat} (h : u ≤ d) (hd : d ≤ 8) : 1 ≤ balV u d ∧ balV u d ≤ 1430 := by
  have := w_ok h hd
  unfold wOk at this
  rw [Bool.and_eq_true, decide_eq_true_eq] at this
  exact this.1
theorem bal_0 {d : Nat} (hd : d ≤ 8) : balV 0 (d - 1) = balV 0 d := by
  have := w_ok (u := 0) (Nat.zero_le d) hd
  unfold wOk at this
  rw [Bool.and_eq_true, if_pos rfl, decide_eq_true_eq, decide_eq_true_eq] at this
  exact this.2
theorem bal_eq {d : Nat} (h0 : 0 < d) (hd : d ≤ 8) : balV d d = balV (d - 1) d := by
  have := w_ok (Nat.le_refl d) hd
  unfold wOk at this
  rw [Bool.and_eq_true, if_neg (by omega), if_pos rfl, decide_eq_true_eq, decide_eq_true_eq] at this
  exact this.2
theorem bal_lt {u d : Nat} (h0 : 0 < u) (h : u < d) (hd : d ≤ 8) : balV u d = balV (u - 1) d + balV u (d - 1) := by
  have := w_ok (Nat.le_of_lt h) hd
  unfold wOk at this
  rw [Bool.and_eq_true, if_neg (by omega), if_neg (by omega), decide_eq_true_eq, decide_eq_true_eq] at this
  exact this.2
theorem pathsOk_78 : pathsOk 7 = true ∧ pathsOk 8 = true := by constructor <;> decide +kernel
theorem paths_tree8 {m : Nat} (hm : m ≤ 8) {l : List UInt8} (h : l ∈ paths m) : ∃ t, wd t = l ∧ nodes t = m := by
  rcases Nat.lt_or_ge m 7 with h1 | h1
  · obtain ⟨t, a, b, _⟩ := paths_tree (by omega) h
    exact ⟨t, a, b⟩
  · have hok : pathsOk m = true := by
      rcases (show m = 7 ∨ m = 8 by omega) with rfl | rfl
      · exact pathsOk_78.1
      · exact pathsOk_78.2
    have h2 := List.all_eq_true.1 hok l h
    rw [Bool.and_eq_true, decide_eq_true_eq, decide_eq_true_eq] at h2
    exact ⟨tw l, h2.1, h2.2⟩

theorem specCatalanNumber_any (N : Nat) (hN : N ≤ 8) (w : World) : Calls Try.prog 15 #[.int .i64 N] w fun e w' => e = .returned (.int .i64 (balV N N)) ∧ Below w.heap.size w w' := by
  have HB := Lib.hid (inB_true (x := N) (lo := 0) (hi := 15) (by omega) (by omega))
  go_enter Try.func15, Try.ntmps15
  go_wp2_with fail
  refine (l1In_any _ _ _ _).mono ?_
  rintro e w' ⟨rfl, rfl⟩
  rw [HB.out]
  go_wp2_with fail
  refine (l3Ways_any N N hN hN _).mono ?_
  rintro e w1 ⟨rfl, hb1⟩
  go_wp2_with fail
  go_ret
  exact ⟨rfl, hb1⟩

set_option maxRecDepth 20000 in
set_option maxHeartbeats 4000000 in
theorem specUnrankPath_any (N : Nat) (hN : N ≤ 8) (K : Int) (hK0 : 0 ≤ K) (hK1 : K < balV N N) (w : World) : Calls Try.prog 12 #[.int .i64 N, .int .i64 K] w fun e w' => ∃ x : List UInt8, (x ∈ paths N ∧ dyck x = true ∧ x.length ≤ 16) ∧ e = .returned (.tuple #[.string (bs x), .bool true]) ∧ Below w.heap.size w w' := by
  have HB := Lib.hid (inB_true (x := N) (lo := 0) (hi := 8) (by omega) (by omega))
  have hbd := bal_bd (Nat.le_refl N) hN
  obtain ⟨C, hC⟩ : ∃ C, C = balV N N := ⟨_, rfl⟩
  rw [← hC] at hK1 hbd
  have HC := Lib.hid hC.symm
  clear hC
  go_enter Try.func12, Try.ntmps12
  go_wp2_with fail
  refine (l1In_any _ _ _ _).mono ?_
  rintro e w' ⟨rfl, rfl⟩
  rw [HB.out]
  go_wp2_with fail
  refine (specCatalanNumber_any N hN _).mono ?_
  rintro e w1 ⟨rfl, hb1⟩
  rw [HC.out]
  have HBL := Lib.hid hb1
  clear hb1
  go_wp2_with fail
  go_loopw [1, 6, 7, 8, 9] (fun kv xv uv_ dv _ wr => ∃ (x : List UInt8) (up dn : Nat) (kk : Int), up ≤ dn ∧ dn ≤ N ∧ kv = .int .i64 kk ∧ xv = .string (bs x) ∧ uv_ = .int .i64 up ∧ dv = .int .i64 dn ∧ Hid (WdP x (N - up) (N - dn)) ∧ Hid (SubP N x (N - up) (N - dn)) ∧ 0 ≤ kk ∧ Hid (kk < balV up dn) ∧ Below w.heap.size w wr) (fun _ _ uv_ dv _ _ => (intOf uv_).toNat + (intOf dv).toNat)
  case atStart => exact ⟨[], N, N, K, Nat.le_refl _, Nat.le_refl _, rfl, rfl, rfl, rfl, Lib.hid (by rw [Nat.sub_self]; exact WdP.nil), Lib.hid (by rw [Nat.sub_self]; exact SubP.nil N), hK0, Lib.hid (by rw [HC.out]; exact hK1), HBL.out⟩
  case round =>
    obtain ⟨x, up, dn, kk, hud, hdN, rfl, rfl, rfl, rfl, hW, hS, hk0, hk1, hbl⟩ := hrel
    obtain ⟨w2, rfl⟩ : ∃ W, W = wr := ⟨wr, rfl⟩
    clear HBL
    have HBL := Lib.hid hbl
    clear hbl
    by_cases hd0 : 0 < dn
    · have i0 : (0 : Int) < (dn : Int) := by omega
      have xl : ¬ 9223372036854775807 < x.length + 1 := by have := hW.out.len; omega
      have xl2 : x.length + 1 ≤ 9223372036854775807 := by omega
      have xl3 : x.length ≤ 9223372036854775806 := by omega
      have ud : IntKind.i64.wrap ((dn : Int) - 1) = (dn : Int) - 1 := IntWalk.i64_in _ (by omega)
      have hbb := bal_bd hud (by omega)
      have hkk : kk < 1430 := by have := hk1.out; omega
      clear hbb
      by_cases hu0 : 0 < up
      · have i1 : (0 : Int) < (up : Int) := by omega
        have uu : IntKind.i64.wrap ((up : Int) - 1) = (up : Int) - 1 := IntWalk.i64_in _ (by omega)
        go_wp2_with fail
        have hcall := l3Ways_any (up - 1) dn (by omega) (by omega) w2
        rw [show ((up - 1 : Nat) : Int) = (up : Int) - 1 by omega] at hcall
        refine hcall.mono ?_
        clear hcall
        rintro e w3 ⟨rfl, hb3⟩
        replace HBL := Lib.hid (HBL.out.trans (hb3.mono HBL.out.size))
        clear hb3
        obtain ⟨V, hV⟩ : ∃ V, V = balV (up - 1) dn := ⟨_, rfl⟩
        rw [← hV]
        have HV := Lib.hid hV
        have hVb : 1 ≤ V ∧ V ≤ 1430 := by rw [hV]; exact bal_bd (by omega) (by omega)
        clear hV
        by_cases hkV : kk < V
        · go_wp2_with fail
          go_roundw
          case rel => exact ⟨x ++ [117], up - 1, dn, kk, by omega, hdN, rfl, by rw [bs_lit, bs_append], by congr 1; omega, rfl, Lib.hid (by have := hW.out.up; rw [show N - up + 1 = N - (up - 1) by omega] at this; exact this), Lib.hid (by have := hS.out.up (by omega) (by omega); rw [show N - up + 1 = N - (up - 1) by omega] at this; exact this), hk0, Lib.hid (by rw [← HV.out]; exact hkV), HBL.out⟩
          case measure => simp [intOf]; omega
        · have uk : IntKind.i64.wrap (kk - V) = kk - V := IntWalk.i64_in _ (by omega)
          have hult : up < dn := by
            rcases Nat.lt_or_ge up dn with h | h
            · exact h
            · exfalso
              have : up = dn := by omega
              have h2 := hk1.out
              subst this
              rw [bal_eq hu0 (by omega), ← HV.out] at h2
              exact hkV h2
          go_wp2_with fail
          go_roundw
          case rel => exact ⟨x ++ [100], up, dn - 1, kk - V, by omega, by omega, rfl, by rw [bs_lit, bs_append], rfl, by congr 1; omega, Lib.hid (by have := hW.out.down (by omega); rw [show N - dn + 1 = N - (dn - 1) by omega] at this; exact this), Lib.hid (by have := hS.out.down (by omega) (by omega); rw [show N - dn + 1 = N - (dn - 1) by omega] at this; exact this), by omega, Lib.hid (by have h2 := hk1.out; rw [bal_lt hu0 hult (by omega), ← HV.out] at h2; omega), HBL.out⟩
          case measure => simp [intOf]; omega
      · obtain rfl : up = 0 := by omega
        have i1 : ¬ (0 : Int) < ((0 : Nat) : Int) := by omega
        have i2 : ¬ kk < 0 := by omega
        have uk : IntKind.i64.wrap (kk - 0) = kk := by rw [Int.sub_zero]; exact IntWalk.i64_in _ (by omega)
        have uk2 : IntKind.i64.wrap kk = kk := IntWalk.i64_in _ (by omega)
        go_wp2_with fail
        go_roundw
        case rel => exact ⟨x ++ [100], 0, dn - 1, kk, by omega, by omega, by go_num, by rw [bs_lit, bs_append], rfl, by congr 1; omega, Lib.hid (by have := hW.out.down (by omega); rw [show N - dn + 1 = N - (dn - 1) by omega] at this; exact this), Lib.hid (by have := hS.out.down (by omega) (by omega); rw [show N - dn + 1 = N - (dn - 1) by omega] at this; exact this), hk0, Lib.hid (by rw [bal_0 (by omega)]; exact hk1.out), HBL.out⟩
        case measure => simp [intOf]; omega
    · have i0 : ¬ (0 : Int) < (dn : Int) := by omega
      have HP := Lib.hid (show x ∈ paths N ∧ dyck x = true ∧ x.length ≤ 16 by
        have h1 := hS.out
        have h2 := hW.out
        rw [show N - up = N by omega, show N - dn = N by omega] at h1 h2
        exact ⟨h1.fin, h2.dyck hN, by have := h2.len; omega⟩)
      go_wp2_with fail
      go_ret2
      exact ⟨x, HP.out, rfl, HBL.out⟩

theorem specBinaryOf_path (N : Nat) (hN : N ≤ 8) (x : List UInt8) (hx : x ∈ paths N ∧ dyck x = true ∧ x.length ≤ 16) (w : World) : Calls Try.prog 16 #[.string (bs x)] w fun e w' => ∃ t : List UInt8, t.length ≤ 1000 ∧ e = .returned (.tuple #[.string (bs t), .bool true]) ∧ Below w.heap.size w w' := by
  obtain ⟨h0, h1, h2⟩ := hx
  obtain ⟨t, rfl, hnt⟩ := paths_tree8 hN h0
  have HD := Lib.hid h1
  have hl : (tx t).length ≤ 1000 := by rw [tx_len]; omega
  have HL := Lib.hid hl
  have hx9 : (wd t).length ≤ 1000000000 := by omega
  clear h0 h1 h2 hl
  go_enter Try.func16, Try.ntmps16
  go_wp2_with fail
  refine (specIsDyck_any (wd t) _ hx9).mono ?_
  rintro e w' ⟨rfl, rfl⟩
  rw [HD.out]
  go_wp2_with fail
  refine (l6Binary_any t _ (by omega)).mono ?_
  rintro e w1 ⟨rfl, d1, hw⟩
  have HB := Lib.hid (show Below w.heap.size w w1 from below_of_drewN ⟨d1, hw⟩)
  clear hw
  go_wp2_with fail
  go_ret2
  exact ⟨tx t, HL.out, rfl, HB.out⟩

theorem at_any (A : Option Addr) (n c i : Nat) (zs : List Int) (w : World) (h : Rd w A n (uv zs)) (hn : n ≤ 1000000000) (hi : i ≤ 1000) (hz : ∀ z ∈ zs, 0 ≤ z ∧ z ≤ 255) :
    Calls Try.prog 14 #[.slice A n c, .int .i64 i] w fun e w' => ∃ z : Int, 0 ≤ z ∧ z ≤ 255 ∧ e = .returned (.int .i64 z) ∧ Below w.heap.size w w' := by
  by_cases hlt : i < n
  · obtain ⟨b, o, z, hA, hzx, hc⟩ := h.atu hlt
    subst hA
    have hb := hz z (List.mem_of_getElem? hzx)
    have i1 : (i : Int) < (n : Int) := by omega
    have i2 : (0 : Int) ≤ (i : Int) := by omega
    have uz : IntKind.i64.wrap z = z := IntWalk.i64_in _ (by omega)
    have HB := Lib.hid hb
    clear h hz hzx hb
    go_enter Try.func14, Try.ntmps14
    go_wp2_with fail
    go_ret
    exact ⟨z, HB.out.1, HB.out.2, rfl, Below.refl _ _⟩
  · have i1 : ¬ (i : Int) < (n : Int) := by omega
    have u1 : IntKind.i64.wrap ((i : Int) * 37) = (i : Int) * 37 := IntWalk.i64_in _ (by omega)
    have u2 : IntKind.i64.wrap ((n : Int) * 11) = (n : Int) * 11 := IntWalk.i64_in _ (by omega)
    have u3 : IntKind.i64.wrap ((i : Int) * 37 + (n : Int) * 11) = (i : Int) * 37 + (n : Int) * 11 := IntWalk.i64_in _ (by omega)
    have u4 : IntKind.i64.wrap (((i : Int) * 37 + (n : Int) * 11).tmod 256) = ((i : Int) * 37 + (n : Int) * 11).tmod 256 := IntWalk.i64_in _ (by rw [Int.tmod_eq_emod_of_nonneg (by omega)]; omega)
    have HT := Lib.hid (show 0 ≤ ((i : Int) * 37 + (n : Int) * 11).tmod 256 ∧ ((i : Int) * 37 + (n : Int) * 11).tmod 256 ≤ 255 by rw [Int.tmod_eq_emod_of_nonneg (by omega)]; omega)
    clear h hz
    go_enter Try.func14, Try.ntmps14
    go_wp2_with fail
    go_ret
    exact ⟨_, HT.out.1, HT.out.2, rfl, Below.refl _ _⟩

end Go.Proofs.Ytiebaoglcdbopaa

namespace Go.Proofs.Ytiebaoglcdbopaa
set_option linter.unusedVariables false
open Go.RowKit Go.Deep

/-- Two texts that are drawn from a cursor. -/
def RetD2 (g : Nat) (A : Option Addr) (n c : Nat) (zs : List Int) (w : World) (e : Ending) (w' : World) : Prop :=
  ∃ a b : List UInt8, a.length ≤ 1000 ∧ b.length ≤ 1000 ∧ e = .returned (.tuple #[.string (bs a), .string (bs b)]) ∧ Cur w' g A n c zs ∧ Only g (g + 1) w w'
def RetT2 (w : World) (e : Ending) (w' : World) : Prop :=
  ∃ a b : List UInt8, a.length ≤ 1000 ∧ b.length ≤ 1000 ∧ e = .returned (.tuple #[.string (bs a), .string (bs b)]) ∧ Below w.heap.size w w'

set_option maxRecDepth 20000 in
set_option maxHeartbeats 8000000 in
theorem l17Two_any (M : Nat) (hM : M ≤ 6) (g : Nat) (A : Option Addr) (n c : Nat) (zs : List Int) (w : World) (h : Cur w g A n c zs) :
    Calls Try.prog 94 #[.pointer (some ⟨g, 0, none⟩), .int .i64 M] w (RetD2 g A n c zs w) := by
  have HC := Lib.hid h
  clear h
  have ew : IntKind.i64.wrap ((M : Int) + 1) = (M : Int) + 1 := IntWalk.i64_in _ (by omega)
  go_enter Try.func94, Try.ntmps94
  go_wp2_with fail
  have hcall := l1Below_any (M + 1) (by omega) (by omega) _ _ _ _ _ _ HC.out
  rw [show ((M + 1 : Nat) : Int) = (M : Int) + 1 by omega] at hcall
  refine hcall.mono ?_
  clear hcall
  rintro e w1 ⟨x, hx0, hx1, rfl, hc, ho⟩
  obtain ⟨m, rfl⟩ : ∃ m : Nat, x = m := ⟨x.toNat, by omega⟩
  have hm6 : m ≤ 6 := by omega
  clear ew hx0 hx1
  have C1 := Lib.hid hc
  have O1 := Lib.hid ho
  clear hc ho
  go_wp2_with fail
  refine (l2Draw_any m (by omega) _ _ _ _ _ _ C1.out).mono ?_
  rintro e w2 ⟨l, ⟨-, -, hmm⟩, rfl, hc, ho⟩
  obtain ⟨t, rfl, hnt, -⟩ := paths_tree hm6 hmm
  have hn6 : nodes t ≤ 6 := by omega
  have C2 := Lib.hid hc
  have O2 := Lib.hid (O1.out.trans ho)
  clear hc ho hmm hnt
  go_wp2_with fail
  refine (l6Binary_any t _ (by omega)).mono ?_
  rintro e w3 ⟨rfl, d2, hw⟩
  have C3 := Lib.hid (show Cur w3 g A n c zs by rw [hw]; exact C2.out.drewN d2)
  have O3 := Lib.hid (show Only g (g + 1) w w3 by rw [hw]; exact O2.out.drewN d2)
  have hl : (tx t).length ≤ 19 := by rw [tx_len]; omega
  clear hw C2 O2 C1 O1 HC
  go_wp2_with fail
  refine (l1Once_any 14 (by omega) (by omega) _ _ _ _ _ _ C3.out).mono ?_
  rintro e w4 ⟨b1, rfl, hc, ho⟩
  have C4 := Lib.hid hc
  have O4 := Lib.hid (O3.out.trans ho)
  clear hc ho C3 O3
  rcases b1 with _ | _
  case' true =>
    go_wp2_with fail
    refine (l6Any_any _ _ _ _ _ _ C4.out).mono ?_
    rintro e w5 ⟨q, hq, rfl, hc, ho⟩
    have C5 := Lib.hid hc
    have O5 := Lib.hid (O4.out.trans ho)
    have HQ := Lib.hid hq
    clear hc ho hq
    go_wp2_with fail
    go_ret2
    exact ⟨tx t, q, by omega, HQ.out, rfl, C5.out, O5.out⟩
  go_wp2_with fail
  refine (l1Once_any 2 (by omega) (by omega) _ _ _ _ _ _ C4.out).mono ?_
  rintro e w5 ⟨b2, rfl, hc, ho⟩
  have C5 := Lib.hid hc
  have O5 := Lib.hid (O4.out.trans ho)
  clear hc ho C4 O4
  rcases b2 with _ | _
  case' false =>
    go_wp2_with fail
    refine (l2Draw_any m (by omega) _ _ _ _ _ _ C5.out).mono ?_
    rintro e w6 ⟨l, ⟨-, -, hmm⟩, rfl, hc, ho⟩
    obtain ⟨s, rfl, hnt, -⟩ := paths_tree hm6 hmm
    have hn6 : nodes s ≤ 6 := by omega
    have C6 := Lib.hid hc
    have O6 := Lib.hid (O5.out.trans ho)
    clear hc ho hmm hnt
    go_wp2_with fail
    refine (l6Binary_any s _ (by omega)).mono ?_
    rintro e w7 ⟨rfl, d2, hw⟩
    have C7 := Lib.hid (show Cur w7 g A n c zs by rw [hw]; exact C6.out.drewN d2)
    have O7 := Lib.hid (show Only g (g + 1) w w7 by rw [hw]; exact O6.out.drewN d2)
    have hl2 : (tx s).length ≤ 19 := by rw [tx_len]; omega
    clear hw
    go_wp2_with fail
    go_ret2
    exact ⟨tx t, tx s, by omega, by omega, rfl, C7.out, O7.out⟩
  go_wp2_with fail
  refine (l1Below_any 4 (by omega) (by omega) _ _ _ _ _ _ C5.out).mono ?_
  rintro e w6 ⟨k0, hk0, hk1, rfl, hc, ho⟩
  have C6 := Lib.hid hc
  have O6 := Lib.hid (O5.out.trans ho)
  have HK := Lib.hid hk0
  have HK1 := Lib.hid hk1
  clear hc ho C5 O5 hk0 hk1
  go_wp2_with fail
  obtain ⟨T, hT⟩ : ∃ T, T = tx t := ⟨_, rfl⟩
  rw [← hT] at hl ⊢
  have HT := Lib.hid (show T.length ≤ 1000 by omega)
  clear hT hl
  go_loopw [8, 9] (fun sb sk wr => ∃ (b : List UInt8) (k : Nat), k ≤ 3 ∧ sk = .int .i64 k ∧ sb = .string (bs b) ∧ Hid (b.length ≤ 1000) ∧ Cur wr g A n c zs ∧ Only g (g + 1) w wr) (fun _ sk _ => (intOf sk).toNat)
  case atStart =>
    have h0 := HK.out
    have h1 := HK1.out
    exact ⟨T, k0.toNat, by omega, by congr 1; omega, rfl, HT, C6.out, O6.out⟩
  case round =>
    obtain ⟨b, k, hk3, rfl, rfl, hb, hc, ho⟩ := hrel
    obtain ⟨wl, rfl⟩ : ∃ W, W = wr := ⟨wr, rfl⟩
    clear C6 O6
    have C6 := Lib.hid hc
    have O6 := Lib.hid ho
    clear hc ho
    by_cases hgo : 0 < k ∧ 0 < m
    · have i1 : (0 : Int) < (k : Int) := by omega
      have i2 : (0 : Int) < (m : Int) := by omega
      have hm1 : 1 ≤ m := by omega
      have hk1 : 1 ≤ k := by omega
      have ek : IntKind.i64.wrap ((k : Int) - 1) = (k : Int) - 1 := IntWalk.i64_in _ (by omega)
      clear hgo
      go_wp2_with fail
      refine (l1Below_any m hm1 (by omega) _ _ _ _ _ _ C6.out).mono ?_
      rintro e w7 ⟨v, hv0, hv1, rfl, hc, ho⟩
      have C7 := Lib.hid hc
      have O7 := Lib.hid (O6.out.trans ho)
      clear hc ho
      go_wp2_with fail
      refine (specRotateRight_any b v _ (by have := hb.out; omega)).mono ?_
      rintro e w8 ⟨rfl, d3, hw⟩
      have C8 := Lib.hid (show Cur w8 g A n c zs by rw [hw]; exact C7.out.drewN d3)
      have O8 := Lib.hid (show Only g (g + 1) w w8 by rw [hw]; exact O7.out.drewN d3)
      have hrl := Lib.hid (rr_len (l := b) (v := v))
      obtain ⟨x, is, hx⟩ : ∃ x is, rotRB b v = (x, is) := ⟨_, _, rfl⟩
      rw [hx] at hrl
      rw [hx]
      clear hw hx
      rcases is with _ | _
      · go_wp2_with fail
        go_roundw
        case rel => exact ⟨b, k - 1, by omega, by congr 1; omega, rfl, hb, C8.out, O8.out⟩
        case measure => simp [intOf]; omega
      · go_wp2_with fail
        go_roundw
        case rel => exact ⟨x, k - 1, by omega, by congr 1; omega, rfl, hrl, C8.out, O8.out⟩
        case measure => simp [intOf]; omega
    · by_cases hk0 : 0 < k
      · have i1 : (0 : Int) < (k : Int) := by omega
        have i2 : ¬ ((0 : Int) < (m : Int)) := by omega
        clear hgo
        go_wp2_with fail
        go_ret2
        exact ⟨T, b, HT.out, hb.out, rfl, C6.out, O6.out⟩
      · have i1 : ¬ ((0 : Int) < (k : Int)) := by omega
        clear hgo
        go_wp2_with fail
        go_ret2
        exact ⟨T, b, HT.out, hb.out, rfl, C6.out, O6.out⟩

set_option maxHeartbeats 2000000 in
theorem l17Pair_any (M : Nat) (hM : M ≤ 6) (A : Option Addr) (n c : Nat) (zs : List Int) (w : World) (h : Rd w A n (uv zs)) (hn : n ≤ 1000000000) (hz : ∀ z ∈ zs, 0 ≤ z ∧ z ≤ 255) :
    Calls Try.prog 59 #[.slice A n c, .int .i64 M] w (RetT2 w) := by
  have HR := Lib.hid h
  have HZ := Lib.hid hz
  clear h hz
  go_enter Try.func59, Try.ntmps59
  go_wp2_with fail
  refine (l1New_any _ _ _ zs _ HR.out hn HZ.out).mono ?_
  rintro e w0 ⟨g, hg, rfl, hc, hb⟩
  have C0 := Lib.hid hc
  have B0 := Lib.hid hb
  clear hc hb
  go_wp2_with fail
  refine (l17Two_any M hM _ _ _ _ _ _ C0.out).mono ?_
  rintro e w1 ⟨a, b, ha, hb, rfl, hc, ho⟩
  have B1 := Lib.hid (Only.finT B0.out ho hg)
  have HA := Lib.hid ha
  have HB := Lib.hid hb
  clear hc ho ha hb
  go_wp2_with fail
  go_ret2
  exact ⟨a, b, HA.out, HB.out, rfl, B1.out⟩

theorem DrawTamariMeet_any (A : Option Addr) (n c : Nat) (zs : List Int) (w : World) (h : Rd w A n (uv zs)) (hn : n ≤ 1000000000) (hz : ∀ z ∈ zs, 0 ≤ z ∧ z ≤ 255) :
    Calls Try.prog 6 #[.slice A n c] w (RetT2 w) := by
  have HR := Lib.hid h
  have HZ := Lib.hid hz
  clear h hz
  go_enter Try.func6, Try.ntmps6
  go_wp2_with fail
  refine (l17Pair_any 6 (by omega) _ _ _ zs _ HR.out hn HZ.out).mono ?_
  rintro e w1 ⟨a, b, ha, hb, rfl, hbl⟩
  have B1 := Lib.hid hbl
  have HA := Lib.hid ha
  have HB := Lib.hid hb
  clear hbl ha hb
  go_wp2_with fail
  go_ret2
  exact ⟨a, b, HA.out, HB.out, rfl, B1.out⟩

theorem DrawLongestChain_any (A : Option Addr) (n c : Nat) (zs : List Int) (w : World) (h : Rd w A n (uv zs)) (hn : n ≤ 1000000000) (hz : ∀ z ∈ zs, 0 ≤ z ∧ z ≤ 255) :
    Calls Try.prog 17 #[.slice A n c] w (RetT2 w) := by
  have HR := Lib.hid h
  have HZ := Lib.hid hz
  clear h hz
  go_enter Try.func17, Try.ntmps17
  go_wp2_with fail
  refine (l17Pair_any 4 (by omega) _ _ _ zs _ HR.out hn HZ.out).mono ?_
  rintro e w1 ⟨a, b, ha, hb, rfl, hbl⟩
  have B1 := Lib.hid hbl
  have HA := Lib.hid ha
  have HB := Lib.hid hb
  clear hbl ha hb
  go_wp2_with fail
  go_ret2
  exact ⟨a, b, HA.out, HB.out, rfl, B1.out⟩

theorem DrawIntervalSize_any (A : Option Addr) (n c : Nat) (zs : List Int) (w : World) (h : Rd w A n (uv zs)) (hn : n ≤ 1000000000) (hz : ∀ z ∈ zs, 0 ≤ z ∧ z ≤ 255) :
    Calls Try.prog 26 #[.slice A n c] w (RetT2 w) := by
  have HR := Lib.hid h
  have HZ := Lib.hid hz
  clear h hz
  go_enter Try.func26, Try.ntmps26
  go_wp2_with fail
  refine (l17Pair_any 5 (by omega) _ _ _ zs _ HR.out hn HZ.out).mono ?_
  rintro e w1 ⟨a, b, ha, hb, rfl, hbl⟩
  have B1 := Lib.hid hbl
  have HA := Lib.hid ha
  have HB := Lib.hid hb
  clear hbl ha hb
  go_wp2_with fail
  go_ret2
  exact ⟨a, b, HA.out, HB.out, rfl, B1.out⟩

theorem DrawIsTamariLess_any (A : Option Addr) (n c : Nat) (zs : List Int) (w : World) (h : Rd w A n (uv zs)) (hn : n ≤ 1000000000) (hz : ∀ z ∈ zs, 0 ≤ z ∧ z ≤ 255) :
    Calls Try.prog 28 #[.slice A n c] w (RetT2 w) := by
  have HR := Lib.hid h
  have HZ := Lib.hid hz
  clear h hz
  go_enter Try.func28, Try.ntmps28
  go_wp2_with fail
  refine (l17Pair_any 6 (by omega) _ _ _ zs _ HR.out hn HZ.out).mono ?_
  rintro e w1 ⟨a, b, ha, hb, rfl, hbl⟩
  have B1 := Lib.hid hbl
  have HA := Lib.hid ha
  have HB := Lib.hid hb
  clear hbl ha hb
  go_wp2_with fail
  go_ret2
  exact ⟨a, b, HA.out, HB.out, rfl, B1.out⟩

theorem DrawCountIntervals_any (A : Option Addr) (n c : Nat) (zs : List Int) (w : World) (h : Rd w A n (uv zs)) (hn : n ≤ 1000000000) (hz : ∀ z ∈ zs, 0 ≤ z ∧ z ≤ 255) :
    Calls Try.prog 22 #[.slice A n c] w (RetN1 (-1) 5 w) := by
  have HR := Lib.hid h
  have HZ := Lib.hid hz
  clear h hz
  go_enter Try.func22, Try.ntmps22
  go_wp2_with fail
  refine (l1New_any _ _ _ zs _ HR.out hn HZ.out).mono ?_
  rintro e w0 ⟨g, hg, rfl, hc, hb⟩
  have C0 := Lib.hid hc
  have B0 := Lib.hid hb
  clear hc hb
  go_wp2_with fail
  refine (l1Below_any 7 (by omega) (by omega) _ _ _ _ _ _ C0.out).mono ?_
  rintro e w1 ⟨x, hx0, hx1, rfl, hc, ho⟩
  have B1 := Lib.hid (Only.finT B0.out ho hg)
  clear hc ho
  go_wp2_with fail
  go_ret
  exact ⟨x - 1, by omega, by omega, rfl, B1.out⟩

theorem DrawIntervalFormula_any (A : Option Addr) (n c : Nat) (zs : List Int) (w : World) (h : Rd w A n (uv zs)) (hn : n ≤ 1000000000) (hz : ∀ z ∈ zs, 0 ≤ z ∧ z ≤ 255) :
    Calls Try.prog 29 #[.slice A n c] w (RetN1 (-1) 8 w) := by
  have HR := Lib.hid h
  have HZ := Lib.hid hz
  clear h hz
  go_enter Try.func29, Try.ntmps29
  go_wp2_with fail
  refine (l1New_any _ _ _ zs _ HR.out hn HZ.out).mono ?_
  rintro e w0 ⟨g, hg, rfl, hc, hb⟩
  have C0 := Lib.hid hc
  have B0 := Lib.hid hb
  clear hc hb
  go_wp2_with fail
  refine (l1Below_any 10 (by omega) (by omega) _ _ _ _ _ _ C0.out).mono ?_
  rintro e w1 ⟨x, hx0, hx1, rfl, hc, ho⟩
  have B1 := Lib.hid (Only.finT B0.out ho hg)
  clear hc ho
  go_wp2_with fail
  go_ret
  exact ⟨x - 1, by omega, by omega, rfl, B1.out⟩

end Go.Proofs.Ytiebaoglcdbopaa
