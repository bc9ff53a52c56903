/- Merged: Gauss BinomL. -/
import Derived.Test.YtghfhkbncjgaeaaGreatMg42
import Derived.Test.YtghfhkbncjgaeaaGreatMg5

namespace Go.Proofs.YtghfhkbncjgaeaaGreat
open Go.RowKit

def gau : Nat → Nat → List Int
  | _, 0 => [1]
  | 0, _ + 1 => [1]
  | n + 1, k + 1 => if k = n then [1] else
    upd (upd (List.replicate (max (gau n (k + 1)).length ((gau n k).length + (n - k))) 0) (fun j => (gau n (k + 1)).getD j 0) 0 (gau n (k + 1)).length) (fun j => (gau n k).getD j 0) (n - k) (gau n k).length
theorem gau_0 (n : Nat) : gau n 0 = [1] := by cases n <;> rfl
theorem gau_n (n : Nat) : gau n n = [1] := by
  cases n with
  | zero => rfl
  | succ n => rw [gau, if_pos rfl]
theorem gau_len : ∀ (n k : Nat), k ≤ n → (gau n k).length = k * (n - k) + 1
  | n, 0, _ => by rw [gau_0]; simp
  | n + 1, k + 1, h => by
    by_cases hk : k = n
    · subst hk; rw [gau_n]; simp
    · rw [gau, if_neg hk, upd_len, upd_len, List.length_replicate, gau_len n (k + 1) (by omega), gau_len n k (by omega)]
      obtain ⟨d, rfl⟩ : ∃ d, n = k + d + 1 := ⟨n - k - 1, by omega⟩
      rw [show k + d + 1 - (k + 1) = d by omega, show k + d + 1 - k = d + 1 by omega, show k + d + 1 + 1 - (k + 1) = d + 1 by omega]
      have h1 := Nat.succ_mul k (d + 1)
      have h2 := Nat.mul_succ (k + 1) d
      simp only [Nat.succ_eq_add_one] at h1 h2
      omega
def twQ : Nat → Int
  | 0 => 1
  | n + 1 => twQ n + twQ n
theorem tw_pos : ∀ n : Nat, 1 ≤ twQ n
  | 0 => by decide
  | n + 1 => by have := tw_pos n; rw [twQ]; omega
theorem tw_14 : ∀ n : Nat, n < 15 → twQ n ≤ 16384 := by decide
theorem one_getD (j : Nat) : 0 ≤ ([1] : List Int).getD j 0 ∧ ([1] : List Int).getD j 0 ≤ 1 := by cases j <;> simp
theorem gau_bd : ∀ (n k j : Nat), 0 ≤ (gau n k).getD j 0 ∧ (gau n k).getD j 0 ≤ twQ n
  | n, 0, j => by
    rw [gau_0]
    have := tw_pos n
    have := one_getD j
    omega
  | 0, k + 1, j => one_getD j
  | n + 1, k + 1, j => by
    have h1 := gau_bd n (k + 1) j
    have h2 := gau_bd n k (j - (n - k))
    have h3 := tw_pos n
    have h4 := one_getD j
    by_cases hk : k = n
    · subst hk
      rw [gau_n, twQ]
      omega
    · rw [gau, if_neg hk, upd_get _ _ _ _ _ (by rw [upd_len]; simp; omega), upd_get _ _ _ _ _ (by simp; omega), getD_rep, twQ]
      split <;> split <;> (try rw [Nat.sub_zero]) <;> omega
theorem gau_bd14 {n : Nat} (h : n ≤ 14) (k j : Nat) : 0 ≤ (gau n k).getD j 0 ∧ (gau n k).getD j 0 ≤ 16384 := by
  have h1 := gau_bd n k j
  have h2 := tw_14 n (by omega)
  omega
theorem gau_lt {n k : Nat} (h : k < n) : (gau n (k + 1)).length < (gau n k).length + (n - k) := by
  rw [gau_len n (k + 1) (by omega), gau_len n k (by omega)]
  obtain ⟨d, rfl⟩ : ∃ d, n = k + d + 1 := ⟨n - k - 1, by omega⟩
  rw [show k + d + 1 - (k + 1) = d by omega, show k + d + 1 - k = d + 1 by omega]
  have h1 := Nat.succ_mul k (d + 1)
  have h2 := Nat.mul_succ (k + 1) d
  simp only [Nat.succ_eq_add_one] at h1 h2
  omega
theorem gau_len14 {n k : Nat} (h : n ≤ 14) (hk : k ≤ n) : (gau n k).length ≤ 1000 := by
  rw [gau_len n k hk]
  have : k * (n - k) ≤ 14 * 14 := Nat.mul_le_mul (by omega) (by omega)
  omega

set_option maxHeartbeats 2000000 in
set_option maxRecDepth 100000 in
theorem gauss_any : ∀ (n k : Nat) (N K : Int) (w : World), N = n → K = k → k ≤ n → n ≤ 14 → Calls Tryz.prog 91 #[.int .i64 N, .int .i64 K] w (RetI w (gau n k))
  | n, 0, N, K, w, hN, hK, _, h14 => by
    subst hN hK
    have HF := Lib.hid (gau_0 n)
    go_enter Tryz.func91, Tryz.ntmps91
    go_wp2_with fail
    go_ret
    rw [HF.out]
    exact ⟨_, 1, 1, rfl, rfl, Own.lit w 3 #[.int .i64 1] 1 rfl (by decide), (Below.refl _ _).alloc (Nat.le_refl _) _⟩
  | n + 1, k + 1, N, K, w, hN, hK, hk, h14 => by
    by_cases hkn : k = n
    · subst hkn
      subst hN hK
      have HF := Lib.hid (gau_n (k + 1))
      go_enter Tryz.func91, Tryz.ntmps91
      go_wp2_with fail
      go_ret
      rw [HF.out]
      exact ⟨_, 1, 1, rfl, rfl, Own.lit w 3 #[.int .i64 1] 1 rfl (by decide), (Below.refl _ _).alloc (Nat.le_refl _) _⟩
    · obtain rfl : N = (n : Int) + 1 := by omega
      obtain rfl : K = (k : Int) + 1 := by omega
      have e1 : ((k : Int) + 1 == (n : Int) + 1) = false := by simp; omega
      have e2 : ((k : Int) + 1 == 0) = false := by simp; omega
      clear hN hK
      go_enter Tryz.func91, Tryz.ntmps91
      go_wp2_with fail
      refine (gauss_any n (k + 1) _ _ _ (by omega) (by omega) (by omega) (by omega)).mono ?_
      rintro e w1 ⟨Aa, la, ca, hla, rfl, hoa, hb1⟩
      have HLA := Lib.hid hla
      have HOA := Lib.hid hoa
      have la1 : la ≤ 1000 := by rw [hla]; exact gau_len14 (by omega) (by omega)
      have hs1 := hb1.size
      clear hla hoa
      go_wp2_with fail
      refine (gauss_any n k _ _ _ (by omega) (by omega) (by omega) (by omega)).mono ?_
      rintro e w2 ⟨Ab, lb, cb, hlb, rfl, hob, hb2⟩
      have HLB := Lib.hid hlb
      have HOB := Lib.hid hob
      have lb1 : lb ≤ 1000 := by rw [hlb]; exact gau_len14 (by omega) (by omega)
      have hs2 := hb2.size
      clear hlb hob
      have hlt := gau_lt (show k < n by omega)
      rw [← HLA.out, ← HLB.out] at hlt
      obtain ⟨m, hm, m1, m2, m3, m4⟩ : ∃ m : Nat, m = lb + (n - k) ∧ la < m ∧ m ≤ 1020 ∧ lb + n ≤ m + k ∧ m + k ≤ lb + n := ⟨lb + (n - k), rfl, by omega, by omega, by omega, by omega⟩
      have HM := Lib.hid hm
      have hlt2 : (la : Int) < (lb : Int) + ((n : Int) + 1) - ((k : Int) + 1) := by omega
      have hmk := mkI m (by omega) w2
      rw [show ((m : Nat) : Int) = (lb : Int) + ((n : Int) + 1) - ((k : Int) + 1) by omega] at hmk
      have hown0 := Own.made w2 3 (.int .i64 0) m (by unfold maxLen; omega)
      rw [iv_rep] at hown0
      have HO0 := Lib.hid (hown0.mono (B' := w.heap.size) (by omega))
      have HG := Lib.hid (show gau (n + 1) (k + 1) = upd (upd (List.replicate m 0) (fun j => (gau n (k + 1)).getD j 0) 0 la) (fun j => (gau n k).getD j 0) (n - k) lb by
        rw [gau, if_neg hkn, ← HLA.out, ← HLB.out, ← hm, Nat.max_eq_right (by omega)])
      have HB2 := Lib.hid (hb1.trans (hb2.mono hs1))
      have HOA2 := Lib.hid (HOA.out.below hb2)
      clear hm hown0 hlt hb1 hb2 m3 m4
      go_wp2_with fail
      clear hmk
      go_loopw [41, 8, 9] (fun i _ _ wr => ∃ j : Nat, j ≤ la ∧ i = .int .i64 j ∧ Own wr 3 w.heap.size (some ⟨w2.heap.size, 0, none⟩) m m (iv (upd (List.replicate m 0) (fun j => (gau n (k + 1)).getD j 0) 0 j)) ∧ Below w2.heap.size w2 wr) (fun i _ _ _ => la - (intOf i).toNat)
      case atStart => exact ⟨0, Nat.zero_le _, rfl, HO0.out, (Below.refl _ _).alloc (Nat.le_refl _) _⟩
      case round =>
        obtain ⟨j, hj, rfl, ho, hb⟩ := hrel
        by_cases hlt : j < la
        · obtain ⟨b, off, x, hA, hx, hc⟩ := (HOA2.out.rd.below hb).ati hlt
          subst hA
          obtain ⟨g, y, hg, _, hgs, hy, hcy, hfy⟩ := ho.ati (show j < m by omega)
          cases hg
          have HO := Lib.hid ho
          have hy0 : y = 0 := by
            have h0 := upd_get (List.replicate m 0) (fun j => (gau n (k + 1)).getD j 0) 0 j j (by simp; omega)
            rw [getD_ofQ hy, getD_rep, if_neg (by omega)] at h0
            exact h0
          subst hy0
          have HN := Lib.hid (show (upd (List.replicate m 0) (fun j => (gau n (k + 1)).getD j 0) 0 j).set j x = upd (List.replicate m 0) (fun j => (gau n (k + 1)).getD j 0) 0 (j + 1) by
            show _ = List.set _ _ _
            have e : 0 + j = j := Nat.zero_add j
            rw [e, getD_ofQ hy]; show _ = List.set _ j (0 + (gau n (k + 1)).getD j 0); rw [getD_ofQ hx, Int.zero_add])
          have kk : (j : Int) < (m : Int) := by omega
          clear hx hy ho
          go_wp2_with fail
          go_roundw
          case rel => exact ⟨j + 1, by omega, by go_num, by rw [← HN.out]; exact HO.out.puti j x, hb.setCell (p := ⟨w2.heap.size, j, none⟩) (Nat.le_refl _) _⟩
          case measure => simp [intOf]; omega
        · have HO := Lib.hid (show Own wr 3 w.heap.size (some ⟨w2.heap.size, 0, none⟩) m m (iv (upd (List.replicate m 0) (fun j => (gau n (k + 1)).getD j 0) 0 la)) by rw [show la = j by omega]; exact ho)
          clear ho
          go_wp2_with fail
          go_loopw [53, 10, 11] (fun i _ _ wv => ∃ j : Nat, j ≤ lb ∧ i = .int .i64 j ∧ Own wv 3 w.heap.size (some ⟨w2.heap.size, 0, none⟩) m m (iv (upd (upd (List.replicate m 0) (fun j => (gau n (k + 1)).getD j 0) 0 la) (fun j => (gau n k).getD j 0) (n - k) j)) ∧ Below w2.heap.size w2 wv) (fun i _ _ _ => lb - (intOf i).toNat)
          case atStart => exact ⟨0, Nat.zero_le _, rfl, HO.out, hb⟩
          case round =>
            obtain ⟨i, hi, rfl, ho2, hb2⟩ := hrel
            by_cases hlt3 : i < lb
            · obtain ⟨b, off, x, hA, hx, hc⟩ := (HOB.out.rd.below hb2).ati hlt3
              subst hA
              have hM := HM.out
              obtain ⟨g, y, hg, _, hgs, hy, hcy, hfy⟩ := ho2.ati (show n - k + i < m by omega)
              cases hg
              have HO2 := Lib.hid ho2
              have yb : 0 ≤ y ∧ y ≤ 16384 := by
                have h0 := upd_get (upd (List.replicate m 0) (fun j => (gau n (k + 1)).getD j 0) 0 la) (fun j => (gau n k).getD j 0) (n - k) i (n - k + i) (by rw [upd_len]; simp; omega)
                rw [getD_ofQ hy, if_neg (by omega), upd_get _ _ _ _ _ (by simp; omega), getD_rep] at h0
                have h1 := gau_bd14 (show n ≤ 14 by omega) (k + 1) (n - k + i - 0)
                rw [h0]
                split <;> omega
              have xb := gau_bd14 (show n ≤ 14 by omega) k i
              rw [getD_ofQ hx] at xb
              have HN := Lib.hid (show (upd (upd (List.replicate m 0) (fun j => (gau n (k + 1)).getD j 0) 0 la) (fun j => (gau n k).getD j 0) (n - k) i).set (n - k + i) (y + x) = upd (upd (List.replicate m 0) (fun j => (gau n (k + 1)).getD j 0) 0 la) (fun j => (gau n k).getD j 0) (n - k) (i + 1) by
                show _ = List.set _ _ _
                rw [getD_ofQ hy]; show _ = List.set _ (n - k + i) (y + (gau n k).getD i 0); rw [getD_ofQ hx])
              have kk0 : (0 : Int) ≤ (i : Int) + ((n : Int) + 1) - ((k : Int) + 1) := by omega
              have kk : (i : Int) + ((n : Int) + 1) - ((k : Int) + 1) < (m : Int) := by omega
              have ke : ((i : Int) + ((n : Int) + 1) - ((k : Int) + 1)).toNat = n - k + i := by omega
              clear hx hy ho2 hM
              go_wp2_with fail
              go_roundw
              case rel => exact ⟨i + 1, by omega, by go_num, by rw [← HN.out]; exact HO2.out.puti (n - k + i) (y + x), hb2.setCell (p := ⟨w2.heap.size, n - k + i, none⟩) (Nat.le_refl _) _⟩
              case measure => simp [intOf]; omega
            · have HO2 := Lib.hid (show Own wr 3 w.heap.size (some ⟨w2.heap.size, 0, none⟩) m m (iv (gau (n + 1) (k + 1))) by rw [HG.out, show lb = i by omega]; exact ho2)
              have HL := Lib.hid (show m = (gau (n + 1) (k + 1)).length by rw [HG.out, upd_len, upd_len, List.length_replicate])
              clear ho2
              go_wp2_with fail
              go_ret
              exact ⟨_, _, _, HL.out, rfl, HO2.out, HB2.out.trans (hb2.mono (by omega))⟩

end Go.Proofs.YtghfhkbncjgaeaaGreat

namespace Go.Proofs.YtghfhkbncjgaeaaGreat
open Go.RowKit

/-- Row m up to place k. -/
def rowsL (m k : Nat) : List (List Int) := (List.range (min m k + 1)).map (gau m)
theorem rowsL_at {m k j : Nat} (h : j ≤ min m k) : (rowsL m k)[j]? = some (gau m j) := by
  unfold rowsL
  rw [List.getElem?_map, List.getElem?_range (by omega)]; rfl
def nextL (m j : Nat) : List (List Int) := (List.range j).map (gau m)
theorem nextL_snoc (m j : Nat) : nextL m (j + 1) = nextL m j ++ [gau m j] := by simp [nextL, List.range_succ]
theorem nextL_rows (m k : Nat) : nextL m (min m k + 1) = rowsL m k := rfl
theorem bin_a (m : Nat) : gau (m + 1) 0 = upd (List.replicate 1 0) (fun i => (gau m 0).getD i 0) 0 (gau m 0).length := by rw [gau_0, gau_0]; rfl
theorem bin_c (m : Nat) : gau (m + 1) (m + 1) = upd (List.replicate 1 0) (fun i => (gau m m).getD i 0) 0 (gau m m).length := by rw [gau_n, gau_n]; rfl
theorem bin_b {m j L : Nat} (h : j < m) (hL : (gau m j).length + (m - j) = L) : gau (m + 1) (j + 1) = upd (upd (List.replicate L 0) (fun i => (gau m (j + 1)).getD i 0) 0 (gau m (j + 1)).length) (fun i => (gau m j).getD i 0) (m - j) (gau m j).length := by
  have := gau_lt h
  rw [gau, if_neg (by omega), Nat.max_eq_right (by omega), hL]
theorem bin_L {m j : Nat} (h : j ≤ m) : (gau m j).length + (m - j) = (j + 1) * (m - j) + 1 := by
  rw [gau_len m j h]
  have h1 := Nat.succ_mul j (m - j)
  simp only [Nat.succ_eq_add_one] at h1
  omega
/-- A slice of slices with one row that holds 1. -/
theorem O2.one (w : World) : O2 ((w.alloc (.cells #[.int .i64 1] 3)).alloc (.cells #[.slice (some ⟨w.heap.size, 0, none⟩) 1 1] 28)) w.heap.size (some ⟨w.heap.size + 1, 0, none⟩) 1 1 [.slice (some ⟨w.heap.size, 0, none⟩) 1 1] [[1]] := by
  have h1 := Own.lit w 3 #[.int .i64 1] 1 rfl (by decide)
  have h2 := Own.lit (w.alloc (.cells #[.int .i64 1] 3)) 28 #[.slice (some ⟨w.heap.size, 0, none⟩) 1 1] 1 rfl (by decide)
  rw [show (w.alloc (.cells #[.int .i64 1] 3)).heap.size = w.heap.size + 1 by simp] at h2
  refine ⟨h2.mono (by omega), rfl, ?_, ?_⟩
  · intro j xs hj
    rcases j with _ | j
    · cases hj
      exact ⟨_, 1, rfl, h1.alloc _⟩
    · simp at hj
  · intro i j u v g hij hu hv
    rcases i with _ | i
    · rcases j with _ | j
      · omega
      · simp at hv
    · simp at hu
theorem appRow (w : World) {ops : Array Oper} {rest : List Oper} {o : Oper} {a : Act} {Q : Exit → Act → World → Prop} (hgd : o.guard = none) (s x : Operand)
    (ho : o.op = .call { callee := .builtin .append, args := #[s, x], argTypes := #[75, 75] })
    (B : Nat) (A : Option Addr) (n c : Nat) (vs : List Value) (hs : a.eval s = .slice A n c) (hown : Own w 28 B A n c vs)
    (g : Nat) (y : Option Addr) (m d : Nat) (hx : a.eval x = .slice (some ⟨g, 0, none⟩) 1 1) (hy : w.cell? ⟨g, 0, none⟩ = some (.slice y m d)) (hn : n ≤ 1000000000) (hbase' : B ≤ g)
    (h : ∀ A' c' w', Own w' 28 B A' (n + 1) c' (vs ++ [.slice y m d]) → w.grownBy w' (Value.ownBlock (.slice A n c)) → Below B w w' → wpList Tryz.prog ops Q rest (a.put o.dst (.slice A' (n + 1) c')) w') : wpList Tryz.prog ops Q (o :: rest) a w :=
  app1 w hgd s x 75 ho 28 (.slice none 0 0) 24 Tryz.underlying75 info_ints rfl (by decide) B A n c vs hs hown g _ hx hy rfl hn hbase' h
/-- The new row x, which lies in its own block, at the end. -/
theorem O2.pushx {w wv w' : World} {lo g : Nat} {A A' : Option Addr} {n c c' L : Nat} {vs : List Value} {xss : List (List Int)} {ys : List Int} (h : O2 w lo A n c vs xss) (hg : g = w.heap.size) (hb : Below w.heap.size w wv) (hr : Own wv 3 lo (some ⟨g, 0, none⟩) L L (iv ys)) (hL : L = ys.length)
    (ow : Obj) (hgr : (wv.alloc ow).grownBy w' (Value.ownBlock (.slice A n c))) (ho : Own w' 28 lo A' (n + 1) c' (vs ++ [.slice (some ⟨g, 0, none⟩) L L])) : O2 w' lo A' (n + 1) c' (vs ++ [.slice (some ⟨g, 0, none⟩) L L]) (xss ++ [ys]) := by
  subst hL
  refine ((h.below hb).alloc ow).push (hr.alloc ow) ?_ hgr ho
  intro g' hg' j u hu he
  cases hg'
  have hj : j < xss.length := by have := (List.getElem?_eq_some_iff.1 hu).1; rw [h.len] at this; exact this
  obtain ⟨Aj, cj, hv, hoj⟩ := h.row j _ (List.getElem?_eq_getElem hj)
  rw [hu] at hv
  cases hv
  have := (hoj.blk _ he).2
  omega

end Go.Proofs.YtghfhkbncjgaeaaGreat
