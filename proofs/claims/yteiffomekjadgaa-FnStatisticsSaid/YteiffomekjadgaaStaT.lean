/- The statistics of a path by their names, both sides. -/
import Derived.Test.YteiffomekjadgaaStaPI
import Derived.Test.YteiffomekjadgaaStaB
import Derived.Test.YteiffomekjadgaaStatM
import Derived.Test.YteiffomekjadgaaPartS
import Derived.Test.YteiffomekjadgaaPartI
namespace Go.Proofs.Yteiffomekjadgaa
set_option linter.unusedVariables false
open Go.RowKit

def nPeaks : List UInt8 := [112, 101, 97, 107, 115]
def nReturns : List UInt8 := [114, 101, 116, 117, 114, 110, 115]
def nRise : List UInt8 := [114, 105, 115, 101]
def nFall : List UInt8 := [102, 97, 108, 108]
def nArea : List UInt8 := [97, 114, 101, 97]
def nDepth : List UInt8 := [100, 101, 112, 116, 104]
def nLeaves : List UInt8 := [108, 101, 97, 118, 101, 115]
def nBlocks : List UInt8 := [98, 108, 111, 99, 107, 115]
def nMajor : List UInt8 := [109, 97, 106, 111, 114]
/-- The value of a statistic at a Dyck path. -/
def stN (f l : List UInt8) : Int :=
  if f = [112, 101, 97, 107, 115] then (pk l (l.length - 1) : Int)
  else if f = [114, 101, 116, 117, 114, 110, 115] then (rtn l l.length : Int)
  else if f = [114, 105, 115, 101] then (runC 117 l : Int)
  else if f = [102, 97, 108, 108] then (runC 100 l.reverse : Int)
  else if f = [97, 114, 101, 97] then ars l l.length
  else if f = [100, 101, 112, 116, 104] then dps l (l.length + 1)
  else if f = [108, 101, 97, 118, 101, 115] then (lvN l : Int)
  else if f = [98, 108, 111, 99, 107, 115] then (pk l (l.length - 1) : Int)
  else if f = [109, 97, 106, 111, 114] then (mjr l (l.length - 1) : Int)
  else -1
def sttB (f l : List UInt8) : Int := if dyck l then stN f l else -1
theorem stN_peaks (l : List UInt8) : stN [112, 101, 97, 107, 115] l = (pk l (l.length - 1) : Int) := rfl
theorem stN_returns (l : List UInt8) : stN [114, 101, 116, 117, 114, 110, 115] l = (rtn l l.length : Int) := rfl
theorem stN_rise (l : List UInt8) : stN [114, 105, 115, 101] l = (runC 117 l : Int) := rfl
theorem stN_fall (l : List UInt8) : stN [102, 97, 108, 108] l = (runC 100 l.reverse : Int) := rfl
theorem stN_area (l : List UInt8) : stN [97, 114, 101, 97] l = ars l l.length := rfl
theorem stN_depth (l : List UInt8) : stN [100, 101, 112, 116, 104] l = dps l (l.length + 1) := rfl
theorem stN_leaves (l : List UInt8) : stN [108, 101, 97, 118, 101, 115] l = (lvN l : Int) := rfl
theorem stN_blocks (l : List UInt8) : stN [98, 108, 111, 99, 107, 115] l = (pk l (l.length - 1) : Int) := rfl
theorem stN_major (l : List UInt8) : stN [109, 97, 106, 111, 114] l = (mjr l (l.length - 1) : Int) := rfl
theorem blk_cnt {xs : List Int} {x : Nat} (h : blkB xs x = true) : (blocksB xs).length = x := by
  unfold blkB at h
  rw [Bool.and_eq_true, beq_iff_eq] at h
  unfold blocksB
  rw [if_pos h.1]
  have := blk_len (xs := xs) xs.length (Nat.le_refl _)
  omega
theorem rev_at {l : List UInt8} {k : Nat} (h : k < l.length) : l.reverse[k]? = l[l.length - 1 - k]? := List.getElem?_reverse h

set_option maxHeartbeats 2000000 in
theorem l13Run_u (l : List UInt8) (w : World) (h16 : l.length ≤ 16) :
    Calls Try.prog 64 #[.string (bs l), .bool false] w fun e w' => e = .returned (.int .i64 (runC 117 l : Nat)) ∧ w = w' := by
  go_enter Try.func64, Try.ntmps64
  go_wp2_with fail
  go_loop [5] (fun s => ∃ k : Nat, k ≤ l.length ∧ s = .int .i64 k ∧ Hid (∀ j, j < k → l[j]? = some 117)) (fun s => l.length - (intOf s).toNat)
  case atStart => exact ⟨0, Nat.zero_le _, rfl, Lib.hid (fun j hj => by omega)⟩
  case round =>
    obtain ⟨k, hk, rfl, HK⟩ := hrel
    by_cases hlt : k < l.length
    · obtain ⟨ch, hc⟩ : ∃ c, l[k] = c := ⟨_, rfl⟩
      have HC := Lib.hid (show l[k]? = some ch by rw [List.getElem?_eq_getElem hlt, hc])
      by_cases hp : ch = 117
      · have e1 : (((l[k]'hlt).toNat : Int) == 117) = true := by rw [hc, hp]; rfl
        have p1 : ((l[k]'hlt).toNat : Int) = 117 := by rw [hc, hp]; rfl
        have HN := Lib.hid (show ∀ j, j < k + 1 → l[j]? = some 117 from fun j hj => by
          by_cases h : j = k
          · rw [h, HC.out, hp]
          · exact HK.out j (by omega))
        clear hc hp
        go_wp2_with fail
        go_round
        case rel => exact ⟨k + 1, by omega, by go_num, HN⟩
        case measure => simp [intOf]; omega
      · have e1 : (((l[k]'hlt).toNat : Int) == 117) = false := by rw [hc]; exact u8_ne hp
        have p1 : ¬ ((l[k]'hlt).toNat : Int) = 117 := by rw [hc]; have := u8_ne hp; rw [beq_eq_false_iff_ne] at this; exact this
        have HE := Lib.hid (show runC 117 l = k from runC_eq HK.out (by rw [HC.out]; intro h; injection h with h; exact hp h))
        clear hc hp
        go_wp2_with fail
        go_ret
        exact ⟨ret_int (by rw [HE.out]), rfl⟩
    · have HE := Lib.hid (show runC 117 l = k from runC_eq HK.out (by rw [List.getElem?_eq_none (by first | omega | (rw [List.length_reverse]; omega))]; simp))
      go_wp2_with fail
      go_ret
      exact ⟨ret_int (by rw [HE.out]), rfl⟩
set_option maxHeartbeats 2000000 in
theorem l13Run_d (l : List UInt8) (w : World) (h16 : l.length ≤ 16) :
    Calls Try.prog 64 #[.string (bs l), .bool true] w fun e w' => e = .returned (.int .i64 (runC 100 l.reverse : Nat)) ∧ w = w' := by
  go_enter Try.func64, Try.ntmps64
  go_wp2_with fail
  go_loop [5] (fun s => ∃ k : Nat, k ≤ l.length ∧ s = .int .i64 k ∧ Hid (∀ j, j < k → l.reverse[j]? = some 100)) (fun s => l.length - (intOf s).toNat)
  case atStart => exact ⟨0, Nat.zero_le _, rfl, Lib.hid (fun j hj => by omega)⟩
  case round =>
    obtain ⟨k, hk, rfl, HK⟩ := hrel
    by_cases hlt : k < l.length
    · have hlt' : l.length - 1 - k < l.length := by omega
      obtain ⟨ch, hc⟩ : ∃ c, l[l.length - 1 - k]'hlt' = c := ⟨_, rfl⟩
      have HC := Lib.hid (show l.reverse[k]? = some ch by rw [rev_at hlt, List.getElem?_eq_getElem hlt', hc])
      have i1 : (0 : Int) ≤ (l.length : Int) - 1 - (k : Int) := by omega
      have i2 : (l.length : Int) - 1 - (k : Int) < (l.length : Int) := by omega
      have i3 : ((l.length : Int) - 1 - (k : Int)).toNat = l.length - 1 - k := by omega
      by_cases hp : ch = 100
      · have e1 : (((l[l.length - 1 - k]'hlt').toNat : Int) == 100) = true := by rw [hc, hp]; rfl
        have p1 : ((l[l.length - 1 - k]'hlt').toNat : Int) = 100 := by rw [hc, hp]; rfl
        have HN := Lib.hid (show ∀ j, j < k + 1 → l.reverse[j]? = some 100 from fun j hj => by
          by_cases h : j = k
          · rw [h, HC.out, hp]
          · exact HK.out j (by omega))
        clear hc hp
        go_wp2_with fail
        go_round
        case rel => exact ⟨k + 1, by omega, by go_num, HN⟩
        case measure => simp [intOf]; omega
      · have e1 : (((l[l.length - 1 - k]'hlt').toNat : Int) == 100) = false := by rw [hc]; exact u8_ne hp
        have p1 : ¬ ((l[l.length - 1 - k]'hlt').toNat : Int) = 100 := by rw [hc]; have := u8_ne hp; rw [beq_eq_false_iff_ne] at this; exact this
        have HE := Lib.hid (show runC 100 l.reverse = k from runC_eq HK.out (by rw [HC.out]; intro h; injection h with h; exact hp h))
        clear hc hp
        go_wp2_with fail
        go_ret
        exact ⟨ret_int (by rw [HE.out]), rfl⟩
    · have HE := Lib.hid (show runC 100 l.reverse = k from runC_eq HK.out (by rw [List.getElem?_eq_none (by first | omega | (rw [List.length_reverse]; omega))]; simp))
      go_wp2_with fail
      go_ret
      exact ⟨ret_int (by rw [HE.out]), rfl⟩
theorem renL_len9 (l : List Int) : (renL l).length = l.length := renO_len l _
theorem parS_len9 {l : List UInt8} (h : l.length ≤ 16) : (parS l).1.length ≤ 1000000000 := by
  unfold parS
  split
  · show (renL _).length ≤ _
    rw [renL_len9, blS_len]; omega
  · exact Nat.zero_le _
theorem parI_len9 {l : List UInt8} (h : l.length ≤ 16) : (parI l).1.length ≤ 1000000000 := by
  unfold parI
  split
  · show (renL _).length ≤ _
    have h1 : ∀ k, ups l k ≤ k := fun k => by
      induction k with
      | zero => exact Nat.le_refl _
      | succ k ih => rw [ups]; split <;> omega
    have := h1 l.length
    rw [renL_len9, liI_len]; omega
  · exact Nat.zero_le _

set_option maxRecDepth 20000 in
set_option maxHeartbeats 4000000 in
theorem specStatisticOf_any (f l : List UInt8) (w : World) (hl9 : l.length ≤ 1000000000) (hg : dyck l = true → goodB l = true) :
    Calls Try.prog 8 #[.string (bs f), .string (bs l)] w fun e w' => e = .returned (.int .i64 (sttB f l)) ∧ Below w.heap.size w w' := by
  rcases hd : dyck l with _ | _
  · have HD := Lib.hid hd
    have HF := Lib.hid (show sttB f l = -1 by unfold sttB; rw [hd]; rfl)
    clear hd hg
    go_enter Try.func8, Try.ntmps8
    go_wp2_with fail
    refine (specIsDyck_any l _ hl9).mono ?_
    rintro e w1 ⟨rfl, rfl⟩
    have hb1 := Below.refl w.heap.size w
    rw [HD.out]
    go_wp2_with fail
    go_ret
    exact ⟨ret_int (by rw [HF.out]), hb1⟩
  have HD := Lib.hid hd
  obtain ⟨g1, g2, g3, g4, g5⟩ := goodB_at (hg hd)
  have HT := Lib.hid g1
  have HPO := Lib.hid g2
  have HLV := Lib.hid g3
  have HBI := Lib.hid (blk_cnt g4)
  have HBS := Lib.hid (blk_cnt g5)
  obtain ⟨h16, _, _⟩ := dyck_pathB hd
  have HPI := Lib.hid (show (parI l).2 = true by unfold parI; rw [hd]; rfl)
  have HPS := Lib.hid (show (parS l).2 = true by unfold parS; rw [hd]; rfl)
  have HSB := Lib.hid (show sttB f l = stN f l by unfold sttB; rw [hd]; rfl)
  clear hd hg g1 g2 g3 g4 g5
  have hs1 : ∀ {a b : World}, Below w.heap.size w a → Below a.heap.size a b → Below w.heap.size w b := fun h1 h2 => h1.trans (h2.mono h1.size)
  go_enter Try.func8, Try.ntmps8
  go_wp2_with fail
  refine (specIsDyck_any l _ hl9).mono ?_
  rintro e w1 ⟨rfl, rfl⟩
  have hb1 := Below.refl w.heap.size w
  rw [HD.out]
  by_cases h0 : f = [112, 101, 97, 107, 115]
  · have HV := Lib.hid (show sttB f l = (pk l (l.length - 1) : Int) by rw [HSB.out, h0]; rfl)
    have c0 : (f == [112, 101, 97, 107, 115]) = true := by rw [beq_iff_eq]; exact h0
    clear h0
    go_wp2_with fail
    refine (specPeaksOf_any l _ HD.out).mono ?_
    rintro e w2 ⟨rfl, rfl⟩
    go_wp2_with fail
    go_ret
    exact ⟨ret_int (by rw [HV.out]), hb1⟩
  have c0 : (f == [112, 101, 97, 107, 115]) = false := by rw [beq_eq_false_iff_ne]; exact h0
  by_cases h1 : f = [114, 101, 116, 117, 114, 110, 115]
  · have HV := Lib.hid (show sttB f l = (rtn l l.length : Int) by rw [HSB.out, h1]; rfl)
    have c1 : (f == [114, 101, 116, 117, 114, 110, 115]) = true := by rw [beq_iff_eq]; exact h1
    clear h1
    go_wp2_with fail
    refine (specReturnsOf_any l _ HD.out).mono ?_
    rintro e w2 ⟨rfl, hb2⟩
    go_wp2_with fail
    go_ret
    exact ⟨ret_int (by rw [HV.out]), hs1 hb1 hb2⟩
  have c1 : (f == [114, 101, 116, 117, 114, 110, 115]) = false := by rw [beq_eq_false_iff_ne]; exact h1
  by_cases h2 : f = [114, 105, 115, 101]
  · have HV := Lib.hid (show sttB f l = (runC 117 l : Int) by rw [HSB.out, h2]; rfl)
    have c2 : (f == [114, 105, 115, 101]) = true := by rw [beq_iff_eq]; exact h2
    clear h2
    go_wp2_with fail
    refine (l13Run_u l _ h16).mono ?_
    rintro e w2 ⟨rfl, rfl⟩
    go_wp2_with fail
    go_ret
    exact ⟨ret_int (by rw [HV.out]), hb1⟩
  have c2 : (f == [114, 105, 115, 101]) = false := by rw [beq_eq_false_iff_ne]; exact h2
  by_cases h3 : f = [102, 97, 108, 108]
  · have HV := Lib.hid (show sttB f l = (runC 100 l.reverse : Int) by rw [HSB.out, h3]; rfl)
    have c3 : (f == [102, 97, 108, 108]) = true := by rw [beq_iff_eq]; exact h3
    clear h3
    go_wp2_with fail
    refine (l13Run_d l _ h16).mono ?_
    rintro e w2 ⟨rfl, rfl⟩
    go_wp2_with fail
    go_ret
    exact ⟨ret_int (by rw [HV.out]), hb1⟩
  have c3 : (f == [102, 97, 108, 108]) = false := by rw [beq_eq_false_iff_ne]; exact h3
  by_cases h4 : f = [97, 114, 101, 97]
  · have HV := Lib.hid (show sttB f l = ars l l.length by rw [HSB.out, h4]; rfl)
    have c4 : (f == [97, 114, 101, 97]) = true := by rw [beq_iff_eq]; exact h4
    clear h4
    go_wp2_with fail
    refine (specAreaOf_any l _ HD.out).mono ?_
    rintro e w2 ⟨rfl, hb2⟩
    go_wp2_with fail
    go_ret
    exact ⟨ret_int (by rw [HV.out]), hs1 hb1 hb2⟩
  have c4 : (f == [97, 114, 101, 97]) = false := by rw [beq_eq_false_iff_ne]; exact h4
  by_cases h5 : f = [100, 101, 112, 116, 104]
  · have HV := Lib.hid (show sttB f l = dps l (l.length + 1) by rw [HSB.out, h5]; rfl)
    have c5 : (f == [100, 101, 112, 116, 104]) = true := by rw [beq_iff_eq]; exact h5
    clear h5
    go_wp2_with fail
    refine (specBracketsOf_any l _ HD.out).mono ?_
    rintro e w2 ⟨rfl, rfl⟩
    have hb12 := hb1
    go_wp2_with fail
    refine (specDepthOf_brk l _ HD.out).mono ?_
    rintro e w3 ⟨rfl, hb3⟩
    go_wp2_with fail
    go_ret
    exact ⟨ret_int (by rw [HV.out]), hs1 hb12 hb3⟩
  have c5 : (f == [100, 101, 112, 116, 104]) = false := by rw [beq_eq_false_iff_ne]; exact h5
  by_cases h6 : f = [108, 101, 97, 118, 101, 115]
  · have HV := Lib.hid (show sttB f l = (lvN l : Int) by rw [HSB.out, h6]; rfl)
    have c6 : (f == [108, 101, 97, 118, 101, 115]) = true := by rw [beq_iff_eq]; exact h6
    clear h6
    go_wp2_with fail
    refine (specPlaneOf_any l _ HD.out HT.out).mono ?_
    rintro e w2 ⟨A, n, c, hn, rfl, hown, hb2⟩
    have HR := Lib.hid hown.rd
    have HP2 := Lib.hid (show PlOk (plP l l.length) n by rw [hn]; exact HPO.out)
    have HL2 := Lib.hid (show lvP (plP l l.length) n = lvN l by rw [hn]; exact HLV.out)
    clear hn hown
    go_wp2_with fail
    refine (specLeavesOf_ok _ _ _ _ _ HR.out HP2.out).mono ?_
    rintro e w3 ⟨rfl, hb3⟩
    rw [HL2.out]
    go_wp2_with fail
    go_ret
    exact ⟨ret_int (by rw [HV.out]), hs1 (hs1 hb1 hb2) hb3⟩
  have c6 : (f == [108, 101, 97, 118, 101, 115]) = false := by rw [beq_eq_false_iff_ne]; exact h6
  by_cases h7 : f = [98, 108, 111, 99, 107, 115]
  · have HV := Lib.hid (show sttB f l = (pk l (l.length - 1) : Int) by rw [HSB.out, h7]; rfl)
    have c7 : (f == [98, 108, 111, 99, 107, 115]) = true := by rw [beq_iff_eq]; exact h7
    clear h7
    go_wp2_with fail
    refine (specPartitionOf_any l _ hl9).mono ?_
    rintro e w2 ⟨A, n, c, hn, rfl, hown, hb2⟩
    have HR := Lib.hid hown.rd
    have hn9 : n ≤ 1000000000 := by rw [hn]; exact parS_len9 h16
    clear hn hown
    go_wp2_with fail
    refine (specBlocksOf_any _ _ _ _ _ HR.out hn9).mono ?_
    rintro e w3 ⟨A3, n3, c3, vs, rfl, ho, hb3⟩
    have HN := Lib.hid (show (n3 : Int) = (pk l (l.length - 1) : Int) by have h1 := ho.n_eq; rw [h1, HBS.out])
    clear ho
    go_wp2_with fail
    go_ret
    exact ⟨ret_int (by rw [HV.out, ← HN.out]), hs1 (hs1 hb1 hb2) hb3⟩
  have c7 : (f == [98, 108, 111, 99, 107, 115]) = false := by rw [beq_eq_false_iff_ne]; exact h7
  by_cases h8 : f = [109, 97, 106, 111, 114]
  · have HV := Lib.hid (show sttB f l = (mjr l (l.length - 1) : Int) by rw [HSB.out, h8]; rfl)
    have c8 : (f == [109, 97, 106, 111, 114]) = true := by rw [beq_iff_eq]; exact h8
    clear h8
    go_wp2_with fail
    refine (specMajorOf_any l _ HD.out).mono ?_
    rintro e w2 ⟨rfl, rfl⟩
    go_wp2_with fail
    go_ret
    exact ⟨ret_int (by rw [HV.out]), hb1⟩
  have c8 : (f == [109, 97, 106, 111, 114]) = false := by rw [beq_eq_false_iff_ne]; exact h8
  have HV := Lib.hid (show sttB f l = -1 by rw [HSB.out]; unfold stN; simp only [h0, h1, h2, h3, h4, h5, h6, h7, h8, if_neg, not_false_eq_true])
  clear h0 h1 h2 h3 h4 h5 h6 h7 h8
  go_wp2_with fail
  go_ret
  exact ⟨ret_int (by rw [HV.out]), hb1⟩
set_option maxRecDepth 20000 in
set_option maxHeartbeats 4000000 in
theorem implStatisticOf_any (f l : List UInt8) (w : World) (hl9 : l.length ≤ 1000000000) (hg : dyck l = true → goodB l = true) :
    Calls Try.prog 7 #[.string (bs f), .string (bs l)] w fun e w' => e = .returned (.int .i64 (sttB f l)) ∧ Below w.heap.size w w' := by
  rcases hd : dyck l with _ | _
  · have HD := Lib.hid hd
    have HF := Lib.hid (show sttB f l = -1 by unfold sttB; rw [hd]; rfl)
    clear hd hg
    go_enter Try.func7, Try.ntmps7
    go_wp2_with fail
    refine (implIsDyck_any l _ hl9).mono ?_
    rintro e w1 ⟨rfl, hb1⟩
    rw [HD.out]
    go_wp2_with fail
    go_ret
    exact ⟨ret_int (by rw [HF.out]), hb1⟩
  have HD := Lib.hid hd
  obtain ⟨g1, g2, g3, g4, g5⟩ := goodB_at (hg hd)
  have HT := Lib.hid g1
  have HPO := Lib.hid g2
  have HLV := Lib.hid g3
  have HBI := Lib.hid (blk_cnt g4)
  have HBS := Lib.hid (blk_cnt g5)
  obtain ⟨h16, _, _⟩ := dyck_pathB hd
  have HPI := Lib.hid (show (parI l).2 = true by unfold parI; rw [hd]; rfl)
  have HPS := Lib.hid (show (parS l).2 = true by unfold parS; rw [hd]; rfl)
  have HSB := Lib.hid (show sttB f l = stN f l by unfold sttB; rw [hd]; rfl)
  clear hd hg g1 g2 g3 g4 g5
  have hs1 : ∀ {a b : World}, Below w.heap.size w a → Below a.heap.size a b → Below w.heap.size w b := fun h1 h2 => h1.trans (h2.mono h1.size)
  go_enter Try.func7, Try.ntmps7
  go_wp2_with fail
  refine (implIsDyck_any l _ hl9).mono ?_
  rintro e w1 ⟨rfl, hb1⟩
  rw [HD.out]
  by_cases h0 : f = [112, 101, 97, 107, 115]
  · have HV := Lib.hid (show sttB f l = (pk l (l.length - 1) : Int) by rw [HSB.out, h0]; rfl)
    have c0 : (f == [112, 101, 97, 107, 115]) = true := by rw [beq_iff_eq]; exact h0
    clear h0
    go_wp2_with fail
    refine (implPeaksOf_any l _ HD.out).mono ?_
    rintro e w2 ⟨rfl, hb2⟩
    go_wp2_with fail
    go_ret
    exact ⟨ret_int (by rw [HV.out]), hs1 hb1 hb2⟩
  have c0 : (f == [112, 101, 97, 107, 115]) = false := by rw [beq_eq_false_iff_ne]; exact h0
  by_cases h1 : f = [114, 101, 116, 117, 114, 110, 115]
  · have HV := Lib.hid (show sttB f l = (rtn l l.length : Int) by rw [HSB.out, h1]; rfl)
    have c1 : (f == [114, 101, 116, 117, 114, 110, 115]) = true := by rw [beq_iff_eq]; exact h1
    clear h1
    go_wp2_with fail
    refine (implReturnsOf_any l _ HD.out).mono ?_
    rintro e w2 ⟨rfl, hb2⟩
    go_wp2_with fail
    go_ret
    exact ⟨ret_int (by rw [HV.out]), hs1 hb1 hb2⟩
  have c1 : (f == [114, 101, 116, 117, 114, 110, 115]) = false := by rw [beq_eq_false_iff_ne]; exact h1
  by_cases h2 : f = [114, 105, 115, 101]
  · have HV := Lib.hid (show sttB f l = (runC 117 l : Int) by rw [HSB.out, h2]; rfl)
    have c2 : (f == [114, 105, 115, 101]) = true := by rw [beq_iff_eq]; exact h2
    clear h2
    go_wp2_with fail
    go_loop [5] (fun s => ∃ k : Nat, k ≤ l.length ∧ s = .int .i64 k ∧ Hid (∀ j, j < k → l[j]? = some 117)) (fun s => l.length - (intOf s).toNat)
    case atStart => exact ⟨0, Nat.zero_le _, rfl, Lib.hid (fun j hj => by omega)⟩
    case round =>
      obtain ⟨k, hk, rfl, HK⟩ := hrel
      by_cases hlt : k < l.length
      · obtain ⟨ch, hc⟩ : ∃ c, l[k] = c := ⟨_, rfl⟩
        have HC := Lib.hid (show l[k]? = some ch by rw [List.getElem?_eq_getElem hlt, hc])
        by_cases hp : ch = 117
        · have e1 : (((l[k]'hlt).toNat : Int) == 117) = true := by rw [hc, hp]; rfl
          have p1 : ((l[k]'hlt).toNat : Int) = 117 := by rw [hc, hp]; rfl
          have HN := Lib.hid (show ∀ j, j < k + 1 → l[j]? = some 117 from fun j hj => by
            by_cases h : j = k
            · rw [h, HC.out, hp]
            · exact HK.out j (by omega))
          clear hc hp
          go_wp2_with fail
          go_round
          case rel => exact ⟨k + 1, by omega, by go_num, HN⟩
          case measure => simp [intOf]; omega
        · have e1 : (((l[k]'hlt).toNat : Int) == 117) = false := by rw [hc]; exact u8_ne hp
          have p1 : ¬ ((l[k]'hlt).toNat : Int) = 117 := by rw [hc]; have := u8_ne hp; rw [beq_eq_false_iff_ne] at this; exact this
          have HE := Lib.hid (show runC 117 l = k from runC_eq HK.out (by rw [HC.out]; intro h; injection h with h; exact hp h))
          clear hc hp
          go_wp2_with fail
          go_ret
          exact ⟨ret_int (by rw [HV.out, HE.out]), hb1⟩
      · have HE := Lib.hid (show runC 117 l = k from runC_eq HK.out (by rw [List.getElem?_eq_none (by first | omega | (rw [List.length_reverse]; omega))]; simp))
        go_wp2_with fail
        go_ret
        exact ⟨ret_int (by rw [HV.out, HE.out]), hb1⟩
  have c2 : (f == [114, 105, 115, 101]) = false := by rw [beq_eq_false_iff_ne]; exact h2
  by_cases h3 : f = [97, 114, 101, 97]
  · have HV := Lib.hid (show sttB f l = ars l l.length by rw [HSB.out, h3]; rfl)
    have c3 : (f == [97, 114, 101, 97]) = true := by rw [beq_iff_eq]; exact h3
    clear h3
    go_wp2_with fail
    refine (implAreaOf_any l _ HD.out).mono ?_
    rintro e w2 ⟨rfl, hb2⟩
    go_wp2_with fail
    go_ret
    exact ⟨ret_int (by rw [HV.out]), hs1 hb1 hb2⟩
  have c3 : (f == [97, 114, 101, 97]) = false := by rw [beq_eq_false_iff_ne]; exact h3
  by_cases h4 : f = [100, 101, 112, 116, 104]
  · have HV := Lib.hid (show sttB f l = dps l (l.length + 1) by rw [HSB.out, h4]; rfl)
    have c4 : (f == [100, 101, 112, 116, 104]) = true := by rw [beq_iff_eq]; exact h4
    clear h4
    go_wp2_with fail
    refine (implBracketsOf_any l _ HD.out).mono ?_
    rintro e w2 ⟨rfl, hb2⟩
    have hb12 := hs1 hb1 hb2
    go_wp2_with fail
    refine (implDepthOf_brk l _ HD.out).mono ?_
    rintro e w3 ⟨rfl, hb3⟩
    go_wp2_with fail
    go_ret
    exact ⟨ret_int (by rw [HV.out]), hs1 hb12 hb3⟩
  have c4 : (f == [100, 101, 112, 116, 104]) = false := by rw [beq_eq_false_iff_ne]; exact h4
  by_cases h5 : f = [108, 101, 97, 118, 101, 115]
  · have HV := Lib.hid (show sttB f l = (lvN l : Int) by rw [HSB.out, h5]; rfl)
    have c5 : (f == [108, 101, 97, 118, 101, 115]) = true := by rw [beq_iff_eq]; exact h5
    clear h5
    go_wp2_with fail
    refine (implPlaneOf_any l _ HD.out).mono ?_
    rintro e w2 ⟨A, n, c, hn, rfl, hown, hb2⟩
    have HR := Lib.hid hown.rd
    have HP2 := Lib.hid (show PlOk (plP l l.length) n by rw [hn]; exact HPO.out)
    have HL2 := Lib.hid (show lvP (plP l l.length) n = lvN l by rw [hn]; exact HLV.out)
    clear hn hown
    go_wp2_with fail
    refine (implLeavesOf_ok _ _ _ _ _ HR.out HP2.out).mono ?_
    rintro e w3 ⟨rfl, hb3⟩
    rw [HL2.out]
    go_wp2_with fail
    go_ret
    exact ⟨ret_int (by rw [HV.out]), hs1 (hs1 hb1 hb2) hb3⟩
  have c5 : (f == [108, 101, 97, 118, 101, 115]) = false := by rw [beq_eq_false_iff_ne]; exact h5
  by_cases h6 : f = [98, 108, 111, 99, 107, 115]
  · have HV := Lib.hid (show sttB f l = (pk l (l.length - 1) : Int) by rw [HSB.out, h6]; rfl)
    have c6 : (f == [98, 108, 111, 99, 107, 115]) = true := by rw [beq_iff_eq]; exact h6
    clear h6
    go_wp2_with fail
    refine (implPartitionOf_any l _ hl9).mono ?_
    rintro e w2 ⟨A, n, c, hn, rfl, hown, hb2⟩
    have HR := Lib.hid hown.rd
    have hn9 : n ≤ 1000000000 := by rw [hn]; exact parI_len9 h16
    clear hn hown
    go_wp2_with fail
    refine (implBlocksOf_any _ _ _ _ _ HR.out hn9).mono ?_
    rintro e w3 ⟨A3, n3, c3, vs, rfl, ho, hb3⟩
    have HN := Lib.hid (show (n3 : Int) = (pk l (l.length - 1) : Int) by have h1 := ho.n_eq; rw [h1, HBI.out])
    clear ho
    go_wp2_with fail
    go_ret
    exact ⟨ret_int (by rw [HV.out, ← HN.out]), hs1 (hs1 hb1 hb2) hb3⟩
  have c6 : (f == [98, 108, 111, 99, 107, 115]) = false := by rw [beq_eq_false_iff_ne]; exact h6
  by_cases h7 : f = [109, 97, 106, 111, 114]
  · have HV := Lib.hid (show sttB f l = (mjr l (l.length - 1) : Int) by rw [HSB.out, h7]; rfl)
    have c7 : (f == [109, 97, 106, 111, 114]) = true := by rw [beq_iff_eq]; exact h7
    clear h7
    go_wp2_with fail
    refine (implMajorOf_any l _ HD.out).mono ?_
    rintro e w2 ⟨rfl, hb2⟩
    go_wp2_with fail
    go_ret
    exact ⟨ret_int (by rw [HV.out]), hs1 hb1 hb2⟩
  have c7 : (f == [109, 97, 106, 111, 114]) = false := by rw [beq_eq_false_iff_ne]; exact h7
  by_cases h8 : f = [102, 97, 108, 108]
  · have HV := Lib.hid (show sttB f l = (runC 100 l.reverse : Int) by rw [HSB.out, h8]; rfl)
    have c8 : (f == [102, 97, 108, 108]) = true := by rw [beq_iff_eq]; exact h8
    clear h8
    go_wp2_with fail
    go_loop [12] (fun s => ∃ k : Nat, k ≤ l.length ∧ s = .int .i64 k ∧ Hid (∀ j, j < k → l.reverse[j]? = some 100)) (fun s => l.length - (intOf s).toNat)
    case atStart => exact ⟨0, Nat.zero_le _, rfl, Lib.hid (fun j hj => by omega)⟩
    case round =>
      obtain ⟨k, hk, rfl, HK⟩ := hrel
      by_cases hlt : k < l.length
      · have hlt' : l.length - 1 - k < l.length := by omega
        obtain ⟨ch, hc⟩ : ∃ c, l[l.length - 1 - k]'hlt' = c := ⟨_, rfl⟩
        have HC := Lib.hid (show l.reverse[k]? = some ch by rw [rev_at hlt, List.getElem?_eq_getElem hlt', hc])
        have i1 : (0 : Int) ≤ (l.length : Int) - 1 - (k : Int) := by omega
        have i2 : (l.length : Int) - 1 - (k : Int) < (l.length : Int) := by omega
        have i3 : ((l.length : Int) - 1 - (k : Int)).toNat = l.length - 1 - k := by omega
        by_cases hp : ch = 100
        · have e1 : (((l[l.length - 1 - k]'hlt').toNat : Int) == 100) = true := by rw [hc, hp]; rfl
          have p1 : ((l[l.length - 1 - k]'hlt').toNat : Int) = 100 := by rw [hc, hp]; rfl
          have HN := Lib.hid (show ∀ j, j < k + 1 → l.reverse[j]? = some 100 from fun j hj => by
            by_cases h : j = k
            · rw [h, HC.out, hp]
            · exact HK.out j (by omega))
          clear hc hp
          go_wp2_with fail
          go_round
          case rel => exact ⟨k + 1, by omega, by go_num, HN⟩
          case measure => simp [intOf]; omega
        · have e1 : (((l[l.length - 1 - k]'hlt').toNat : Int) == 100) = false := by rw [hc]; exact u8_ne hp
          have p1 : ¬ ((l[l.length - 1 - k]'hlt').toNat : Int) = 100 := by rw [hc]; have := u8_ne hp; rw [beq_eq_false_iff_ne] at this; exact this
          have HE := Lib.hid (show runC 100 l.reverse = k from runC_eq HK.out (by rw [HC.out]; intro h; injection h with h; exact hp h))
          clear hc hp
          go_wp2_with fail
          go_ret
          exact ⟨ret_int (by rw [HV.out, HE.out]), hb1⟩
      · have HE := Lib.hid (show runC 100 l.reverse = k from runC_eq HK.out (by rw [List.getElem?_eq_none (by first | omega | (rw [List.length_reverse]; omega))]; simp))
        go_wp2_with fail
        go_ret
        exact ⟨ret_int (by rw [HV.out, HE.out]), hb1⟩
  have c8 : (f == [102, 97, 108, 108]) = false := by rw [beq_eq_false_iff_ne]; exact h8
  have HV := Lib.hid (show sttB f l = -1 by rw [HSB.out]; unfold stN; simp only [h0, h1, h2, h3, h4, h5, h6, h7, h8, if_neg, not_false_eq_true])
  clear h0 h1 h2 h3 h4 h5 h6 h7 h8
  go_wp2_with fail
  go_ret
  exact ⟨ret_int (by rw [HV.out]), hb1⟩

end Go.Proofs.Yteiffomekjadgaa
