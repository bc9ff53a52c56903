/- Merged: FmtO PoP. -/
import Derived.Test.YtghfhkbncjgaeaaGreatMg18
import Derived.Test.YtghfhkbncjgaeaaGreatMg20
import Derived.Test.YtghfhkbncjgaeaaGreatMg23
import Derived.Test.YtghfhkbncjgaeaaGreatMg13
import Derived.Test.YtghfhkbncjgaeaaGreatMg9
import Derived.Test.YtghfhkbncjgaeaaGreatMg15
import Derived.Test.YtghfhkbncjgaeaaGreatMg12

namespace Go.Proofs.YtghfhkbncjgaeaaGreat
set_option linter.unusedVariables false
open Go.RowKit

theorem tsM_len (m : List Int) : ∀ k, (tsM m k).length ≤ k
  | 0 => Nat.le_refl _
  | k + 1 => by
    have := tsM_len m k
    rw [tsM]
    split
    · simp; omega
    · omega
theorem getD_bd {m : List Int} {B : Int} (h : ∀ x ∈ m, 0 ≤ x ∧ x ≤ B) (hB : 0 ≤ B) (k : Nat) : 0 ≤ m.getD k 0 ∧ m.getD k 0 ≤ B := by
  rw [List.getD_eq_getElem?_getD]
  rcases hx : m[k]? with _ | x
  · simpa using hB
  · exact h x (List.mem_of_getElem? hx)
theorem tsM_text {m : List Int} (h : ∀ x ∈ m, 0 ≤ x ∧ x ≤ 100) : ∀ k, k ≤ 100 → ∀ t ∈ tsM m k, t.length ≤ 30
  | 0, _, t, ht => by cases ht
  | k + 1, hk, t, ht => by
    rw [tsM] at ht
    split at ht
    · rw [List.mem_append] at ht
      rcases ht with ht | ht
      · exact tsM_text h k (by omega) t ht
      · simp only [List.mem_cons, List.mem_nil_iff, or_false] at ht
        subst ht
        have h1 := fmtI_len (x := (k : Int)) (by omega)
        have h2 := getD_bd h (by omega) k
        have h3 := fmtI_len (x := m.getD k 0) (by omega)
        simp only [List.length_append, List.length_cons, List.length_nil]
        omega
    · exact tsM_text h k (by omega) t ht
theorem isMat_mem {m : List Int} (h : isMat m = true) : ∀ x ∈ m, 0 ≤ x ∧ x ≤ 100 := by
  intro x hx
  obtain ⟨i, hi, rfl⟩ := List.mem_iff_getElem.1 hx
  have h1 := isMat_at h hi
  have h2 := isMat_len h
  rw [List.getD_eq_getElem?_getD, List.getElem?_eq_getElem hi] at h1
  simp at h1
  omega

set_option maxHeartbeats 2000000 in
theorem implFormatMatching_any (A : Option Addr) (n c : Nat) (m : List Int) (w : World) (h : Rd w A n (iv m)) (hm : isMat m = true) (h0 : 0 < n) :
    Calls Tryz.prog 63 #[.slice A n c] w fun e w' => e = .returned (.string (bs (fmtM m))) ∧ Below w.heap.size w w' := by
  have hl := (show m.length = n by have := h.len; rw [iv_len] at this; exact this)
  have h16 : n ≤ 16 := by have := isMat_len hm; omega
  have HR := Lib.hid h
  have HM := Lib.hid hm
  have HB := Lib.hid (isMat_mem hm)
  have HL := Lib.hid hl
  have n0 : ((n : Int) == 0) = false := by rw [beq_eq_false_iff_ne]; omega
  have n0' : ¬ n = 0 := by omega
  clear h hm hl
  go_enter Tryz.func63, Tryz.ntmps63
  go_wp2_with fail
  refine (implIsMatching_any _ _ _ _ _ HR.out (by omega)).mono ?_
  rintro e w' ⟨rfl, rfl⟩
  rw [HM.out]
  go_wp2_with fail
  go_loopw [3, 4, 5, 15] (fun s _ _ i wr => ∃ (k q : Nat) (A1 : Option Addr) (c1 : Nat), k ≤ n ∧ i = .int .i64 k ∧ s = .slice A1 q c1 ∧ Hid (q = (tsM m k).length) ∧ Own wr 9 w.heap.size A1 q c1 (sv (tsM m k)) ∧ Below w.heap.size w wr) (fun _ _ _ i _ => n - (intOf i).toNat)
  case atStart => exact ⟨0, 0, _, _, Nat.zero_le _, rfl, rfl, Lib.hid rfl, own_emptyS w, (Below.refl _ _).alloc (Nat.le_refl _) _⟩
  case round =>
    obtain ⟨k, q, A1, c1, hk, rfl, rfl, HQ, ho, hb⟩ := hrel
    have O := Lib.hid ho
    have hs := hb.size
    have hq : q ≤ 16 := by have h1 := tsM_len m k; have := HQ.out; omega
    clear ho
    by_cases hlt : k < n
    · obtain ⟨b, off, x, rfl, hx, hc⟩ := (HR.out.below hb).ati hlt
      have hxd := getD_of' hx
      have hx2 := HB.out x (List.mem_of_getElem? hx)
      clear hx
      by_cases hkx : (k : Int) < x
      · have HS := Lib.hid (show tsM m (k + 1) = tsM m k ++ [fmtI k ++ [45] ++ fmtI x] by rw [tsM, hxd, if_pos hkx])
        have hf1 := fmtI_len (x := (k : Int)) (by omega)
        have hf2 := fmtI_len (x := x) (by omega)
        obtain ⟨t1, ht1⟩ : ∃ t, t = fmtI k := ⟨_, rfl⟩
        obtain ⟨t2, ht2⟩ : ∃ t, t = fmtI x := ⟨_, rfl⟩
        rw [← ht1] at hf1
        rw [← ht2] at hf2
        have HT1 := Lib.hid ht1
        have HT2 := Lib.hid ht2
        have z1 : (bs t1).size ≤ 12 := hf1
        have z2 : (bs t2).size ≤ 12 := hf2
        have z3 : (bs (t1 ++ [45])).size ≤ 13 := by rw [size_bs]; simp; omega
        clear hxd ht1 ht2
        go_wp2_with fail
        refine (implFormatInt_any _ (by omega) _).mono ?_
        rintro e w1 ⟨rfl, hb1⟩
        rw [← HT1.out]
        have hs1 := hb1.size
        go_wp2_with fail
        refine (implFormatInt_any _ (by omega) _).mono ?_
        rintro e w2 ⟨rfl, hb2⟩
        rw [← HT2.out]
        have hs2 := hb2.size
        have hb3 := hb1.trans (hb2.mono hs1)
        have O2 := Lib.hid (O.out.below hb3)
        have hb4 := hb.trans (hb3.mono hs)
        clear hb1 hb2
        go_wp2_with (at_builtin; refine appS _ rfl _ _ rfl w.heap.size A1 q c1 _ rfl (O2.out.alloc _) w2.heap.size (bs (t1 ++ [45] ++ t2)) rfl (by simp [bs_lit]) (by omega) (by omega) ?_; intro A' c' w3 hown' hg' hb')
        have O3 := Lib.hid hown'
        have hb5 := (hb4.alloc (by omega) _).trans hb'
        clear hown' hg' hb'
        go_wp2_with fail
        go_roundw
        case rel => exact ⟨k + 1, q + 1, A', c', by omega, by go_num, rfl, Lib.hid (by rw [HS.out, List.length_append, ← HQ.out]; rfl), by rw [HS.out, sv_snoc, ← HT1.out, ← HT2.out]; exact O3.out, hb5⟩
        case measure => simp [intOf]; omega
      · have HS := Lib.hid (show tsM m (k + 1) = tsM m k by rw [tsM, hxd, if_neg hkx])
        clear hxd
        go_wp2_with fail
        go_roundw
        case rel => exact ⟨k + 1, q, _, c1, by omega, by go_num, rfl, Lib.hid (by rw [HS.out]; exact HQ.out), by rw [HS.out]; exact O.out, hb⟩
        case measure => simp [intOf]; omega
    · have HK := Lib.hid (show fmtM m = gluTo [32] (tsM m k) q by rw [HQ.out, fmtM, HL.out, show n = k by omega])
      have HT := Lib.hid (tsM_text HB.out k (by omega))
      go_wp2_with fail
      refine (glued_any _ _ _ [32] (tsM m k) 30 _ O.out.rd HT.out (by simp) (by omega) (by omega)).mono ?_
      rintro e w1 ⟨rfl, rfl⟩
      go_wp2_with fail
      go_ret
      exact ⟨ret_str (by rw [HK.out]), hb⟩

theorem O2.otherN {w w' : World} {e : TypeId} {B : Nat} {A : Option Addr} {n c : Nat} {vs : List Value} {lo : Nat} {A2 : Option Addr} {n2 c2 : Nat} {vs2 : List Value} {xss : List (List Int)} (h : Own w e B A n c vs) (h2 : O2 w lo A2 n2 c2 vs2 xss)
    (h1 : e ≠ 28) (h1' : e ≠ 3) (hg : w.grownBy w' (Value.ownBlock (.slice A n c))) : O2 w' lo A2 n2 c2 vs2 xss where
  outer := Own.otherN h h2.outer h1 hg
  len := h2.len
  row j xs hj := by
    obtain ⟨Aj, cj, hv, hr⟩ := h2.row j xs hj
    exact ⟨Aj, cj, hv, Own.otherN h hr h1' hg⟩
  apart := h2.apart
theorem rowT_len {r : List Int} (h : ∀ x ∈ r, 0 ≤ x ∧ x ≤ 100) : ∀ k, k ≤ 100 → (rowT r k).length ≤ 12 * k
  | 0, _ => Nat.le_refl _
  | k + 1, hk => by
    have h1 := rowT_len h k (by omega)
    have h2 := getD_bd h (by omega) k
    have h3 := fmtI_len (x := r.getD k 0 + 1) (by omega)
    rw [rowT, List.length_append]
    omega
theorem tsP_len (bs : List (List Int)) : ∀ k, (tsP bs k).length = k
  | 0 => rfl
  | k + 1 => by rw [tsP, List.length_append, tsP_len bs k]; rfl
theorem tsP_text {bs : List (List Int)} (h : ∀ r ∈ bs, r.length ≤ 8 ∧ ∀ x ∈ r, 0 ≤ x ∧ x ≤ 100) : ∀ k, ∀ t ∈ tsP bs k, t.length ≤ 100
  | 0, t, ht => by cases ht
  | k + 1, t, ht => by
    rw [tsP, List.mem_append] at ht
    rcases ht with ht | ht
    · exact tsP_text h k t ht
    · simp only [List.mem_cons, List.mem_nil_iff, or_false] at ht
      subst ht
      rw [List.getD_eq_getElem?_getD]
      rcases hr : bs[k]? with _ | r
      · simp [rowT]
      · obtain ⟨h1, h2⟩ := h r (List.mem_of_getElem? hr)
        have := rowT_len h2 r.length (by omega)
        simp only [Option.getD_some]
        omega
theorem blk_rows {p : List Int} (h : isPar p = true) : ∀ r ∈ blocksB p, r.length ≤ 8 ∧ ∀ x ∈ r, 0 ≤ x ∧ x ≤ 100 := by
  have h8 := (isPar_iff h).1
  refine fun r hr => ⟨?_, fun x hx => ?_⟩
  · have hb : blocksB p = blk p p.length := by simp [blocksB, h]
    rw [hb] at hr
    have := blk_row_len p.length r hr
    omega
  · obtain ⟨j, rfl, hj⟩ := blocks_el h hr hx
    omega

set_option maxRecDepth 20000 in
set_option maxHeartbeats 2000000 in
theorem implFormatPartition_any (A : Option Addr) (n c : Nat) (p : List Int) (w : World) (h : Rd w A n (iv p)) (hp : isPar p = true) :
    Calls Tryz.prog 66 #[.slice A n c] w fun e w' => e = .returned (.string (bs (fmtP p))) ∧ Below w.heap.size w w' := by
  have hl := (show p.length = n by have := h.len; rw [iv_len] at this; exact this)
  have h8 : n ≤ 8 := by have := (isPar_iff hp).1; omega
  have HR := Lib.hid h
  have HP := Lib.hid hp
  obtain ⟨BS, hBS⟩ : ∃ B, B = blocksB p := ⟨_, rfl⟩
  have HB := Lib.hid (blk_rows hp)
  have HF := Lib.hid (show fmtP p = gluTo [124] (tsP (blocksB p) (blocksB p).length) (blocksB p).length from rfl)
  have HC := Lib.hid (fun (w : World) (h : Rd w A n (iv p)) => implBlocksOf_any A n c p w h (by omega))
  have hB8 : BS.length ≤ 8 := by
    rw [hBS]
    have hb : blocksB p = blk p p.length := by simp [blocksB, hp]
    have h1 := blk_len (xs := p) p.length (Nat.le_refl _)
    have h2 := nx_bd p p.length
    rw [hb]; omega
  rw [← hBS] at HB HF HC
  clear h hp hl hBS
  go_enter Tryz.func66, Tryz.ntmps66
  go_wp2_with fail
  refine (HC.out _ (HR.out.alloc _)).mono ?_
  rintro e w1 ⟨A0, m, c0, vs, rfl, ho0, hb0⟩
  have hm := ho0.n_eq
  have HM := Lib.hid hm
  have hm8 : m ≤ 8 := by omega
  have HO0 := Lib.hid (ho0.mono (show w.heap.size ≤ (w.alloc (.cells #[] 9)).heap.size by simp))
  have hbw : Below w.heap.size w w1 := ((Below.refl _ _).alloc (Nat.le_refl _) (.cells #[] 9)).trans (hb0.mono (by simp))
  have HS0 := Lib.hid ((own_emptyS w).below hb0)
  clear ho0 hm hb0
  go_wp2_with fail
  go_loopw [3, 5, 6, 8, 13] (fun s _ _ _ i wr => ∃ (k : Nat) (A1 : Option Addr) (c1 : Nat), k ≤ m ∧ i = .int .i64 k ∧ s = .slice A1 k c1 ∧ Own wr 9 w.heap.size A1 k c1 (sv (tsP BS k)) ∧ O2 wr w.heap.size A0 m c0 vs BS ∧ Below w.heap.size w wr) (fun _ _ _ _ i _ => m - (intOf i).toNat)
  case atStart => exact ⟨0, _, _, Nat.zero_le _, rfl, rfl, HS0.out, HO0.out, hbw⟩
  case round =>
    obtain ⟨k, A1, c1, hk, rfl, rfl, hs, ho, hb⟩ := hrel
    obtain ⟨w2, rfl⟩ : ∃ W, W = wr := ⟨wr, rfl⟩
    have S := Lib.hid hs
    have O := Lib.hid ho
    have hbs := hb.size
    clear hs ho
    by_cases hlt : k < m
    · obtain ⟨r, hr⟩ : ∃ r, BS[k]? = some r := ⟨_, List.getElem?_eq_getElem (by have := HM.out; omega)⟩
      obtain ⟨g0, Aj, cj, rfl, hg0, hg1, hvj, hcj, hfj, hoj⟩ := O.out.head hr
      obtain ⟨hr8, hrx⟩ := HB.out r (List.mem_of_getElem? hr)
      have HRX := Lib.hid hrx
      have HRL := Lib.hid (rowT_len hrx)
      have HS := Lib.hid (show tsP BS (k + 1) = tsP BS k ++ [rowT r r.length] by rw [tsP, List.getD_eq_getElem?_getD, hr]; rfl)
      have J := Lib.hid hoj.rd
      clear hvj hoj hr hrx
      go_wp2_with fail
      go_loopw [6, 8, 19] (fun s _ i wr => ∃ (j : Nat), j ≤ r.length ∧ i = .int .i64 j ∧ s = .string (bs (rowT r j)) ∧ Below w2.heap.size w2 wr) (fun _ _ i _ => r.length - (intOf i).toNat)
      case atStart => exact ⟨0, Nat.zero_le _, rfl, rfl, Below.refl _ _⟩
      case round =>
        obtain ⟨j, hj, rfl, rfl, hbz⟩ := hrel
        have hsz := hbz.size
        have z1 : (rowT r j).length ≤ 100 := by have := HRL.out j (by omega); omega
        have z2 : (bs (rowT r j)).size ≤ 100 := z1
        by_cases hlj : j < r.length
        · obtain ⟨b, off, x, rfl, hx, hc⟩ := (J.out.below hbz).ati hlj
          have hx2 := HRX.out x (List.mem_of_getElem? hx)
          have HT := Lib.hid (show rowT r (j + 1) = rowT r j ++ fmtI (x + 1) by rw [rowT, getD_of' hx])
          have hf1 := fmtI_len (x := x + 1) (by omega)
          obtain ⟨t1, ht1⟩ : ∃ t, t = fmtI (x + 1) := ⟨_, rfl⟩
          rw [← ht1] at hf1
          have HT1 := Lib.hid ht1
          have z3 : (bs t1).size ≤ 12 := hf1
          clear hx ht1
          go_wp2_with fail
          refine (implFormatInt_any _ (by omega) _).mono ?_
          rintro e w3 ⟨rfl, hb3⟩
          rw [← HT1.out]
          have hb4 := hbz.trans (hb3.mono hsz)
          clear hb3
          go_wp2_with fail
          go_roundw
          case rel => exact ⟨j + 1, by omega, by go_num, by rw [HT.out, ← HT1.out], hb4⟩
          case measure => simp [intOf]; omega
        · have HJ := Lib.hid (show rowT r j = rowT r r.length by rw [show j = r.length by omega])
          have S2 := Lib.hid (S.out.below hbz)
          go_wp2_with (at_builtin; refine appS _ rfl _ _ rfl w.heap.size A1 k c1 _ rfl (S2.out.alloc _) wr.heap.size (bs (rowT r j)) rfl (by simp) (by omega) (by omega) ?_; intro A' c' w3 hown' hg' hb')
          have S3 := Lib.hid hown'
          have O3 := Lib.hid (O2.otherN (S2.out.alloc _) ((O.out.below hbz).alloc _) (by decide) (by decide) hg')
          have hb5 := ((hb.trans (hbz.mono hbs)).alloc (by omega) _).trans hb'
          clear hown' hg' hb'
          go_wp2_with fail
          go_roundw
          case rel => exact ⟨k + 1, A', c', by omega, by go_num, rfl, by rw [HS.out, sv_snoc, ← HJ.out]; exact S3.out, O3.out, hb5⟩
          case measure => simp [intOf]; omega
    · have HK := Lib.hid (show fmtP p = gluTo [124] (tsP BS k) k by rw [HF.out, ← HM.out, show m = k by omega])
      have HT := Lib.hid (tsP_text HB.out k)
      go_wp2_with fail
      refine (glued_any _ _ _ [124] (tsP BS k) 100 _ S.out.rd HT.out (by simp) (by omega) (by omega)).mono ?_
      rintro e w1 ⟨rfl, rfl⟩
      go_wp2_with fail
      go_ret
      exact ⟨ret_str (by rw [HK.out]), hb⟩

end Go.Proofs.YtghfhkbncjgaeaaGreat

namespace Go.Proofs.YtghfhkbncjgaeaaGreat
set_option linter.unusedVariables false
open Go.RowKit

theorem rwP_len {p : List Int} (h : isPar p = true) (i : Nat) : (rwP p i).length ≤ 8 := by
  unfold rwP
  rw [List.getD_eq_getElem?_getD]
  rcases hr : (blocksB p)[(p.getD i 0).toNat]? with _ | r
  · simp
  · exact (blk_rows h r (List.mem_of_getElem? hr)).1
theorem pthP_len {p : List Int} (h : isPar p = true) : ∀ i, (pthP p i).length ≤ 9 * i
  | 0 => Nat.le_refl _
  | i + 1 => by
    have h1 := pthP_len h i
    have h2 := rwP_len h i
    rw [pthP, List.length_append, List.length_append]
    have h3 : (if (rwP p i).getD ((rwP p i).length - 1) 0 = (i : Int) then List.replicate (rwP p i).length (100 : UInt8) else []).length ≤ 8 := by
      split
      · simpa using h2
      · simp
    have h4 : ([117] : List UInt8).length = 1 := rfl
    omega
theorem rwP_at {p : List Int} (h : isPar p = true) {i : Nat} {x : Int} (hx : p[i]? = some x) : ∃ X : Nat, x = (X : Int) ∧ (blocksB p)[X]? = some (rwP p i) ∧ 0 < (rwP p i).length := by
  obtain ⟨hi, hxe⟩ := List.getElem?_eq_some_iff.1 hx
  have hxd := getD_of' hx
  have h1 := lt_nx h (show i < p.length from hi) (Nat.le_refl _)
  rw [hxd] at h1
  obtain ⟨X, rfl⟩ := Int.eq_ofNat_of_zero_le h1.1
  have hb : blocksB p = blk p p.length := by simp [blocksB, h]
  have h2 := blk_len (xs := p) p.length (Nat.le_refl _)
  have hXl : X < (blocksB p).length := by rw [hb]; omega
  have hr : (blocksB p)[X]? = some (rwP p i) := by
    unfold rwP
    rw [hxd, Int.toNat_natCast, List.getD_eq_getElem?_getD, List.getElem?_eq_getElem hXl]; rfl
  refine ⟨X, rfl, hr, ?_⟩
  have h3 := blocks_row h hr
  have h4 : (i : Int) ∈ rwP p i := by
    rw [h3, mem_rowE]
    exact ⟨i, hi, hxd, rfl⟩
  exact List.length_pos_of_mem h4

set_option maxRecDepth 20000 in
set_option maxHeartbeats 2000000 in
theorem specPathOfPartition_any (A : Option Addr) (n c : Nat) (p : List Int) (w : World) (h : Rd w A n (iv p)) (hp : nonc p = true) :
    Calls Tryz.prog 77 #[.slice A n c] w fun e w' => e = .returned (.tuple #[.string (bs (pthP p n)), .bool true]) ∧ Below w.heap.size w w' := by
  have hP := nonc_par hp
  have hl := (show p.length = n by have := h.len; rw [iv_len] at this; exact this)
  have h8 : n ≤ 8 := by have := (isPar_iff hP).1; omega
  have HR := Lib.hid h
  have HN := Lib.hid hp
  have HL := Lib.hid (pthP_len hP)
  have HA := Lib.hid (fun (i : Nat) (x : Int) (hx : p[i]? = some x) => rwP_at hP hx)
  have HB := Lib.hid (fun (i : Nat) => rwP_len hP i)
  clear h hp hl hP
  go_enter Tryz.func77, Tryz.ntmps77
  go_wp2_with fail
  refine (specIsNoncrossing_any _ _ _ _ _ HR.out (by omega)).mono ?_
  rintro e w1 ⟨rfl, d, hw1⟩
  rw [HN.out]
  have hb1 : Below w.heap.size w w1 := by rw [hw1]; exact below_drewN' (Below.refl _ _) d
  have hs1 := hb1.size
  have HR1 := Lib.hid (HR.out.below hb1)
  clear hw1
  go_wp2_with fail
  refine (specBlocksOf_any _ _ _ _ _ HR1.out (by omega)).mono ?_
  rintro e w2 ⟨A0, m, c0, vs, rfl, ho0, hb2⟩
  have HO := Lib.hid ho0
  have hbw := hb1.trans (hb2.mono hs1)
  have HR2 := Lib.hid (HR1.out.below hb2)
  have HM := Lib.hid ho0.n_eq
  clear ho0 hb1 hb2
  go_wp2_with fail
  go_loop [4, 6, 7, 8] (fun s i _ _ => ∃ k : Nat, k ≤ n ∧ i = .int .i64 k ∧ s = .string (bs (pthP p k))) (fun _ i _ _ => n - (intOf i).toNat)
  case atStart => exact ⟨0, Nat.zero_le _, rfl, rfl⟩
  case round =>
    obtain ⟨k, hk, rfl, rfl⟩ := hrel
    have z1 : (pthP p k).length ≤ 72 := by have := HL.out k; omega
    have z2 : (bs (pthP p k)).size ≤ 72 := z1
    have z3 : (pthP p k ++ [117]).length ≤ 73 := by rw [List.length_append]; simp; omega
    have z4 : (bs (pthP p k ++ [117])).size ≤ 73 := z3
    by_cases hlt : k < n
    · obtain ⟨b, off, x, rfl, hx, hc⟩ := HR2.out.ati hlt
      obtain ⟨X, rfl, hrow, hpos⟩ := HA.out k x hx
      obtain ⟨g0, Aj, cj, rfl, hg0, hg1, hvj, hcj, hfj, hoj⟩ := HO.out.head hrow
      have hXm : X < m := by have := (List.getElem?_eq_some_iff.1 hrow).1; have := HM.out; omega
      have hr8 := HB.out k
      obtain ⟨r, hr⟩ : ∃ r, r = rwP p k := ⟨_, rfl⟩
      have HST := Lib.hid (show pthP p (k + 1) = (pthP p k ++ [117]) ++ (if r.getD (r.length - 1) 0 = (k : Int) then List.replicate r.length 100 else []) by rw [pthP, ← hr])
      rw [← hr] at hcj hoj hpos hr8
      obtain ⟨b2, off2, y, rfl, hy, hcy⟩ := hoj.rd.ati (show r.length - 1 < r.length by omega)
      have hyd := getD_of' hy
      have i1 : (0 : Int) ≤ (r.length : Int) - 1 := by omega
      have i2 : (r.length : Int) - 1 < (r.length : Int) := by omega
      have i3 : ((r.length : Int) - 1).toNat = r.length - 1 := by omega
      have i4 : (X : Int) < (m : Int) := by omega
      have i5 : 1 ≤ r.length := hpos
      rw [hyd] at HST
      clear hx hrow hvj hoj hr hy hyd
      by_cases hyk : y = (k : Int)
      · have HS2 := Lib.hid (show pthP p (k + 1) = (pthP p k ++ [117]) ++ List.replicate r.length 100 by rw [HST.out, if_pos hyk])
        have e1 : (y == (k : Int)) = true := by simp [hyk]
        clear HST hyk
        go_wp2_with fail
        go_loop [4, 8] (fun s i => ∃ j : Nat, j ≤ r.length ∧ i = .int .i64 j ∧ s = .string (bs ((pthP p k ++ [117]) ++ List.replicate j 100))) (fun _ i => r.length - (intOf i).toNat)
        case atStart => exact ⟨0, Nat.zero_le _, rfl, by rw [bs_lit, bs_append]; simp⟩
        case round =>
          obtain ⟨j, hj, rfl, rfl⟩ := hrel
          have z5 : (pthP p k ++ [117] ++ List.replicate j 100).length ≤ 100 := by rw [List.length_append, List.length_replicate]; omega
          have z6 : (bs (pthP p k ++ [117] ++ List.replicate j 100)).size ≤ 100 := z5
          by_cases hlj : j < r.length
          · obtain ⟨T, hT⟩ : ∃ T, T = pthP p k ++ [117] ++ List.replicate j 100 := ⟨_, rfl⟩
            have HT := Lib.hid (show pthP p k ++ [117] ++ List.replicate (j + 1) 100 = T ++ [100] by rw [hT, List.replicate_succ']; simp)
            rw [← hT] at z5 z6 ⊢
            clear hT
            go_wp2_with fail
            go_round
            case rel => exact ⟨j + 1, by omega, by go_num, by rw [HT.out, bs_lit, bs_append]⟩
            case measure => simp [intOf]; omega
          · have HJ := Lib.hid (show pthP p (k + 1) = pthP p k ++ [117] ++ List.replicate j 100 by rw [HS2.out, show j = r.length by omega])
            obtain ⟨T, hT⟩ : ∃ T, T = pthP p k ++ [117] ++ List.replicate j 100 := ⟨_, rfl⟩
            rw [← hT] at HJ z5 z6 ⊢
            clear hT
            go_wp2_with fail
            go_round
            case rel => exact ⟨k + 1, by omega, by go_num, by rw [HJ.out]⟩
            case measure => simp [intOf]; omega
      · have HS2 := Lib.hid (show pthP p (k + 1) = pthP p k ++ [117] by rw [HST.out, if_neg hyk, List.append_nil])
        have e1 : (y == (k : Int)) = false := by simp [hyk]
        clear HST hyk
        go_wp2_with fail
        go_round
        case rel => exact ⟨k + 1, by omega, by go_num, by rw [HS2.out, bs_lit, bs_append]⟩
        case measure => simp [intOf]; omega
    · have HK := Lib.hid (show pthP p n = pthP p k by rw [show n = k by omega])
      go_wp2_with fail
      go_ret2
      rw [HK.out]
      exact ⟨rfl, hbw⟩

end Go.Proofs.YtghfhkbncjgaeaaGreat
