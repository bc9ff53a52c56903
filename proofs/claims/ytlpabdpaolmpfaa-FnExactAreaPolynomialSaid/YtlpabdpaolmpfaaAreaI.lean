/- AreaOf and AreaPolynomial of the program. -/
import Derived.Test.YtlpabdpaolmpfaaAreaL
import Derived.Test.YtlpabdpaolmpfaaPathsI
import Derived.Test.YtlpabdpaolmpfaaDyck
namespace Go.Proofs.Ytlpabdpaolmpfaa
set_option linter.unusedVariables false
open Go.RowKit

theorem hts_atA {l : List UInt8} {k : Nat} (h : k ≤ l.length) : (hts l)[k]? = some (hat l k) := by
  unfold hts htsTo
  rw [List.getElem?_map, List.getElem?_range (by omega)]; rfl
theorem Own.headedA {w : World} {e : TypeId} {B : Nat} {A : Option Addr} {n c : Nat} {vs : List Value} (h : Own w e B A n c vs) : ∀ g, Value.ownBlock (.slice A n c) = some g → A = some ⟨g, 0, none⟩ := by
  intro g hg
  rcases h.form with ⟨rfl, _⟩ | ⟨g0, rfl, _⟩
  · cases hg
  · have : g0 = g := by simpa [Value.ownBlock] using hg
    rw [this]
theorem Own.otherA {w w' : World} {e e' : TypeId} {B B' : Nat} {A A' : Option Addr} {n c n' c' : Nat} {vs vs' : List Value} (h : Own w e B A n c vs) (h' : Own w e' B' A' n' c' vs') (hne : e ≠ e') (hg : w.grownBy w' (Value.ownBlock (.slice A n c))) : Own w' e' B' A' n' c' vs' :=
  h'.grown hg (fun g hA he => by
    have h1 := h.headedA g he
    subst h1
    subst hA
    exact own_ne h h' hne rfl)
theorem pad_snoc {l : List Int} {e : Nat} (h : l.length ≤ e) : padTo l (e + 1) = padTo l e ++ [0] := by
  unfold padTo
  rw [show e + 1 - l.length = (e - l.length) + 1 by omega, List.replicate_succ', List.append_assoc]
theorem pad_self {l : List Int} {e : Nat} (h : e ≤ l.length) : padTo l e = l := by
  unfold padTo
  rw [show e - l.length = 0 by omega]; simp
theorem cntA_bd (ws : List (List UInt8)) (k : Nat) : 0 ≤ cntA ws k ∧ cntA ws k ≤ ws.length := by
  induction ws with
  | nil => simp [cntA]
  | cons w ws ih =>
    show 0 ≤ (cntA ws k + if k = arN w then 1 else 0) ∧ (cntA ws k + if k = arN w then 1 else 0) ≤ ((ws.length + 1 : Nat) : Int)
    split <;> omega
theorem hist_bd (ws : List (List UInt8)) (j k : Nat) : 0 ≤ (histA ws j).getD k 0 ∧ (histA ws j).getD k 0 ≤ ws.length := by
  have h1 := cntA_bd (ws.take j) k
  have h2 : (histA ws j).getD k 0 = cntA (ws.take j) k := by
    unfold histA
    rw [fold_get]; simp
  rw [h2]
  rw [List.length_take] at h1
  omega
theorem incA_set {l : List Int} {k : Nat} {x : Int} (h : (padTo l (k + 1))[k]? = some x) : (padTo l (k + 1)).set k (x + 1) = incA l k := by
  unfold incA
  rw [List.getD_eq_getElem?_getD, h]; rfl
theorem hist_len {ws : List (List UInt8)} (h : ∀ w ∈ ws, arN w ≤ 256) (j : Nat) : (histA ws j).length ≤ 257 := by
  unfold histA
  rw [fold_len]
  have : ∀ L : List (List UInt8), (∀ w ∈ L, arN w ≤ 256) → lenA L ≤ 257 := by
    intro L
    induction L with
    | nil => intro _; simp [lenA]
    | cons w L ih =>
      intro hL
      show max (lenA L) (arN w + 1) ≤ 257
      have h1 := ih fun x hx => hL x (List.mem_cons_of_mem _ hx)
      have h2 := hL w (List.mem_cons_self ..)
      omega
  have h3 := this (ws.take j) fun w hw => h w (List.mem_of_mem_take hw)
  simp; omega

def lenV : Value → Nat
  | .slice _ n _ => n
  | _ => 0
set_option maxHeartbeats 1000000 in
theorem implAreaOf_good (l : List UInt8) (w : World) (hd : dyck l = true) :
    Calls Try.prog 55 #[.string (bs l)] w fun e w' => e = .returned (.int .i64 (arTo l l.length)) ∧ Below w.heap.size w w' := by
  obtain ⟨h16, hok, _⟩ := dyck_pathB hd
  have HD := Lib.hid hd
  have HO := Lib.hid hok
  have HF := Lib.hid (show htsD l = hts l by unfold htsD; rw [if_pos hd])
  have hl9 : l.length ≤ 1000000000 := by omega
  clear hd hok
  go_enter Try.func55, Try.ntmps55
  go_wp2_with fail
  refine (implIsDyck_any l _ hl9).mono ?_
  rintro e w1 ⟨rfl, hb1⟩
  rw [HD.out]
  go_wp2_with fail
  refine (implHeightsOf_any l _ hl9).mono ?_
  rintro e w2 ⟨A, m, c, hm, rfl, ho, hb2⟩
  rw [HF.out] at hm ho
  rw [hts_len] at hm
  have HR := Lib.hid ho.rd
  have hb3 := hb1.trans (hb2.mono hb1.size)
  have hm2 : l.length < m := by omega
  have hm3 : m ≤ 17 := by omega
  clear ho hb1 hb2 hm
  go_wp2_with fail
  go_loop [3, 5] (fun t i => ∃ k : Nat, k ≤ l.length ∧ i = .int .i64 k ∧ t = .int .i64 (arTo l k)) (fun _ i => l.length - (intOf i).toNat)
  case atStart => exact ⟨0, Nat.zero_le _, rfl, rfl⟩
  case round =>
    obtain ⟨k, hk, rfl, rfl⟩ := hrel
    have hab := arTo_bd HO.out h16 k hk
    obtain ⟨V, hV⟩ : ∃ V, V = arTo l k := ⟨_, rfl⟩
    rw [← hV] at hab ⊢
    have HV := Lib.hid hV
    clear hV
    by_cases hlt : k < l.length
    · obtain ⟨ch, hc⟩ : ∃ c, l[k] = c := ⟨_, rfl⟩
      have HC := Lib.hid (show l[k]? = some ch by rw [List.getElem?_eq_getElem hlt, hc])
      obtain ⟨bl, off, y, rfl, hy, hcy⟩ := HR.out.ati (show k < m by omega)
      rw [hts_atA (by omega)] at hy
      injection hy with hy
      have hyb := hat_bd l k
      rw [hy] at hyb
      have HY := Lib.hid hy
      have k0 : (0 : Int) ≤ (k : Int) := by omega
      have k1 : (k : Int) < (m : Int) := by omega
      clear hy
      by_cases hu : ch = 117
      · subst hu
        have e1 : (((l[k]'hlt).toNat : Int) == 117) = true := by rw [hc]; rfl
        have HS := Lib.hid (show arTo l (k + 1) = V + y by rw [arTo_u HC.out, HV.out, HY.out])
        clear hc
        go_wp2_with fail
        go_round
        case rel => exact ⟨k + 1, by omega, by go_num, by rw [HS.out]⟩
        case measure => simp [intOf]; omega
      · have e1 : (((l[k]'hlt).toNat : Int) == 117) = false := by rw [hc]; exact u8_ne hu
        have HS := Lib.hid (show arTo l (k + 1) = V by rw [arTo_d HC.out hu, HV.out])
        clear hc hu
        go_wp2_with fail
        go_round
        case rel => exact ⟨k + 1, by omega, by go_num, by rw [HS.out]⟩
        case measure => simp [intOf]; omega
    · have hkl : k = l.length := by omega
      have HE := Lib.hid (show arTo l l.length = V by rw [← hkl]; exact HV.out.symm)
      clear hkl
      go_wp2_with fail
      go_ret
      exact ⟨ret_int (by rw [HE.out]), hb3⟩

def arP (n : Int) : List Int × Bool := if inB n 0 8 then ((tabA n.toNat).getD n.toNat [], true) else ([], false)
theorem arP_len (n : Int) : (arP n).1.length ≤ 1048576 := by
  unfold arP
  rcases h : inB n 0 8 with _ | _
  · simp
  · have hb := inB_iff.1 h
    show ((tabA n.toNat).getD n.toNat []).length ≤ _
    have h1 := tabA_len n.toNat
    have h2 := tabA_bd (m := n.toNat) (by omega) (r := (tabA n.toNat).getD n.toNat []) (by
      rw [List.getD_eq_getElem?_getD, List.getElem?_eq_getElem (by omega)]; exact List.getElem_mem _)
    omega

set_option maxHeartbeats 1000000 in
theorem implAreaPolynomial_any (n : Int) (w : World) : Calls Try.prog 32 #[.int .i64 n] w (RetIB w (arP n).1 (arP n).2) := by
  unfold RetIB
  rcases h : inB n 0 8 with _ | _
  · have HF := Lib.hid (show arP n = ([], false) by unfold arP; rw [h]; rfl)
    have HB := Lib.hid h
    clear h
    go_enter Try.func32, Try.ntmps32
    go_wp2_with fail
    refine (within_any _ _ _ _).mono ?_
    rintro e w' ⟨rfl, rfl⟩
    rw [HB.out]
    go_wp2_with fail
    go_ret2
    rw [HF.out]
    exact ⟨_, 0, 0, rfl, rfl, own_empty w, (Below.refl _ _).alloc (Nat.le_refl _) _⟩
  have hb := inB_iff.1 h
  obtain ⟨N, rfl⟩ := Int.eq_ofNat_of_zero_le hb.1
  have hN : N ≤ 8 := by omega
  have HF := Lib.hid (show arP (N : Int) = (histA (paths N) (paths N).length, true) by unfold arP; rw [h, area_eq hN]; rfl)
  have HB := Lib.hid h
  have h6 := paths_len (n := N) hN
  have HDY := Lib.hid (fun x (hx : x ∈ paths N) => paths_dyck hN hx)
  have HAR := Lib.hid (show ∀ x ∈ paths N, 0 ≤ arTo x x.length ∧ arTo x x.length ≤ 256 by
    intro x hx
    obtain ⟨h1, h2⟩ := paths_dyck hN hx
    have h3 := arTo_bd (dyck_pathB h1).2.1 (dyck_pathB h1).1 x.length (Nat.le_refl _)
    omega)
  have HHL := Lib.hid (fun j => hist_len (ws := paths N) (fun x hx => by have := HAR.out x hx; show (arTo x x.length).toNat ≤ 256; omega) j)
  obtain ⟨WS, hWS⟩ : ∃ WS, WS = paths N := ⟨_, rfl⟩
  have HP := Lib.hid (show ∀ w, Calls Try.prog 54 #[.int .i64 (N : Int)] w (RetS w WS) from fun w => by rw [hWS]; exact allPaths_any N w hN)
  rw [← hWS] at HF h6 HDY HAR HHL
  clear h hb hWS
  go_enter Try.func32, Try.ntmps32
  go_wp2_with fail
  refine (within_any _ _ _ _).mono ?_
  rintro e w' ⟨rfl, rfl⟩
  rw [HB.out]
  go_wp2_with fail
  refine (HP.out _).mono ?_
  rintro e w1 ⟨A, m, c, hm, rfl, ho, hb⟩
  have HS := Lib.hid ho.1
  have HM := Lib.hid hm
  have hm6 : m ≤ 65536 := by rw [hm]; exact h6
  have hbw : Below w.heap.size w w1 := ((Below.refl _ _).alloc (Nat.le_refl _) (.cells #[] 3)).trans (hb.mono (by simp))
  have HO0 := Lib.hid ((own_empty w).below hb)
  have HS0 := Lib.hid (HS.out.mono (B' := w.heap.size) (by simp))
  clear ho hm hb HS
  go_wp2_with fail
  go_loopw [4, 6, 7, 16] (fun s _ _ i wr => ∃ (j q : Nat) (A1 : Option Addr) (c1 : Nat), j ≤ m ∧ i = .int .i64 j ∧ s = .slice A1 q c1 ∧ Hid (q = (histA WS j).length) ∧ Own wr 3 w.heap.size A1 q c1 (iv (histA WS j)) ∧ Own wr 9 w.heap.size A m c (sv WS) ∧ Below w.heap.size w wr) (fun _ _ _ i _ => m - (intOf i).toNat)
  case atStart => exact ⟨0, 0, _, _, Nat.zero_le _, rfl, rfl, Lib.hid rfl, HO0.out, HS0.out, hbw⟩
  case round =>
    obtain ⟨j, q, A1, c1, hj, rfl, rfl, HQ, ho, hso, hbl⟩ := hrel
    have O := Lib.hid ho
    have S := Lib.hid hso
    have hbs := hbl.size
    have hq : q ≤ 257 := by rw [HQ.out]; exact HHL.out j
    by_cases hlt : j < m
    · obtain ⟨bl, off, x, rfl, hx, hc⟩ := hso.rd.ats hlt
      have hxm := List.mem_of_getElem? hx
      have HX := Lib.hid (histA_step hx)
      have hxd := (HDY.out x hxm).1
      have hxa := HAR.out x hxm
      obtain ⟨K, hK⟩ := Int.eq_ofNat_of_zero_le hxa.1
      have HC := Lib.hid (fun w => implAreaOf_good x w hxd)
      rw [hK] at HC HX
      have hK9 : K ≤ 256 := by omega
      have HX2 := Lib.hid (show histA WS (j + 1) = incA (histA WS j) K from HX.out)
      clear hx hxm hxd hxa hK ho hso HX
      go_wp2_with fail
      refine (HC.out _).mono ?_
      rintro e w2 ⟨rfl, hb2⟩
      have O2a := Lib.hid (O.out.below hb2)
      have S2 := Lib.hid (S.out.below hb2)
      have hbl2 := hbl.trans (hb2.mono hbs)
      clear hb2
      obtain ⟨l0, hl0⟩ : ∃ l0, l0 = histA WS j := ⟨_, rfl⟩
      have HBV := Lib.hid (show ∀ k, 0 ≤ l0.getD k 0 ∧ l0.getD k 0 ≤ 65536 by rw [hl0]; intro k; have := hist_bd WS j k; omega)
      rw [← hl0] at HQ O2a HX2
      have HQ2 := Lib.hid (show l0.length = q from HQ.out.symm)
      clear hl0
      go_wp2_with fail
      go_loopw [4] (fun s wr => ∃ (e : Nat) (A1 : Option Addr) (c1 : Nat), q ≤ e ∧ e ≤ max q (K + 1) ∧ s = .slice A1 e c1 ∧ Own wr 3 w.heap.size A1 e c1 (iv (padTo l0 e)) ∧ Own wr 9 w.heap.size (some ⟨bl, off, none⟩) m c (sv WS) ∧ Below w.heap.size w wr) (fun s _ => 1000 - lenV s)
      case atStart => exact ⟨q, A1, c1, Nat.le_refl _, by omega, rfl, by rw [pad_self (by rw [HQ2.out]; exact Nat.le_refl _)]; exact O2a.out, S2.out, hbl2⟩
      case round =>
        obtain ⟨e, A2, c2, he1, he2, rfl, ho3, hs3, hb3⟩ := hrel
        have O3 := Lib.hid ho3
        have S3 := Lib.hid hs3
        have hbs3 := hb3.size
        clear ho3 hs3
        by_cases hle : e ≤ K
        · have HPS := Lib.hid (pad_snoc (l := l0) (e := e) (by rw [HQ2.out]; exact he1))
          have hle2 : (e : Int) ≤ (K : Int) := by omega
          go_wp2_with (at_builtin; refine appI _ rfl _ _ rfl w.heap.size A2 e c2 _ rfl (O3.out.alloc _) wr.heap.size 0 rfl (by simp) (by omega) hbs3 ?_; intro A' c' w' hown' hg' hb')
          have O4 := Lib.hid (show Own w' 3 w.heap.size A' (e + 1) c' (iv (padTo l0 (e + 1))) by rw [HPS.out, iv_snoc]; exact hown')
          have S4 := Lib.hid (Own.otherA (O3.out.alloc _) (S3.out.alloc _) (by decide) hg')
          have hb4 := (hb3.alloc hbs3 _).trans hb'
          clear hown' hg' hb'
          go_wp2_with fail
          go_roundw
          case rel => exact ⟨e + 1, A', c', by omega, by omega, rfl, O4.out, S4.out, hb4⟩
          case measure => simp [lenV]; omega
        · have hle2 : ¬ (e : Int) ≤ (K : Int) := by omega
          have HPE := Lib.hid (show padTo l0 e = padTo l0 (K + 1) by
            rcases Nat.lt_or_ge q (K + 1) with h1 | h1
            · rw [show e = K + 1 by omega]
            · rw [pad_self (by rw [HQ2.out]; omega), pad_self (by rw [HQ2.out]; omega)])
          rw [HPE.out] at O3
          obtain ⟨g, y, hA2, hgB, _, hy, hcy, hfy⟩ := O3.out.ati (show K < e by omega)
          subst hA2
          have HIS := Lib.hid (incA_set hy)
          have hyb := HBV.out K
          rw [← getD_pad l0 (K + 1), List.getD_eq_getElem?_getD, hy] at hyb
          have hyb2 : 0 ≤ y ∧ y ≤ 65536 := hyb
          have K0 : (0 : Int) ≤ (K : Int) := by omega
          have K1 : (K : Int) < (e : Int) := by omega
          have HIL := Lib.hid (show e = (incA l0 K).length by have h1 := O3.out.len; rw [iv_len, padTo_len] at h1; rw [incA_len]; exact h1.symm)
          have HFAR := Lib.hid (fun (gg : Nat) (hgg : (some (⟨bl, off, none⟩ : Addr)) = some ⟨gg, 0, none⟩) => (show gg ≠ g from fun e2 => by
            subst e2
            have h1 := S3.out
            rw [hgg] at h1
            exact own_ne O3.out h1 (by decide) rfl))
          clear hy hyb
          go_wp2_with fail
          go_roundw
          case rel => exact ⟨j + 1, e, _, c2, by omega, by go_num, rfl, Lib.hid (by rw [HX2.out]; exact HIL.out), by rw [HX2.out, ← HIS.out]; exact O3.out.puti K (y + 1), S3.out.set_far HFAR.out _, hb3.setCell (p := ⟨g, K, none⟩) hgB _⟩
          case measure => simp [intOf]; omega
    · have hjm : j = m := by omega
      have HE := Lib.hid (show histA WS WS.length = histA WS j by rw [hjm, HM.out])
      clear hjm ho hso
      go_wp2_with fail
      go_ret2
      rw [HF.out, HE.out]
      exact ⟨A1, q, c1, HQ.out, rfl, O.out, hbl⟩

end Go.Proofs.Ytlpabdpaolmpfaa
