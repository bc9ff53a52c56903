/- AreaPolynomial of the specification: by the first return. -/
import Derived.Test.YtlpabdpaolmpfaaAreaI
import Derived.Test.YtlpabdpaolmpfaaBinomL
import Derived.Test.YtlpabdpaolmpfaaTimesSpec
import Derived.StillTailTactics
namespace Go.Proofs.Ytlpabdpaolmpfaa
set_option linter.unusedVariables false
open Go.RowKit

/-! What the round k of the sum for M + 1 reads and writes is small. -/
def smallU (M k : Nat) : Bool :=
  let X := timesL ((tabA M).getD k []) ((tabA M).getD (M - k) [])
  let S := sumA (tabA M) (M + 1) k
  decide (X.length ≤ 100) && X.all (fun x => decide (0 ≤ x) && decide (x ≤ 100000)) && decide (S.length ≤ 100) && S.all (fun x => decide (0 ≤ x) && decide (x ≤ 100000))
theorem smallU_8 : (List.range 8).all (fun M => (List.range (M + 1)).all (smallU M)) = true := by decide +kernel
theorem all_getD {l : List Int} {b : Int} (h : l.all (fun x => decide (0 ≤ x) && decide (x ≤ b)) = true) (hb : 0 ≤ b) (j : Nat) : 0 ≤ l.getD j 0 ∧ l.getD j 0 ≤ b := by
  rw [List.getD_eq_getElem?_getD]
  rcases hj : l[j]? with _ | x
  · exact ⟨Int.le_refl _, hb⟩
  · have := List.all_eq_true.1 h x (List.mem_of_getElem? hj)
    rw [Bool.and_eq_true, decide_eq_true_eq, decide_eq_true_eq] at this
    exact this
theorem smallU_at {M k : Nat} (hM : M < 8) (hk : k ≤ M) : (timesL ((tabA M).getD k []) ((tabA M).getD (M - k) [])).length ≤ 100 ∧ (∀ j, 0 ≤ (timesL ((tabA M).getD k []) ((tabA M).getD (M - k) [])).getD j 0 ∧ (timesL ((tabA M).getD k []) ((tabA M).getD (M - k) [])).getD j 0 ≤ 100000) ∧ (sumA (tabA M) (M + 1) k).length ≤ 100 ∧ (∀ j, 0 ≤ (sumA (tabA M) (M + 1) k).getD j 0 ∧ (sumA (tabA M) (M + 1) k).getD j 0 ≤ 100000) := by
  have h := List.all_eq_true.1 (List.all_eq_true.1 smallU_8 M (List.mem_range.2 hM)) k (List.mem_range.2 (by omega))
  unfold smallU at h
  simp only [Bool.and_eq_true, decide_eq_true_eq] at h
  exact ⟨h.1.1.1, all_getD h.1.1.2 (by omega), h.1.2, all_getD h.2 (by omega)⟩
theorem sumA_next (M k : Nat) : sumA (tabA M) (M + 1) (k + 1) = upd (padTo (sumA (tabA M) (M + 1) k) ((timesL ((tabA M).getD k []) ((tabA M).getD (M - k) [])).length + k)) (fun i => (timesL ((tabA M).getD k []) ((tabA M).getD (M - k) [])).getD i 0) k (timesL ((tabA M).getD k []) ((tabA M).getD (M - k) [])).length := by
  rw [sumA, show M + 1 - 1 - k = M - k by omega]

/-- Two slices of ints, apart: one grows, the other is read. -/
structure TwoI (w0 wr : World) (A1 : Option Addr) (q c1 : Nat) (xs : List Int) (A2 : Option Addr) (m c2 : Nat) (ys : List Int) : Prop where
  out : Own wr 3 w0.heap.size A1 q c1 (iv xs)
  inp : Own wr 3 w0.heap.size A2 m c2 (iv ys)
  apart : ∀ g : Nat, A2 = some ⟨g, 0, none⟩ → Value.ownBlock (.slice A1 q c1) ≠ some g
  below : Below w0.heap.size w0 wr
theorem apIw {w : World} {A1 A2 : Option Addr} {n1 c1 g' : Nat} (hd : ∀ g : Nat, A2 = some ⟨g, 0, none⟩ → Value.ownBlock (.slice A1 n1 c1) ≠ some g) (hlt : ∀ g : Nat, A2 = some ⟨g, 0, none⟩ → g < w.heap.size) (hat : Value.ownBlock (.slice A1 n1 c1) = some g' ∨ g' = w.heap.size) (n c : Nat) :
    ∀ g : Nat, A2 = some ⟨g, 0, none⟩ → Value.ownBlock (.slice (some ⟨g', 0, none⟩) n c) ≠ some g := by
  intro g hg he
  have e : g' = g := by simpa [Value.ownBlock] using he
  subst e
  rcases hat with h | h
  · exact hd g' hg h
  · have := hlt g' hg; omega
theorem TwoI.start {w0 w2 w3 : World} {A1 A2 : Option Addr} {q c1 m c2 : Nat} {xs ys : List Int} (h : Own w2 3 w0.heap.size A1 q c1 (iv xs)) (hb : Below w0.heap.size w0 w2) (hx : Own w3 3 w2.heap.size A2 m c2 (iv ys)) (hb3 : Below w2.heap.size w2 w3) : TwoI w0 w3 A1 q c1 xs A2 m c2 ys where
  out := h.below hb3
  inp := hx.mono hb.size
  apart := by
    intro g hg he
    have h1 := (h.blk g he).2
    have h2 := (hx.blk g (by rw [hg]; rfl)).1
    omega
  below := hb.trans (hb3.mono hb.size)
theorem TwoI.grow {w0 wr w' : World} {A1 A2 : Option Addr} {q c1 m c2 g' c' : Nat} {xs ys zs : List Int} {x : Int} (h : TwoI w0 wr A1 q c1 xs A2 m c2 ys) (ow : Obj) (ho : Own w' 3 w0.heap.size (some ⟨g', 0, none⟩) (q + 1) c' (iv xs ++ [.int .i64 x])) (hz : zs = xs ++ [x]) (hg : (wr.alloc ow).grownBy w' (Value.ownBlock (.slice A1 q c1))) (hb : Below w0.heap.size (wr.alloc ow) w') (hat : Value.ownBlock (.slice A1 q c1) = some g' ∨ g' = (wr.alloc ow).heap.size) : TwoI w0 w' (some ⟨g', 0, none⟩) (q + 1) c' zs A2 m c2 ys := by
  subst hz
  exact ⟨by rw [iv_snoc]; exact ho, (h.inp.alloc _).grown hg (fun g hA => h.apart g hA), apIw h.apart (fun g hg => ((h.inp.alloc ow).blk g (by rw [hg]; rfl)).2) hat _ _, (h.below.alloc h.below.size _).trans hb⟩
theorem TwoI.set {w0 wr : World} {g q c1 m c2 : Nat} {A2 : Option Addr} {xs ys : List Int} (h : TwoI w0 wr (some ⟨g, 0, none⟩) q c1 xs A2 m c2 ys) (hg : w0.heap.size ≤ g) (k : Nat) (y : Int) : TwoI w0 (wr.setCell ⟨g, k, none⟩ (.int .i64 y)).drew (some ⟨g, 0, none⟩) q c1 (xs.set k y) A2 m c2 ys :=
  ⟨(h.out.puti k y).drew, (h.inp.set_far (fun gg hgg e => h.apart gg hgg (by rw [e]; rfl)) _).drew, h.apart, (h.below.setCell (p := ⟨g, k, none⟩) hg _).drew⟩

theorem O2.pushN {w1 w2 w' : World} {lo : Nat} {A A' A1 : Option Addr} {n c c' q c1 : Nat} {vs : List Value} {xss : List (List Int)} {ys : List Int} (h : O2 w1 lo A n c vs xss) (hb : Below w1.heap.size w1 w2) (hr : Own w2 3 w1.heap.size A1 q c1 (iv ys)) (hlo : lo ≤ w1.heap.size) (hq : q = ys.length)
    (ow : Obj) (hgr : (w2.alloc ow).grownBy w' (Value.ownBlock (.slice A n c))) (ho : Own w' 22 lo A' (n + 1) c' (vs ++ [.slice A1 q c1])) : O2 w' lo A' (n + 1) c' (vs ++ [.slice A1 q c1]) (xss ++ [ys]) := by
  subst hq
  refine ((h.below hb).alloc ow).push ((hr.mono hlo).alloc ow) ?_ hgr ho
  intro g' hg' j u hu he
  subst hg'
  have h2 := (hr.blk g' rfl).1
  have hj : j < xss.length := by have := (List.getElem?_eq_some_iff.1 hu).1; rw [h.len] at this; exact this
  obtain ⟨Aj, cj, hv, hoj⟩ := h.row j _ (List.getElem?_eq_getElem hj)
  rw [hu] at hv
  cases hv
  have := (hoj.blk _ he).2
  omega

set_option maxRecDepth 100000 in
set_option maxHeartbeats 4000000 in
theorem specAreaPolynomial_any (n : Int) (w : World) : Calls Try.prog 31 #[.int .i64 n] w (RetIB w (arP n).1 (arP n).2) := by
  unfold RetIB
  rcases h : inB n 0 8 with _ | _
  · have HF := Lib.hid (show arP n = ([], false) by unfold arP; rw [h]; rfl)
    have HB := Lib.hid h
    clear h
    go_enter Try.func31, Try.ntmps31
    go_wp2_with fail
    refine (l1In_any _ _ _ _).mono ?_
    rintro e w' ⟨rfl, rfl⟩
    rw [HB.out]
    go_wp2_with fail
    go_ret2
    rw [HF.out]
    exact ⟨_, 0, 0, rfl, rfl, own_empty w, (Below.refl _ _).alloc (Nat.le_refl _) _⟩
  have hb := inB_iff.1 h
  obtain ⟨N, rfl⟩ := Int.eq_ofNat_of_zero_le hb.1
  have hN : N ≤ 8 := by omega
  have HF := Lib.hid (show arP (N : Int) = ((tabA N).getD N [], true) by unfold arP; rw [h]; rfl)
  have HB := Lib.hid h
  clear h hb
  go_enter Try.func31, Try.ntmps31
  go_wp2_with fail
  refine (l1In_any _ _ _ _).mono ?_
  rintro e w' ⟨rfl, rfl⟩
  rw [HB.out]
  go_wp2_with fail
  go_loopw [4, 5, 6, 7, 8, 9] (fun l mv _ _ _ _ wr => ∃ (M : Nat) (A : Option Addr) (c : Nat) (vs : List Value), M ≤ N ∧ mv = .int .i64 ((M : Int) + 1) ∧ l = .slice A (M + 1) c ∧ O2 wr w.heap.size A (M + 1) c vs (tabA M) ∧ Below w.heap.size w wr) (fun _ i _ _ _ _ _ => N + 1 - (intOf i).toNat)
  case atStart => exact ⟨0, _, _, _, Nat.zero_le _, rfl, rfl, O2.one w, ((Below.refl _ _).alloc (Nat.le_refl _) _).alloc (by simp) _⟩
  case round =>
    obtain ⟨M, A, c, vs, hM, rfl, rfl, hrows, hb⟩ := hrel
    obtain ⟨w1, rfl⟩ : ∃ W, W = wr := ⟨wr, rfl⟩
    have HROWS := Lib.hid hrows
    have hs1 := hb.size
    clear hrows
    by_cases hlt : M < N
    · have hmn : (M : Int) + 1 ≤ (N : Int) := by omega
      go_wp2_with fail
      go_loopw [6, 7, 8, 9] (fun s kv _ _ wr => ∃ (k q : Nat) (A1 : Option Addr) (c1 : Nat), k ≤ M + 1 ∧ kv = .int .i64 k ∧ s = .slice A1 q c1 ∧ Hid (q = (sumA (tabA M) (M + 1) k).length) ∧ Own wr 3 w1.heap.size A1 q c1 (iv (sumA (tabA M) (M + 1) k)) ∧ Below w1.heap.size w1 wr) (fun _ k _ _ _ => M + 1 - (intOf k).toNat)
      case atStart => exact ⟨0, 0, _, _, Nat.zero_le _, rfl, rfl, Lib.hid rfl, own_empty w1, (Below.refl _ _).alloc (Nat.le_refl _) _⟩
      case round =>
        obtain ⟨k, q, A1, c1, hk, rfl, rfl, HQ, ho, hbl⟩ := hrel
        obtain ⟨w2, rfl⟩ : ∃ W, W = wr := ⟨wr, rfl⟩
        have O := Lib.hid ho
        have hbs := hbl.size
        clear ho
        by_cases hkm : k < M + 1
        · have hkm2 : (k : Int) < (M : Int) + 1 := by omega
          obtain ⟨ux, uS1, uS2, uS3⟩ := smallU_at (show M < 8 by omega) (show k ≤ M by omega)
          have HX := Lib.hid uS1
          have HSB := Lib.hid uS3
          have hq : q ≤ 100 := by rw [HQ.out]; exact uS2
          have h1 : (tabA M)[k]? = some ((tabA M).getD k []) := by rw [List.getD_eq_getElem?_getD, List.getElem?_eq_getElem (by rw [tabA_len]; omega)]; rfl
          have h2 : (tabA M)[M - k]? = some ((tabA M).getD (M - k) []) := by rw [List.getD_eq_getElem?_getD, List.getElem?_eq_getElem (by rw [tabA_len]; omega)]; rfl
          obtain ⟨R1, hR1⟩ : ∃ R, R = (tabA M).getD k [] := ⟨_, rfl⟩
          obtain ⟨R2, hR2⟩ : ∃ R, R = (tabA M).getD (M - k) [] := ⟨_, rfl⟩
          have HNX := Lib.hid (sumA_next M k)
          rw [← hR1, ← hR2] at HNX HX ux
          rw [← hR1] at h1
          rw [← hR2] at h2
          have HB1 := Lib.hid (tabA_bd (show M ≤ 8 by omega) (List.mem_of_getElem? h1))
          have HB2 := Lib.hid (tabA_bd (show M ≤ 8 by omega) (List.mem_of_getElem? h2))
          obtain ⟨X, hX⟩ : ∃ X, X = timesL R1 R2 := ⟨_, rfl⟩
          rw [← hX] at HNX HX ux
          obtain ⟨S, hS⟩ : ∃ S, S = sumA (tabA M) (M + 1) k := ⟨_, rfl⟩
          rw [← hS] at HNX HSB HQ O
          obtain ⟨ga, Aa, ca, hAa, hga, hgsa, hva, hca, hfa, hoa⟩ := (HROWS.out.below hbl).head h1
          obtain ⟨gb, Ab, cb, hAb, hgb, hgsb, hvb, hcb, hfb, hob⟩ := (HROWS.out.below hbl).head h2
          subst hAa
          cases hAb
          obtain ⟨la, hla⟩ : ∃ l, l = R1.length := ⟨_, rfl⟩
          obtain ⟨lb, hlb⟩ : ∃ l, l = R2.length := ⟨_, rfl⟩
          rw [← hla] at hca hoa hva
          rw [← hlb] at hcb hob hvb
          have hla9 : la ≤ 40 := by rw [hla]; exact HB1.out.1
          have hlb9 : lb ≤ 40 := by rw [hlb]; exact HB2.out.1
          have HOa := Lib.hid hoa
          have HOb := Lib.hid hob
          have HC := Lib.hid (fun w h1 h2 => l14Times_any Aa la ca R1 Ab lb cb R2 w h1 h2 (fun x hx => by have := HB1.out.2 x hx; omega) (fun x hx => by have := HB2.out.2 x hx; omega) (by omega))
          rw [← hX] at HC
          have v1 : IntKind.i64.wrap (M : Int) = (M : Int) := IntWalk.i64_in _ (by omega)
          have v5 : (0 : Int) ≤ ((M - k : Nat) : Int) := by omega
          have v6 : ((M - k : Nat) : Int) < (M : Int) + 1 := by omega
          have v2 : IntKind.i64.wrap ((M : Int) - (k : Int)) = ((M - k : Nat) : Int) := by rw [show (M : Int) - k = ((M - k : Nat) : Int) by omega]; exact IntWalk.i64_in _ (by omega)
          have v3 : ((M - k : Nat) : Int) < ((M + 1 : Nat) : Int) := by omega
          have v4 : (k : Int) < ((M + 1 : Nat) : Int) := by omega
          clear hla hlb hoa hob hva hvb h1 h2 hR1 hR2 hS hX uS1 uS2 uS3
          go_wp2_with fail
          go_still_tail 11, (by kernel_rfl)
          change wpList _ _ _ _ _ w2.drew
          go_wp2_with fail
          refine (HC.out _ (HOa.out.drew).rd (HOb.out.drew).rd).mono ?_
          rintro e w3 ⟨A3, n3, c3, hn3, rfl, ho3, hb3⟩
          have T0 := Lib.hid (TwoI.start O.out.drew hbl.drew ho3 hb3)
          have hn39 : n3 ≤ 100 := by omega
          have HN3 := Lib.hid hn3
          clear ho3 hb3 hn3 hca hcb hfa hfb
          go_wp2_with fail
          go_loopw [6] (fun s wr => ∃ (e : Nat) (A1 : Option Addr) (c1 : Nat), q ≤ e ∧ e ≤ max q (n3 + k) ∧ s = .slice A1 e c1 ∧ TwoI w1 wr A1 e c1 (padTo S e) A3 n3 c3 X) (fun s _ => 1000 - lenV s)
          case atStart => exact ⟨q, A1, c1, Nat.le_refl _, by omega, rfl, by rw [pad_self (by rw [HQ.out]; exact Nat.le_refl _)]; exact T0.out⟩
          case round =>
            obtain ⟨e, A4, c4, he1, he2, rfl, ht⟩ := hrel
            obtain ⟨w4, rfl⟩ : ∃ W, W = wr := ⟨wr, rfl⟩
            have T := Lib.hid ht
            have hbs4 := ht.below.size
            clear ht
            by_cases hle : e < n3 + k
            · have HPS := Lib.hid (pad_snoc (l := S) (e := e) (by rw [← HQ.out]; exact he1))
              have hle2 : (e : Int) < (n3 : Int) + (k : Int) := by omega
              go_wp2_with (at_builtin; refine appIL _ rfl _ _ rfl w1.heap.size A4 e c4 _ rfl (T.out.out.alloc _) w4.heap.size 0 rfl (by simp) (by omega) hbs4 ?_; intro g' c' w' hown' hg' hb' hat')
              have T4 := Lib.hid (T.out.grow _ hown' HPS.out hg' hb' hat')
              clear hown' hg' hb' hat'
              go_wp2_with fail
              go_roundw
              case rel => exact ⟨e + 1, _, c', by omega, by omega, rfl, T4.out⟩
              case measure => simp [lenV]; omega
            · have hle2 : ¬ (e : Int) < (n3 : Int) + (k : Int) := by omega
              have HPE := Lib.hid (show padTo S e = padTo S (n3 + k) by
                rcases Nat.lt_or_ge q (n3 + k) with h1 | h1
                · rw [show e = n3 + k by omega]
                · rw [pad_self (by rw [← HQ.out]; omega), pad_self (by rw [← HQ.out]; omega)])
              rw [HPE.out] at T
              have HPL := Lib.hid (show (padTo S (n3 + k)).length = e by have h1 := T.out.out.len; rw [iv_len] at h1; exact h1)
              have HPB := Lib.hid (show ∀ j, 0 ≤ (padTo S (n3 + k)).getD j 0 ∧ (padTo S (n3 + k)).getD j 0 ≤ 100000 by intro j; rw [getD_pad]; exact HSB.out j)
              have hen : n3 + k ≤ e := by omega
              have he9 : e ≤ 300 := by omega
              obtain ⟨P, hP⟩ : ∃ P, P = padTo S (n3 + k) := ⟨_, rfl⟩
              rw [← HN3.out, ← hP] at HNX
              rw [← hP] at T HPL HPB
              clear hP HPE T0
              go_wp2_with fail
              go_loopw [9] (fun i wr => ∃ t : Nat, t ≤ n3 ∧ i = .int .i64 t ∧ TwoI w1 wr A4 e c4 (upd P (fun i => X.getD i 0) k t) A3 n3 c3 X) (fun i _ => n3 - (intOf i).toNat)
              case atStart => exact ⟨0, Nat.zero_le _, rfl, T.out⟩
              case round =>
                obtain ⟨t, ht, rfl, htt⟩ := hrel
                have TT := Lib.hid htt
                by_cases hlt : t < n3
                · obtain ⟨b, o, x, hA, hx, hc⟩ := htt.inp.rd.ati hlt
                  subst hA
                  obtain ⟨g, y, hA4, hgB, hgs, hy, hcy, hfy⟩ := htt.out.ati (show t + k < e by omega)
                  subst hA4
                  have xb := HX.out t
                  rw [getD_of hx] at xb
                  have yb : 0 ≤ y ∧ y ≤ 100000 := by
                    have h0 := upd_get P (fun i => X.getD i 0) k t (t + k) (by rw [HPL.out]; omega)
                    rw [getD_of hy, if_neg (by omega)] at h0
                    have h1 := HPB.out (t + k)
                    omega
                  have HN := Lib.hid (show (upd P (fun i => X.getD i 0) k t).set (t + k) (y + x) = upd P (fun i => X.getD i 0) k (t + 1) by
                    show _ = List.set _ _ _
                    rw [show k + t = t + k from Nat.add_comm _ _, getD_of hy]; show _ = List.set _ (t + k) (y + X.getD t 0); rw [getD_of hx])
                  have kkn : t + k < e := by omega
                  have p1 : (0 : Int) ≤ (t : Int) + (k : Int) := by omega
                  have p2 : (t : Int) + (k : Int) < (e : Int) := by omega
                  have p3 : ((t : Int) + (k : Int)).toNat = t + k := by omega
                  have p4 : IntKind.i64.wrap ((t : Int) + (k : Int)) = (t : Int) + (k : Int) := IntWalk.i64_in _ (by omega)
                  have u0 : IntKind.i64.wrap (y + x) = y + x := IntWalk.i64_in _ (by omega)
                  clear hx hy htt
                  go_wp2_with fail
                  go_still_tail 16, (by kernel_rfl)
                  change wpList _ _ _ _ _ wr.drew
                  go_wp2_with fail
                  go_roundw
                  case rel => exact ⟨t + 1, by omega, by go_num, by rw [← HN.out]; exact TT.out.set hgB (t + k) (y + x)⟩
                  case measure => simp [intOf]; omega
                · have htl : n3 = t := by omega
                  subst htl
                  clear htt
                  have HQ9 := Lib.hid (show e = (sumA (tabA M) (M + 1) (k + 1)).length by rw [HNX.out, upd_len, HPL.out])
                  go_wp2_with fail
                  go_roundw
                  case rel => exact ⟨k + 1, e, A4, c4, by omega, by go_num, rfl, HQ9, by rw [HNX.out]; exact TT.out.out, TT.out.below⟩
                  case measure => simp [intOf]; omega
        · have hkm2 : ¬ (k : Int) < (M : Int) + 1 := by omega
          have hkM : k = M + 1 := by omega
          subst hkM
          go_wp2_with (at_builtin; refine appRow _ rfl _ _ rfl w.heap.size A (M + 1) c vs rfl ((HROWS.out.below hbl).outer.alloc _) w2.heap.size A1 q c1 rfl (by simp) (by omega) (by omega) ?_; intro A3 c3 w3 hown3 hgr3 hb4)
          have HP := Lib.hid (HROWS.out.pushN hbl O.out hs1 HQ.out _ hgr3 hown3)
          have hbf := ((hb.trans (hbl.mono hs1)).alloc (by omega) _).trans hb4
          clear hown3 hgr3 hb4
          go_wp2_with fail
          go_roundw
          case rel => exact ⟨M + 1, A3, c3, _, by omega, by go_num, rfl, by rw [tabA]; exact HP.out, hbf⟩
          case measure => simp [intOf]; omega
    · have hMN : M = N := by omega
      subst hMN
      have hlt2 : ¬ (M : Int) + 1 ≤ (M : Int) := by omega
      have h1 : (tabA M)[M]? = some ((tabA M).getD M []) := by rw [List.getD_eq_getElem?_getD, List.getElem?_eq_getElem (by rw [tabA_len]; omega)]; rfl
      obtain ⟨ga, Aa, ca, hAa, hga, hgsa, hva, hca, hfa, hoa⟩ := HROWS.out.head h1
      subst hAa
      have HOa := Lib.hid hoa
      clear hoa hva h1
      obtain ⟨R, hR⟩ : ∃ R, R = (tabA M).getD M [] := ⟨_, rfl⟩
      rw [← hR] at HOa HF hca
      have v4 : (M : Int) < ((M + 1 : Nat) : Int) := by omega
      clear hR
      go_wp2_with fail
      go_ret2
      rw [HF.out]
      exact ⟨Aa, ca, rfl, HOa.out, hb⟩
end Go.Proofs.Ytlpabdpaolmpfaa
