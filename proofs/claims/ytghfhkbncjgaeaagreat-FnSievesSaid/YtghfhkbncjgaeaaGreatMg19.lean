/- Merged: MapN MtS. -/
import Derived.Test.YtghfhkbncjgaeaaGreatMg8
import Derived.Maps.OwnOps
import Derived.Maps.OwnSet
import Derived.Test.YtghfhkbncjgaeaaGreatMg3
import Derived.Test.YtghfhkbncjgaeaaGreatMg15
import Derived.StillTailTactics

namespace Go.Proofs.YtghfhkbncjgaeaaGreat
set_option linter.unusedVariables false
open Go.RowKit

theorem lawN : Go.Maps.Keyed Tryz.prog 9 := Go.Maps.string_keyed Tryz.underlying9
theorem zeroN (w : World) : (zeroValue 3).run Tryz.prog w = .ok (.int .i64 0) w := by kernel_rfl
/-- Block b is a map of at most n entries that answers as M. -/
def MSN (w : World) (b n : Nat) (M : List UInt8 → Option Int) : Prop :=
  ∃ D : DataW Unit, w.ownsMap Tryz.prog 9 (plainElem Tryz.prog 3) b n D ∧ ∀ k, Maps.has D (.string k) = (M k).isSome ∧ ∀ v, M k = some v → ∀ z, D.atKey (.string k) z = .lit (.int .i64 v)
theorem MSN.made (w : World) : MSN (w.alloc (.map #[] 0)) w.heap.size 0 (fun _ => none) :=
  ⟨.map [], World.ownsMap_made _ _ _ _, fun k => ⟨rfl, fun v h => by cases h⟩⟩
theorem MSN.lt {w : World} {b n : Nat} {M : List UInt8 → Option Int} (h : MSN w b n M) : b < w.heap.size := by
  obtain ⟨D, h1, _⟩ := h; exact h1.lt
theorem MSN.kept {w w' : World} {b n : Nat} {M : List UInt8 → Option Int} {row : Option Nat} (h : MSN w b n M) (hg : w.grownBy w' row) (hne : some b ≠ row) : MSN w' b n M := by
  obtain ⟨D, h1, h2⟩ := h; exact ⟨D, h1.kept hg hne, h2⟩
theorem MSN.keep {w w' : World} {b n : Nat} {M : List UInt8 → Option Int} (h : MSN w b n M) (hk : w'.heap[b]? = w.heap[b]?) : MSN w' b n M := by
  obtain ⟨D, ⟨es, clock, hb, F, hs, hD⟩, h2⟩ := h
  exact ⟨D, ⟨es, clock, hk.trans hb, F, hs, hD⟩, h2⟩
theorem MSN.below {w w' : World} {b n : Nat} {M : List UInt8 → Option Int} (h : MSN w b n M) (hb : Below w.heap.size w w') : MSN w' b n M := h.keep (hb.block b h.lt)
theorem MSN.alloc {w : World} {b n : Nat} {M : List UInt8 → Option Int} (h : MSN w b n M) (o : Obj) : MSN (w.alloc o) b n M := h.keep (Below.heap_alloc w o b h.lt)
theorem MSN.drewN {w : World} {b n : Nat} {M : List UInt8 → Option Int} (h : MSN w b n M) (k : Nat) : MSN (w.drewN k) b n M := h.keep rfl
theorem MSN.congr {w : World} {b n : Nat} {M M' : List UInt8 → Option Int} (h : MSN w b n M) (e : ∀ k, M k = M' k) : MSN w b n M' := by
  rw [show M' = M from funext fun k => (e k).symm]; exact h
theorem MSN.look {w : World} {b n : Nat} {M : List UInt8 → Option Int} (h : MSN w b n M) (k : List UInt8) (hk : k.length ≤ maxLen) :
    (Instr.lookup 68 (.map (some b)) (.string (bs k)) false).run Tryz.prog w = .ok (.int .i64 ((M k).getD 0)) w := by
  obtain ⟨D, h1, h2⟩ := h
  have hkey : keyOf Tryz.prog 9 (.string (bs k)) = some (.string k) := by
    have := Go.WideMaps.keyOf_string_mk (P := Tryz.prog) Tryz.underlying9 (s := bs k) (by rw [size_bs]; exact hk)
    exact this
  obtain ⟨v, ps, hrun, hv⟩ := h1.lookup lawN Tryz.underlying68 (zeroN w) (plainElem_int Tryz.underlying3 (a := 0) (by decide)) hkey
  obtain ⟨s, rfl, hs, _⟩ := plainElem_int_inv Tryz.underlying3 hv
  have hs1 : D.atKey (.string k) (.lit (.int .i64 0)) = .lit (.int .i64 s) := congrArg Prod.fst hs
  rw [hrun]
  have e : s = (M k).getD 0 := by
    rcases hm : M k with _ | x
    · have hn : Maps.has D (.string k) = false := by rw [(h2 k).1, hm]; rfl
      rw [Maps.atKey_of_not_has hn] at hs1
      simp only [DataW.lit.injEq, Lit.int.injEq, true_and] at hs1
      exact hs1.symm
    · rw [(h2 k).2 x hm] at hs1
      simp only [DataW.lit.injEq, Lit.int.injEq, true_and] at hs1
      exact hs1.symm
  rw [e]
/-- m[k] = v. -/
theorem storeN (w : World) {ops : Array Oper} {rest : List Oper} {o : Oper} {a : Act} {Q : Exit → Act → World → Prop} (hg : o.guard = none) (m x v : Operand) (hop : o.op = Op.mapUpdate 68 m x v)
    (b n : Nat) (M : List UInt8 → Option Int) (hm : a.eval m = .map (some b)) (h : MSN w b n M) (hn : n ≤ 1000000000) (k : List UInt8) (y : Int) (hx : a.eval x = .string (bs k)) (hv : a.eval v = .int .i64 y) (hk : k.length ≤ maxLen) (hy : 0 ≤ y ∧ y ≤ 1000000)
    (hK : ∀ w', MSN w' b (n + 1) (fun z => if z = k then some y else M z) → w.grownBy w' (some b) → wpList Tryz.prog ops Q rest (a.put o.dst undef) w') : wpList Tryz.prog ops Q (o :: rest) a w := by
  obtain ⟨D, h1, h2⟩ := h
  have hkey : keyOf Tryz.prog 9 (.string (bs k)) = some (.string k) := by
    have := Go.WideMaps.keyOf_string_mk (P := Tryz.prog) Tryz.underlying9 (s := bs k) (by rw [size_bs]; exact hk)
    exact this
  have hwf : (Lit.int .i64 y).wf = true := by
    have e1 : IntKind.min .i64 = -9223372036854775808 := by decide
    have e2 : IntKind.max .i64 = 9223372036854775807 := by decide
    show (decide (IntKind.min .i64 ≤ y) && decide (y ≤ IntKind.max .i64)) = true
    rw [e1, e2, decide_eq_true (by omega), decide_eq_true (by omega)]; rfl
  have hval : plainElem (H := Unit) Tryz.prog 3 (.int .i64 y) = some (.lit (.int .i64 y), []) := plainElem_int Tryz.underlying3 hwf
  refine wpList_mapUpdate_own w hg m x v 68 hop 9 3 lawN Tryz.underlying68 _ b n D hm h1 (by unfold maxLen; omega) _ _ _ hx hv hkey _ [] hval ?_
  intro w' hown hgr
  refine hK w' ⟨_, hown, fun z => ?_⟩ hgr
  by_cases hz : z = k
  · subst hz
    rw [Maps.has_put_same h1.isMap (by trivial)]
    show _ = (if z = z then some y else M z).isSome ∧ ∀ u, (if z = z then some y else M z) = some u → _
    rw [if_pos rfl]
    refine ⟨rfl, fun u hu d => ?_⟩
    rw [Maps.atKey_put_same h1.isMap (by trivial)]
    simp at hu
    rw [hu]
  · have hne : (Lit.string z) ≠ Lit.string k := fun e => hz (by injection e)
    rw [Maps.has_put_other hne]
    show _ = (if z = k then some y else M z).isSome ∧ ∀ u, (if z = k then some y else M z) = some u → _
    rw [if_neg hz]
    refine ⟨(h2 z).1, fun u hu d => ?_⟩
    rw [Maps.atKey_put_other hne]
    exact (h2 z).2 u hu d
theorem MSN.ne_own {w : World} {b n B : Nat} {M : List UInt8 → Option Int} {e : TypeId} {A : Option Addr} {m c : Nat} {vs : List Value} (h : MSN w b n M) (ho : Own w e B A m c vs) : Value.ownBlock (.slice A m c) ≠ some b := by
  intro hb
  obtain ⟨D, ⟨es, clock, hh, _⟩, _⟩ := h
  have hA : A = some ⟨b, 0, none⟩ := by
    rcases ho.form with ⟨rfl, _⟩ | ⟨g0, rfl, _⟩
    · cases hb
    · have : g0 = b := by simpa [Value.ownBlock] using hb
      rw [this]
  subst hA
  rcases ho.2 with ⟨h1, _⟩ | ⟨g, cap, cur, h1, _, hg, _⟩
  · cases h1
  · cases h1
    rw [hh] at hg
    cases hg

end Go.Proofs.YtghfhkbncjgaeaaGreat

namespace Go.Proofs.YtghfhkbncjgaeaaGreat
set_option linter.unusedVariables false
open Go.RowKit

theorem mt_letter {l : List UInt8} (h : okB l l.length = true) {k : Nat} (hk : k < l.length) : l[k]? = some 117 ∨ l[k]? = some 100 := by
  have := okB_mono h (show k + 1 ≤ l.length by omega)
  rw [okB, Bool.and_eq_true, Bool.and_eq_true, Bool.or_eq_true, beq_iff_eq, beq_iff_eq] at this
  exact this.1.2
set_option maxHeartbeats 2000000 in
theorem l4Partner_any (l : List UInt8) (i j : Nat) (w : World) (hl : l.length ≤ 16) (hi : i < l.length) (hok : okB l l.length = true) (h : (l[i]? = some 117 ∧ MtU l i j) ∨ (l[i]? ≠ some 117 ∧ MtD l i j)) :
    Calls Tryz.prog 110 #[.string (bs l), .int .i64 i] w fun e w' => e = .returned (.int .i64 j) ∧ w = w' := by
  have HL : Hid (∀ k, k < l.length → l[k]? = some 117 ∨ l[k]? = some 100) := Lib.hid fun k hk => mt_letter hok hk
  obtain ⟨ci, hci⟩ : ∃ c, l[i] = c := ⟨_, rfl⟩
  have HCI := Lib.hid (show l[i]? = some ci by rw [List.getElem?_eq_getElem hi, hci])
  rcases h with ⟨hu, hm⟩ | ⟨hd, hm⟩
  · have HM := Lib.hid hm
    have hj1 := hm.lt
    have hj2 := hm.jn
    obtain rfl : ci = 117 := by have := HCI.out; rw [hu] at this; injection this with h; exact h.symm
    have e0 : (((l[i]'hi).toNat : Int) == 117) = true := by rw [hci]; rfl
    clear hm hu hok hci
    go_enter Tryz.func110, Tryz.ntmps110
    go_wp2_with fail
    go_loop [5, 6] (fun hv kx => ∃ k : Nat, i ≤ k ∧ k ≤ j ∧ kx = .int .i64 k ∧ hv = .int .i64 (hat l k - hat l i)) (fun _ kx => j + 1 - (intOf kx).toNat)
    case atStart => exact ⟨i, Nat.le_refl _, by omega, rfl, by congr 1; omega⟩
    case round =>
      obtain ⟨k, hik, hkj, rfl, rfl⟩ := hrel
      have hk : k < l.length := by omega
      have b1 := hat_bd l k
      have b2 := hat_bd l i
      obtain ⟨c, hc⟩ : ∃ c, l[k] = c := ⟨_, rfl⟩
      have HC := Lib.hid (show l[k]? = some c by rw [List.getElem?_eq_getElem hk, hc])
      obtain ⟨H, hH⟩ : ∃ H, H = hat l k - hat l i := ⟨_, rfl⟩
      rw [← hH]
      have HH := Lib.hid hH
      have hb : -40 ≤ H ∧ H ≤ 40 := by omega
      clear b1 b2 hH
      by_cases hu : c = 117
      · subst hu
        have e1 : (((l[k]'hk).toNat : Int) == 117) = true := by rw [hc]; rfl
        have HS := Lib.hid (show hat l (k + 1) - hat l i = H + 1 by rw [hat_u HC.out, HH.out]; omega)
        have u1 : IntKind.i64.wrap (H + 1) = H + 1 := IntWalk.i64_in _ (by omega)
        clear hc
        by_cases hkx : k = j
        · have e2 : (H + 1 == 0) = true := by have := HM.out.eq; rw [← hkx] at this; have h2 := HS.out; rw [beq_iff_eq]; omega
          subst hkx
          go_wp2_with fail
          go_ret
          exact ⟨rfl, rfl⟩
        · have e2 : (H + 1 == 0) = false := by have := HM.out.ne k hik (by omega); have h2 := HS.out; rw [beq_eq_false_iff_ne]; omega
          go_wp2_with fail
          go_round
          case rel => exact ⟨k + 1, by omega, by omega, by go_num, by rw [HS.out]⟩
          case measure => simp [intOf]; omega
      · have e1 : (((l[k]'hk).toNat : Int) == 117) = false := by rw [hc]; exact u8_ne hu
        have HS := Lib.hid (show hat l (k + 1) - hat l i = H - 1 by rw [hat_d HC.out hu, HH.out]; omega)
        have u1 : IntKind.i64.wrap (H - 1) = H - 1 := IntWalk.i64_in _ (by omega)
        clear hc hu
        by_cases hkx : k = j
        · have e2 : (H - 1 == 0) = true := by have := HM.out.eq; rw [← hkx] at this; have h2 := HS.out; rw [beq_iff_eq]; omega
          subst hkx
          go_wp2_with fail
          go_ret
          exact ⟨rfl, rfl⟩
        · have e2 : (H - 1 == 0) = false := by have := HM.out.ne k hik (by omega); have h2 := HS.out; rw [beq_eq_false_iff_ne]; omega
          go_wp2_with fail
          go_round
          case rel => exact ⟨k + 1, by omega, by omega, by go_num, by rw [HS.out]⟩
          case measure => simp [intOf]; omega
  · have HM := Lib.hid hm
    have hj1 := hm.lt
    have hcu : ci ≠ 117 := by rintro rfl; exact hd HCI.out
    have e0 : (((l[i]'hi).toNat : Int) == 117) = false := by rw [hci]; exact u8_ne hcu
    clear hm hd hok hci hcu
    go_enter Tryz.func110, Tryz.ntmps110
    go_wp2_with fail
    go_loop [5, 7] (fun hv kx => ∃ k : Nat, j ≤ k ∧ k ≤ i ∧ kx = .int .i64 k ∧ hv = .int .i64 (hat l (k + 1) - hat l (i + 1))) (fun _ kx => (intOf kx).toNat)
    case atStart => exact ⟨i, by omega, Nat.le_refl _, rfl, by congr 1; omega⟩
    case round =>
      obtain ⟨k, hik, hkj, rfl, rfl⟩ := hrel
      have hk : k < l.length := by omega
      have b1 := hat_bd l (k + 1)
      have b2 := hat_bd l (i + 1)
      have i0 : (0 : Int) ≤ (k : Int) := by omega
      have uk : IntKind.i64.wrap ((k : Int) - 1) = (k : Int) - 1 := IntWalk.i64_in _ (by omega)
      obtain ⟨c, hc⟩ : ∃ c, l[k] = c := ⟨_, rfl⟩
      have HC := Lib.hid (show l[k]? = some c by rw [List.getElem?_eq_getElem hk, hc])
      obtain ⟨H, hH⟩ : ∃ H, H = hat l (k + 1) - hat l (i + 1) := ⟨_, rfl⟩
      rw [← hH]
      have HH := Lib.hid hH
      have hb : -40 ≤ H ∧ H ≤ 40 := by omega
      clear b1 b2 hH
      by_cases hu : c = 100
      · subst hu
        have e1 : (((l[k]'hk).toNat : Int) == 100) = true := by rw [hc]; rfl
        have HS := Lib.hid (show hat l k - hat l (i + 1) = H + 1 by have := hat_d HC.out (show (100 : UInt8) ≠ 117 by decide); have := HH.out; omega)
        have u1 : IntKind.i64.wrap (H + 1) = H + 1 := IntWalk.i64_in _ (by omega)
        clear hc
        by_cases hkx : k = j
        · have e2 : (H + 1 == 0) = true := by have := HM.out.eq; rw [← hkx] at this; have h2 := HS.out; rw [beq_iff_eq]; omega
          subst hkx
          go_wp2_with fail
          go_ret
          exact ⟨rfl, rfl⟩
        · have e2 : (H + 1 == 0) = false := by have := HM.out.ne k (by omega) hkj; have h2 := HS.out; rw [beq_eq_false_iff_ne]; omega
          go_wp2_with fail
          go_round
          case rel => exact ⟨k - 1, by omega, by omega, by congr 1; omega, by rw [show k - 1 + 1 = k by omega, HS.out]⟩
          case measure => simp [intOf]; omega
      · have hcu : c = 117 := by
          have := HL.out k hk
          rw [HC.out] at this
          rcases this with h | h
          · injection h
          · injection h with h; exact absurd h hu
        have e1 : (((l[k]'hk).toNat : Int) == 100) = false := by rw [hc]; exact u8_ne hu
        have HS := Lib.hid (show hat l k - hat l (i + 1) = H - 1 by have h1 := HC.out; rw [hcu] at h1; have := hat_u h1; have := HH.out; omega)
        have u1 : IntKind.i64.wrap (H - 1) = H - 1 := IntWalk.i64_in _ (by omega)
        clear hc hu hcu
        by_cases hkx : k = j
        · have e2 : (H - 1 == 0) = true := by have := HM.out.eq; rw [← hkx] at this; have h2 := HS.out; rw [beq_iff_eq]; omega
          subst hkx
          go_wp2_with fail
          go_ret
          exact ⟨rfl, rfl⟩
        · have e2 : (H - 1 == 0) = false := by have := HM.out.ne k (by omega) hkj; have h2 := HS.out; rw [beq_eq_false_iff_ne]; omega
          go_wp2_with fail
          go_round
          case rel => exact ⟨k - 1, by omega, by omega, by congr 1; omega, by rw [show k - 1 + 1 = k by omega, HS.out]⟩
          case measure => simp [intOf]; omega

theorem prI_succ {l : List UInt8} (h : mtOk l = true) {k : Nat} (hk : k < l.length) : (prI l l.length).take (k + 1) = (prI l l.length).take k ++ [(mtJ l k : Int)] := by
  have h1 := (mt_at h hk).1
  obtain ⟨h2, h3⟩ := List.getElem?_eq_some_iff.1 h1
  rw [List.take_succ_eq_append_getElem h2, h3]
set_option maxHeartbeats 2000000 in
theorem specMatchingOf_any (l : List UInt8) (w : World) (h : mtOk l = true) : Calls Tryz.prog 72 #[.string (bs l)] w (RetIB w (prI l l.length) true) := by
  unfold RetIB
  have hd := mt_dyck h
  obtain ⟨h16, hok, h0⟩ := dyck_pathB hd
  have HT := Lib.hid (fun (k : Nat) (hk : k < l.length) => mt_at h hk)
  have HS := Lib.hid (fun (k : Nat) (hk : k < l.length) => prI_succ h hk)
  have HD := Lib.hid hd
  have HO := Lib.hid hok
  have HL := Lib.hid (prI_len l l.length)
  clear hd hok h0 h
  go_enter Tryz.func72, Tryz.ntmps72
  go_wp2_with fail
  go_loopw [4, 5] (fun s i wr => ∃ (k : Nat) (A1 : Option Addr) (c1 : Nat), k ≤ l.length ∧ i = .int .i64 k ∧ s = .slice A1 k c1 ∧ Own wr 3 w.heap.size A1 k c1 (iv ((prI l l.length).take k)) ∧ Below w.heap.size w wr) (fun _ i _ => l.length - (intOf i).toNat)
  case atStart => exact ⟨0, _, _, Nat.zero_le _, rfl, rfl, own_empty w, (Below.refl _ _).alloc (Nat.le_refl _) _⟩
  case round =>
    obtain ⟨k, A1, c1, hk, rfl, rfl, ho, hb⟩ := hrel
    have O := Lib.hid ho
    have hs := hb.size
    clear ho
    by_cases hlt : k < l.length
    · obtain ⟨hx, hj, hm⟩ := HT.out k hlt
      have HX := Lib.hid (HS.out k hlt)
      have HM := Lib.hid hm
      obtain ⟨J, hJ⟩ : ∃ J, J = mtJ l k := ⟨_, rfl⟩
      rw [← hJ] at hj
      have HJ := Lib.hid hJ
      have HC := Lib.hid (fun w => l4Partner_any l k (mtJ l k) w h16 hlt HO.out HM.out)
      rw [← hJ] at HC
      clear hx hm hJ
      go_wp2_with fail
      refine (specIsDyck_any _ _ (by omega)).mono ?_
      rintro e w' ⟨rfl, rfl⟩
      rw [HD.out]
      go_wp2_with fail
      refine (HC.out _).mono ?_
      rintro e w' ⟨rfl, rfl⟩
      go_wp2_with (at_builtin; refine appI _ rfl _ _ rfl w.heap.size A1 k c1 _ rfl (O.out.alloc _) wr.heap.size (J : Int) rfl (by simp) (by omega) hs ?_; intro A' c' w' hown' hg' hb')
      have O2 := Lib.hid hown'
      have hb2 := (hb.alloc hs _).trans hb'
      clear hown' hg' hb'
      go_wp2_with fail
      go_roundw
      case rel => exact ⟨k + 1, A', c', by omega, by go_num, rfl, by rw [HX.out, iv_snoc, ← HJ.out]; exact O2.out, hb2⟩
      case measure => simp [intOf]; omega
    · have HK := Lib.hid (show (prI l l.length).take k = prI l l.length by rw [List.take_of_length_le (by rw [HL.out]; omega)])
      have HKL := Lib.hid (show k = (prI l l.length).length by rw [HL.out]; omega)
      go_wp2_with fail
      refine (specIsDyck_any _ _ (by omega)).mono ?_
      rintro e w' ⟨rfl, rfl⟩
      rw [HD.out]
      go_wp2_with fail
      go_ret2
      exact ⟨_, k, c1, HKL.out, rfl, by rw [← HK.out]; exact O.out, hb⟩
theorem implMatchingOf_any (l : List UInt8) (w : World) (h : dyck l = true) : Calls Tryz.prog 61 #[.string (bs l)] w (RetIB w (prI l l.length) true) := by
  unfold RetIB
  obtain ⟨h16, hok, h0⟩ := dyck_pathB h
  have HD := Lib.hid h
  clear h hok h0
  go_enter Tryz.func61, Tryz.ntmps61
  go_wp2_with fail
  refine (implIsDyck_any l _ (by omega)).mono ?_
  rintro e w1 ⟨rfl, hb1⟩
  rw [HD.out]
  have hs1 := hb1.size
  go_wp2_with fail
  refine (partners_any l _ HD.out).mono ?_
  rintro e w2 ⟨Ap, np, cp, hnp, rfl, hop, hbp⟩
  have HP := Lib.hid (hop.mono hs1)
  have hb2 := hb1.trans (hbp.mono hs1)
  have HN := Lib.hid hnp
  clear hop hbp hnp
  go_wp2_with fail
  go_ret2
  exact ⟨Ap, np, cp, HN.out, rfl, HP.out, hb2⟩

end Go.Proofs.YtghfhkbncjgaeaaGreat
