/- Merged: ObjI. -/
import Derived.Test.YtghfhkbncjgaeaaGreatMg18
import Derived.Test.YtghfhkbncjgaeaaGreatMg19
import Derived.Test.YtghfhkbncjgaeaaGreatMg32
import Derived.Test.YtghfhkbncjgaeaaGreatMg24
import Derived.Test.YtghfhkbncjgaeaaGreatMg33
import Derived.Test.YtghfhkbncjgaeaaGreatMg39
import Derived.Test.YtghfhkbncjgaeaaGreatMg9

namespace Go.Proofs.YtghfhkbncjgaeaaGreat
set_option linter.unusedVariables false
open Go.RowKit Go.Deep

theorem ob_block {w : World} {e : TypeId} {B : Nat} {A : Option Addr} {n c : Nat} {vs : List Value} (h : Own w e B A n c vs) {g : Nat} (he : Value.ownBlock (.slice A n c) = some g) : A = some ⟨g, 0, none⟩ := by
  rcases h.form with ⟨rfl, _⟩ | ⟨g0, rfl, _⟩
  · cases he
  · have : g0 = g := by simpa [Value.ownBlock] using he
    rw [this]
/-- The map, the texts of the paths, the texts of the turned objects. -/
structure ObjS (w0 wr : World) (bm km : Nat) (M : List UInt8 → Option Int) (A : Option Addr) (m c : Nat) (xs : List (List UInt8)) (A1 : Option Addr) (k c1 : Nat) (ys : List (List UInt8)) : Prop where
  out : Own wr 9 w0.heap.size A1 k c1 (sv ys)
  inp : Own wr 9 w0.heap.size A m c (sv xs)
  apart : ∀ g : Nat, A = some ⟨g, 0, none⟩ → Value.ownBlock (.slice A1 k c1) ≠ some g
  map : MSN wr bm km M
  lo : w0.heap.size ≤ bm
  below : Below w0.heap.size w0 wr
section
variable {w0 wr w' : World} {bm km : Nat} {M : List UInt8 → Option Int} {A A1 : Option Addr} {m c k c1 : Nat} {xs ys : List (List UInt8)}
theorem ObjS.by_ (h : ObjS w0 wr bm km M A m c xs A1 k c1 ys) (hb : Below wr.heap.size wr w') : ObjS w0 w' bm km M A m c xs A1 k c1 ys :=
  ⟨h.out.below hb, h.inp.below hb, h.apart, h.map.below hb, h.lo, h.below.trans (hb.mono h.below.size)⟩
theorem ObjS.put {M' : List UInt8 → Option Int} (h : ObjS w0 wr bm km M A m c xs A1 k c1 ys) (hm : MSN w' bm (km + 1) M') (hg : wr.grownBy w' (some bm)) : ObjS w0 w' bm (km + 1) M' A m c xs A1 k c1 ys where
  out := h.out.grown hg fun g hA he => h.map.ne_own h.out (by rw [hA]; exact congrArg some (by injection he with he; exact he.symm))
  inp := h.inp.grown hg fun g hA he => h.map.ne_own h.inp (by rw [hA]; exact congrArg some (by injection he with he; exact he.symm))
  apart := h.apart
  map := hm
  lo := h.lo
  below := h.below.grown hg h.below.size (fun b hb => by injection hb with hb; rw [← hb]; exact h.lo)
theorem ObjS.grow {x : List UInt8} {g' c' : Nat} (h : ObjS w0 wr bm km M A m c xs A1 k c1 ys) (ho : Own w' 9 w0.heap.size (some ⟨g', 0, none⟩) (k + 1) c' (sv ys ++ [.string (bs x)])) (hg : (wr.alloc (.cells #[.string (bs x)] 9)).grownBy w' (Value.ownBlock (.slice A1 k c1))) (hb : Below w0.heap.size (wr.alloc (.cells #[.string (bs x)] 9)) w')
    (hat : Value.ownBlock (.slice A1 k c1) = some g' ∨ g' = (wr.alloc (.cells #[.string (bs x)] 9)).heap.size) : ObjS w0 w' bm km M A m c xs (some ⟨g', 0, none⟩) (k + 1) c' (ys ++ [x]) where
  out := by rw [sv_snoc]; exact ho
  inp := (h.inp.alloc _).grown hg (fun g hA => h.apart g hA)
  apart g hA he := by
    have e : g' = g := by simpa [Value.ownBlock] using he
    subst e
    rcases hat with hat | hat
    · exact h.apart g' hA hat
    · have := (h.inp.blk g' (by rw [hA]; rfl)).2
      simp at hat
      omega
  map := (h.map.alloc _).kept hg (fun he => h.map.ne_own h.out he.symm)
  lo := h.lo
  below := (h.below.alloc h.below.size _).trans hb
theorem ObjS.start {w w1 : World} {A : Option Addr} {m c : Nat} {xs : List (List UInt8)} (ho : OSeg w1 9 ((w.alloc (.map #[] 0)).alloc (.cells #[] 9)).heap.size w1.heap.size A m c (sv xs)) (hb : Below ((w.alloc (.map #[] 0)).alloc (.cells #[] 9)).heap.size ((w.alloc (.map #[] 0)).alloc (.cells #[] 9)) w1) :
    ObjS w w1 w.heap.size 0 (fun _ => none) A m c xs (some ⟨w.heap.size + 1, 0, none⟩) 0 0 [] where
  out := by
    have := ((own_emptyS (w.alloc (.map #[] 0))).below hb).mono (B' := w.heap.size) (by simp)
    simpa using this
  inp := ho.1.mono (by simp; omega)
  apart := by
    intro g hg he
    have h1 := (ho.1.blk g (by rw [hg]; rfl)).1
    simp [Value.ownBlock] at h1 he
    omega
  map := ((MSN.made w).alloc _).below hb
  lo := Nat.le_refl _
  below := (((Below.refl _ _).alloc (Nat.le_refl _) _).alloc (by simp) _).trans (hb.mono (by simp; omega))
end
theorem turnM_1 {n i : Nat} (hn1 : 1 ≤ n) (hn : n ≤ 5) (hi : i < (paths n).length) : turnM (mO (P n i)) 1 = (mO (P n ((nxMs.getD n []).getD i 0)), true) := turnM_at (k := 1) hn hi (by omega)
theorem parI_at {n i : Nat} (hn : n ≤ 5) (hi : i < (paths n).length) : parI (P n i) = (pO (P n i), true) := by
  unfold parI
  rw [P_dyck hn hi]; rfl
theorem fd_ok {n : Nat} {d : List (List Int)} (h : triB n d = true) (hn : n ≤ 9) : ∀ x ∈ d, FdOk x := by
  intro x hx
  obtain ⟨i, hi, rfl⟩ := List.mem_iff_getElem.1 hx
  have hx := List.getElem?_eq_getElem hi
  have h1 := (triOk h).nums hx
  have h2 := (triOk h).two i _ hx
  exact ⟨h2, h1.1, by omega, by omega, by omega, by omega⟩

theorem MSN.cell_ne {w : World} {b n : Nat} {M : List UInt8 → Option Int} (h : MSN w b n M) {p : Addr} {u : Value} (hc : w.cell? p = some u) : p.block ≠ b := by
  intro hb
  obtain ⟨D, ⟨es, clock, hh, _⟩, _⟩ := h
  subst hb
  unfold World.cell? at hc
  rw [hh] at hc
  cases hc
theorem Rd.keptM {w w' : World} {b n0 : Nat} {M : List UInt8 → Option Int} {A : Option Addr} {n : Nat} {vs : List Value} (h : Rd w A n vs) (hm : MSN w b n0 M) (hg : w.grownBy w' (some b)) : Rd w' A n vs :=
  ⟨h.1, fun hn => by
    obtain ⟨b', off, e, hc⟩ := h.2 hn
    refine ⟨b', off, e, fun j u hu => ?_⟩
    have h1 := hc j u hu
    rw [hg.cell_far ⟨b', off + j, none⟩ (World.block_lt_of_cell? _ _ h1) (fun he => hm.cell_ne h1 (by injection he))]
    exact h1⟩
theorem R2.keptM {w w' : World} {b n0 : Nat} {M : List UInt8 → Option Int} {A : Option Addr} {n : Nat} {vs : List Value} {xss : List (List Int)} (h : R2 w A n vs xss) (hm : MSN w b n0 M) (hg : w.grownBy w' (some b)) : R2 w' A n vs xss :=
  ⟨h.rd.keptM hm hg, h.rows.len, fun j xs hj => by obtain ⟨Aj, cj, e1, e2⟩ := h.rows.row j xs hj; exact ⟨Aj, cj, e1, e2.keptM hm hg⟩⟩
theorem sdI_two (t : Tr) : ∀ (l r : Nat) (s : List (List Int)), (∀ x ∈ s, x.length = 2) → ∀ x ∈ sdI t l r s, x.length = 2 := by
  induction t with
  | nil => intro l r s h; exact h
  | node b o a L R ihL ihR =>
    intro l r s h
    rw [sdI]
    refine ihR _ _ _ (ihL _ _ _ fun x hx => ?_)
    rw [List.mem_append, List.mem_append] at hx
    rcases hx with (hx | hx) | hx
    · exact h x hx
    · split at hx
      · cases hx
      · simp at hx; rw [hx]; rfl
    · split at hx
      · cases hx
      · simp at hx; rw [hx]; rfl

set_option maxRecDepth 20000 in
set_option maxHeartbeats 4000000 in
theorem objects_M (n : Nat) (hn1 : 1 ≤ n) (hn : n ≤ 5) (w : World) : Calls Tryz.prog 39 #[.string (bs nmM), .int .i64 n] w (RetI w (plL (nxMs.getD n []) (paths n).length)) := by
  unfold RetI
  have HOK := Lib.hid (txM_ok hn)
  have HBD := Lib.hid (fun i (hi : i < (paths n).length) => bd_lt (bd_all hn).1 hi)
  have h42 := paths_5 hn
  have HPA := Lib.hid (fun w => implPathsOf_any n w (by omega))
  have HAT := Lib.hid (fun i (hi : i < (paths n).length) => P_at hi)
  have HC1 := Lib.hid (fun i (hi : i < (paths n).length) w => implMatchingOf_any (P n i) w (P_dyck hn hi))
  have HLN := Lib.hid (fun i (hi : i < (paths n).length) => mO_len hn hi)
  have HIM := Lib.hid (fun i (hi : i < (paths n).length) => ncM_mat (chM_at hn hi).1)
  have HTU := Lib.hid (fun i (hi : i < (paths n).length) => turnM_1 hn1 hn hi)
  have HTX := Lib.hid (fun i => show fmtM (mO (P n i)) = txM n i from rfl)
  have hmm := @run_makeMap Tryz.prog
  obtain ⟨f, hf⟩ : ∃ f, f = nmM := ⟨_, rfl⟩
  have e1 : (f == [109, 97, 116, 99, 104, 105, 110, 103, 115]) = true := by rw [hf]; rfl
  have e2 : (f == [112, 97, 114, 116, 105, 116, 105, 111, 110, 115]) = false := by rw [hf]; rfl
  rw [← hf]
  obtain ⟨nx, hnx⟩ : ∃ nx, nx = nxMs.getD n [] := ⟨_, rfl⟩
  obtain ⟨tx, htx⟩ : ∃ tx, tx = txM n := ⟨_, rfl⟩
  obtain ⟨LL, hLL⟩ : ∃ L, L = (paths n).length := ⟨_, rfl⟩
  rw [← hnx] at HBD HTU ⊢
  rw [← htx] at HOK HTX
  rw [← hLL] at HOK HBD h42 HAT HC1 HLN HIM HTU ⊢
  have HLL := Lib.hid hLL
  clear hf hnx htx hLL
  go_enter Tryz.func39, Tryz.ntmps39
  go_wp2_with fail
  refine (HPA.out _).mono ?_
  rintro e wp ⟨Ap, mp, cp, hmp, rfl, hop, hbp⟩
  obtain rfl : LL = mp := by rw [hmp]; exact HLL.out
  have T0 := Lib.hid (ObjS.start hop hbp)
  clear hmm
  clear hmp hop hbp
  go_wp2_with fail
  go_loopw [6, 7, 8, 31] (fun s _ _ kv wr => ∃ (k : Nat) (A1 : Option Addr) (c1 : Nat), k ≤ LL ∧ kv = .int .i64 k ∧ s = .slice A1 k c1 ∧ ObjS w wr w.heap.size k (plc tx k) Ap LL cp (paths n) A1 k c1 (tuL tx nx k)) (fun _ _ _ kv _ => LL - (intOf kv).toNat)
  case atStart => exact ⟨0, _, _, Nat.zero_le _, rfl, rfl, ⟨T0.out.out, T0.out.inp, T0.out.apart, T0.out.map.congr fun z => (plc_0 tx z).symm, T0.out.lo, T0.out.below⟩⟩
  case round =>
    obtain ⟨k, A1, c1, hk, rfl, rfl, ht⟩ := hrel
    obtain ⟨w1, rfl⟩ : ∃ W, W = wr := ⟨wr, rfl⟩
    have T := Lib.hid ht
    have hs := ht.below.size
    by_cases hlt : k < LL
    · obtain ⟨bl, off, x, hA, hx, hc⟩ := ht.inp.rd.ats hlt
      subst hA
      have hxP : x = P n k := by have h := HAT.out k hlt; rw [hx] at h; injection h
      subst hxP
      have hj := HBD.out k hlt
      have HST := Lib.hid (fun z => plc_step HOK.out hlt z)
      have HTL := Lib.hid (tuL_step tx nx k)
      have l1 := HOK.out.short k hlt
      have l2 := HOK.out.short _ hj
      have HSH := Lib.hid l1
      obtain ⟨j, hjd⟩ : ∃ j, j = nx.getD k 0 := ⟨_, rfl⟩
      rw [← hjd] at hj l2 HTL
      have HJ := Lib.hid hjd
      clear hx ht hjd
      go_wp2_with fail
      refine (HC1.out k hlt _).mono ?_
      rintro e w2 ⟨B1, q1, d1, hq1, rfl, ho1, hb1⟩
      obtain rfl : q1 = 2 * n := by rw [hq1]; exact HLN.out k hlt
      have O1 := Lib.hid (show Own w2 3 w1.heap.size B1 (2 * n) d1 (iv (mO (P n k))) from ho1)
      have T2 := Lib.hid (T.out.by_ hb1)
      have hs2 := hb1.size
      clear hq1 ho1 hb1
      go_wp2_with fail
      refine (implTurnMatching_any B1 (2 * n) d1 (mO (P n k)) 1 w2 O1.out.rd (by omega)).mono ?_
      rintro e w3a ⟨B2, q2, d2, hq2, rfl, ho2, hb2⟩
      rw [HTU.out k hlt, ← HJ.out] at hq2 ho2 ⊢
      obtain rfl : q2 = 2 * n := by rw [hq2]; exact HLN.out j hj
      have O1a := Lib.hid (O1.out.below hb2)
      have O2a := Lib.hid ho2
      have T2a := Lib.hid (T2.out.by_ hb2)
      have hs3a := hb2.size
      clear hq2 ho2 hb2
      go_wp2_with fail
      refine (implFormatMatching_any B1 (2 * n) d1 (mO (P n k)) w3a O1a.out.rd (HIM.out k hlt) (by omega)).mono ?_
      rintro e w3 ⟨rfl, hb3⟩
      rw [HTX.out]
      have O3a := Lib.hid (O2a.out.below hb3)
      have T3 := Lib.hid (T2a.out.by_ hb3)
      have hs3 := hb3.size
      clear hb3
      go_wp2_with (refine storeN _ rfl _ _ _ rfl w.heap.size k (plc tx k) rfl T3.out.map (by omega) (tx k) (k : Int) rfl rfl (by unfold maxLen; omega) (by omega) ?_; intro w4 hm4 hg4)
      have T4 := Lib.hid (T3.out.put (hm4.congr HST.out) hg4)
      have O4a := Lib.hid (O3a.out.grown hg4 fun g hA he => T3.out.map.ne_own O3a.out (by rw [hA]; exact congrArg some (by injection he with he; exact he.symm)))
      clear hm4 hg4
      go_wp2_with fail
      refine (implFormatMatching_any B2 (2 * n) d2 (mO (P n j)) w4 O4a.out.rd (HIM.out j hj) (by omega)).mono ?_
      rintro e w5 ⟨rfl, hb5⟩
      rw [HTX.out]
      have T5 := Lib.hid (T4.out.by_ hb5)
      have hs5 := T5.out.below.size
      clear hb5
      go_wp2_with (at_builtin; refine appSL _ rfl _ _ rfl w.heap.size A1 k c1 _ rfl (T5.out.out.alloc _) w5.heap.size (bs (tx j)) rfl (by simp) (by omega) (by omega) ?_; intro g6 c6 w6 hown6 hgr6 hb6 hat6)
      have T6 := Lib.hid (T5.out.grow hown6 hgr6 hb6 hat6)
      clear hown6 hgr6 hb6 hat6
      go_wp2_with fail
      go_roundw
      case rel => exact ⟨k + 1, _, c6, by omega, by go_num, rfl, by rw [HTL.out]; exact T6.out⟩
      case measure => simp [intOf]; omega
    · obtain rfl : k = LL := by omega
      have HM := Lib.hid ht
      clear ht
      go_wp2_with fail
      obtain ⟨w2, rfl⟩ : ∃ W, W = w1 := ⟨w1, rfl⟩
      have hs2 := HM.out.below.size
      go_loopw [23, 25, 109] (fun s _ iv' wr => ∃ (i : Nat) (A2 : Option Addr) (c2 : Nat), i ≤ k ∧ iv' = .int .i64 i ∧ s = .slice A2 i c2 ∧ Own wr 3 w2.heap.size A2 i c2 (iv (plL nx i)) ∧ Below w2.heap.size w2 wr) (fun _ _ iv' _ => k - (intOf iv').toNat)
      case atStart => exact ⟨0, _, _, Nat.zero_le _, rfl, rfl, own_empty w2, (Below.refl _ _).alloc (Nat.le_refl _) _⟩
      case round =>
        obtain ⟨i, A2, c2, hi, rfl, rfl, ho, hbz⟩ := hrel
        have O := Lib.hid ho
        have hsz := hbz.size
        clear ho
        by_cases hli : i < k
        · obtain ⟨bl, off, x, hA, hx, hc⟩ := (HM.out.out.rd.below hbz).ats hli
          subst hA
          obtain ⟨hxt, _⟩ := tuL_at tx nx hx
          have hjj := HBD.out i hli
          have hlook := (HM.out.map.below hbz).look x (by rw [hxt]; have := HOK.out.short _ hjj; unfold maxLen; omega)
          rw [show plc tx k x = some ((nx.getD i 0 : Nat) : Int) by rw [hxt]; exact plc_at HOK.out (Nat.le_refl _) hjj] at hlook
          have HS := Lib.hid (plL_step nx i)
          obtain ⟨J, hJ⟩ : ∃ J, J = nx.getD i 0 := ⟨_, rfl⟩
          rw [← hJ] at hlook HS hjj
          rw [Option.getD_some] at hlook
          clear hx hxt hJ
          go_wp2_with (at_builtin; refine appI _ rfl _ _ rfl w2.heap.size A2 i c2 _ rfl (O.out.alloc _) wr.heap.size (J : Int) rfl (by simp) (by omega) hsz ?_; intro A' c' w3 hown' hg' hb')
          have O3 := Lib.hid hown'
          have hb5 := (hbz.alloc hsz _).trans hb'
          clear hown' hg' hb' hlook
          go_wp2_with fail
          go_roundw
          case rel => exact ⟨i + 1, A', c', by omega, by go_num, rfl, by rw [HS.out, iv_snoc]; exact O3.out, hb5⟩
          case measure => simp [intOf]; omega
        · obtain rfl : i = k := by omega
          have HL := Lib.hid (show i = (plL nx i).length from (plL_len nx i).symm)
          go_wp2_with fail
          go_ret
          exact ⟨A2, i, c2, HL.out, rfl, O.out.mono hs2, HM.out.below.trans (hbz.mono hs2)⟩

set_option maxRecDepth 20000 in
set_option maxHeartbeats 4000000 in
theorem objects_P (n : Nat) (hn1 : 1 ≤ n) (hn : n ≤ 5) (w : World) : Calls Tryz.prog 39 #[.string (bs nmP), .int .i64 n] w (RetI w (plL (nxPs.getD n []) (paths n).length)) := by
  unfold RetI
  have HOK := Lib.hid (txP_ok hn)
  have HBD := Lib.hid (fun i (hi : i < (paths n).length) => bd_lt (bd_all hn).2.1 hi)
  have h42 := paths_5 hn
  have HPA := Lib.hid (fun w => implPathsOf_any n w (by omega))
  have HAT := Lib.hid (fun i (hi : i < (paths n).length) => P_at hi)
  have HC1 := Lib.hid (fun i (hi : i < (paths n).length) w => show Calls Tryz.prog 64 #[.string (bs (P n i))] w (RetIB w (pO (P n i)) true) by
    have := implPartitionOf_any (P n i) w (by have := P_len hn hi; omega)
    rwa [parI_at hn hi] at this)
  have HLN := Lib.hid (fun i (hi : i < (paths n).length) => pO_len hn hi)
  have HIM := Lib.hid (fun i (hi : i < (paths n).length) => nonc_par (chP_at hn hi).1)
  have HTU := Lib.hid (fun i (hi : i < (paths n).length) => ((chP_at hn hi).2.2).resolve_left (by omega))
  have HTX := Lib.hid (fun i => show fmtP (pO (P n i)) = txP n i from rfl)
  have hmm := @run_makeMap Tryz.prog
  obtain ⟨f, hf⟩ : ∃ f, f = nmP := ⟨_, rfl⟩
  have e1 : (f == [109, 97, 116, 99, 104, 105, 110, 103, 115]) = false := by rw [hf]; rfl
  have e2 : (f == [112, 97, 114, 116, 105, 116, 105, 111, 110, 115]) = true := by rw [hf]; rfl
  rw [← hf]
  obtain ⟨nx, hnx⟩ : ∃ nx, nx = nxPs.getD n [] := ⟨_, rfl⟩
  obtain ⟨tx, htx⟩ : ∃ tx, tx = txP n := ⟨_, rfl⟩
  obtain ⟨LL, hLL⟩ : ∃ L, L = (paths n).length := ⟨_, rfl⟩
  rw [← hnx] at HBD HTU ⊢
  rw [← htx] at HOK HTX
  rw [← hLL] at HOK HBD h42 HAT HC1 HLN HIM HTU ⊢
  have HLL := Lib.hid hLL
  clear hf hnx htx hLL
  go_enter Tryz.func39, Tryz.ntmps39
  go_wp2_with fail
  refine (HPA.out _).mono ?_
  rintro e wp ⟨Ap, mp, cp, hmp, rfl, hop, hbp⟩
  obtain rfl : LL = mp := by rw [hmp]; exact HLL.out
  have T0 := Lib.hid (ObjS.start hop hbp)
  clear hmm
  clear hmp hop hbp
  go_wp2_with fail
  go_loopw [6, 7, 8, 31] (fun s _ _ kv wr => ∃ (k : Nat) (A1 : Option Addr) (c1 : Nat), k ≤ LL ∧ kv = .int .i64 k ∧ s = .slice A1 k c1 ∧ ObjS w wr w.heap.size k (plc tx k) Ap LL cp (paths n) A1 k c1 (tuL tx nx k)) (fun _ _ _ kv _ => LL - (intOf kv).toNat)
  case atStart => exact ⟨0, _, _, Nat.zero_le _, rfl, rfl, ⟨T0.out.out, T0.out.inp, T0.out.apart, T0.out.map.congr fun z => (plc_0 tx z).symm, T0.out.lo, T0.out.below⟩⟩
  case round =>
    obtain ⟨k, A1, c1, hk, rfl, rfl, ht⟩ := hrel
    obtain ⟨w1, rfl⟩ : ∃ W, W = wr := ⟨wr, rfl⟩
    have T := Lib.hid ht
    have hs := ht.below.size
    by_cases hlt : k < LL
    · obtain ⟨bl, off, x, hA, hx, hc⟩ := ht.inp.rd.ats hlt
      subst hA
      have hxP : x = P n k := by have h := HAT.out k hlt; rw [hx] at h; injection h
      subst hxP
      have hj := HBD.out k hlt
      have HST := Lib.hid (fun z => plc_step HOK.out hlt z)
      have HTL := Lib.hid (tuL_step tx nx k)
      have l1 := HOK.out.short k hlt
      have l2 := HOK.out.short _ hj
      have HSH := Lib.hid l1
      obtain ⟨j, hjd⟩ : ∃ j, j = nx.getD k 0 := ⟨_, rfl⟩
      rw [← hjd] at hj l2 HTL
      have HJ := Lib.hid hjd
      clear hx ht hjd
      go_wp2_with fail
      refine (HC1.out k hlt _).mono ?_
      rintro e w2 ⟨B1, q1, d1, hq1, rfl, ho1, hb1⟩
      obtain rfl : q1 = n := by rw [hq1]; exact HLN.out k hlt
      have O1 := Lib.hid ho1
      have T2 := Lib.hid (T.out.by_ hb1)
      have hs2 := hb1.size
      have hcap := own_capT ho1
      clear hq1 ho1 hb1
      go_wp2_with fail
      refine (implTurnPartition_any B1 q1 d1 (pO (P q1 k)) w2 O1.out.rd (HIM.out k hlt) (by omega) hcap).mono ?_
      rintro e w3a ⟨B2, q2, d2, hq2, rfl, ho2, hb2⟩
      rw [HTU.out k hlt, ← HJ.out] at hq2 ho2
      obtain rfl : q2 = q1 := by rw [hq2]; exact HLN.out j hj
      have O1a := Lib.hid (O1.out.below hb2)
      have O2a := Lib.hid ho2
      have T2a := Lib.hid (T2.out.by_ hb2)
      have hs3a := hb2.size
      clear hq2 ho2 hb2
      go_wp2_with fail
      refine (implFormatPartition_any B1 q2 d1 (pO (P q2 k)) w3a O1a.out.rd (HIM.out k hlt)).mono ?_
      rintro e w3 ⟨rfl, hb3⟩
      rw [HTX.out]
      have O3a := Lib.hid (O2a.out.below hb3)
      have T3 := Lib.hid (T2a.out.by_ hb3)
      have hs3 := hb3.size
      clear hb3
      go_wp2_with (refine storeN _ rfl _ _ _ rfl w.heap.size k (plc tx k) rfl T3.out.map (by omega) (tx k) (k : Int) rfl rfl (by unfold maxLen; omega) (by omega) ?_; intro w4 hm4 hg4)
      have T4 := Lib.hid (T3.out.put (hm4.congr HST.out) hg4)
      have O4a := Lib.hid (O3a.out.grown hg4 fun g hA he => T3.out.map.ne_own O3a.out (by rw [hA]; exact congrArg some (by injection he with he; exact he.symm)))
      clear hm4 hg4
      go_wp2_with fail
      refine (implFormatPartition_any B2 q2 d2 (pO (P q2 j)) w4 O4a.out.rd (HIM.out j hj)).mono ?_
      rintro e w5 ⟨rfl, hb5⟩
      rw [HTX.out]
      have T5 := Lib.hid (T4.out.by_ hb5)
      have hs5 := T5.out.below.size
      clear hb5
      go_wp2_with (at_builtin; refine appSL _ rfl _ _ rfl w.heap.size A1 k c1 _ rfl (T5.out.out.alloc _) w5.heap.size (bs (tx j)) rfl (by simp) (by omega) (by omega) ?_; intro g6 c6 w6 hown6 hgr6 hb6 hat6)
      have T6 := Lib.hid (T5.out.grow hown6 hgr6 hb6 hat6)
      clear hown6 hgr6 hb6 hat6
      go_wp2_with fail
      go_roundw
      case rel => exact ⟨k + 1, _, c6, by omega, by go_num, rfl, by rw [HTL.out]; exact T6.out⟩
      case measure => simp [intOf]; omega
    · obtain rfl : k = LL := by omega
      have HM := Lib.hid ht
      clear ht
      go_wp2_with fail
      obtain ⟨w2, rfl⟩ : ∃ W, W = w1 := ⟨w1, rfl⟩
      have hs2 := HM.out.below.size
      go_loopw [23, 25, 109] (fun s _ iv' wr => ∃ (i : Nat) (A2 : Option Addr) (c2 : Nat), i ≤ k ∧ iv' = .int .i64 i ∧ s = .slice A2 i c2 ∧ Own wr 3 w2.heap.size A2 i c2 (iv (plL nx i)) ∧ Below w2.heap.size w2 wr) (fun _ _ iv' _ => k - (intOf iv').toNat)
      case atStart => exact ⟨0, _, _, Nat.zero_le _, rfl, rfl, own_empty w2, (Below.refl _ _).alloc (Nat.le_refl _) _⟩
      case round =>
        obtain ⟨i, A2, c2, hi, rfl, rfl, ho, hbz⟩ := hrel
        have O := Lib.hid ho
        have hsz := hbz.size
        clear ho
        by_cases hli : i < k
        · obtain ⟨bl, off, x, hA, hx, hc⟩ := (HM.out.out.rd.below hbz).ats hli
          subst hA
          obtain ⟨hxt, _⟩ := tuL_at tx nx hx
          have hjj := HBD.out i hli
          have hlook := (HM.out.map.below hbz).look x (by rw [hxt]; have := HOK.out.short _ hjj; unfold maxLen; omega)
          rw [show plc tx k x = some ((nx.getD i 0 : Nat) : Int) by rw [hxt]; exact plc_at HOK.out (Nat.le_refl _) hjj] at hlook
          have HS := Lib.hid (plL_step nx i)
          obtain ⟨J, hJ⟩ : ∃ J, J = nx.getD i 0 := ⟨_, rfl⟩
          rw [← hJ] at hlook HS hjj
          rw [Option.getD_some] at hlook
          clear hx hxt hJ
          go_wp2_with (at_builtin; refine appI _ rfl _ _ rfl w2.heap.size A2 i c2 _ rfl (O.out.alloc _) wr.heap.size (J : Int) rfl (by simp) (by omega) hsz ?_; intro A' c' w3 hown' hg' hb')
          have O3 := Lib.hid hown'
          have hb5 := (hbz.alloc hsz _).trans hb'
          clear hown' hg' hb' hlook
          go_wp2_with fail
          go_roundw
          case rel => exact ⟨i + 1, A', c', by omega, by go_num, rfl, by rw [HS.out, iv_snoc]; exact O3.out, hb5⟩
          case measure => simp [intOf]; omega
        · obtain rfl : i = k := by omega
          have HL := Lib.hid (show i = (plL nx i).length from (plL_len nx i).symm)
          go_wp2_with fail
          go_ret
          exact ⟨A2, i, c2, HL.out, rfl, O.out.mono hs2, HM.out.below.trans (hbz.mono hs2)⟩

set_option maxRecDepth 20000 in
set_option maxHeartbeats 4000000 in
theorem objects_T (n : Nat) (hn1 : 1 ≤ n) (hn : n ≤ 5) (w : World) : Calls Tryz.prog 39 #[.string (bs nmT), .int .i64 n] w (RetI w (plL (nxTs.getD n []) (paths n).length)) := by
  unfold RetI
  have HOK := Lib.hid (txD_ok hn)
  have HBD := Lib.hid (fun i (hi : i < (paths n).length) => bd_lt (bd_all hn).2.2 hi)
  have h42 := paths_5 hn
  have HPA := Lib.hid (fun w => implPathsOf_any n w (by omega))
  have HAT := Lib.hid (fun i (hi : i < (paths n).length) => P_at hi)
  have HC1 := Lib.hid (fun i (hi : i < (paths n).length) w => show Calls Tryz.prog 67 #[.string (bs (P n i))] w fun e w' => e = .returned (.tuple #[.string (bs (tx (tw (P n i)))), .bool true]) ∧ Below w.heap.size w w' by
    obtain ⟨_, _, _, h4, h5, _⟩ := chT_at hn hi
    have := implBinaryOf_yes (tw (P n i)) w (by omega)
    rwa [h4] at this)
  have HLN := Lib.hid (fun i (hi : i < (paths n).length) w => show Calls Tryz.prog 68 #[.string (bs (tx (tw (P n i))))] w (RetDgB w (dO (P n i)) true) by
    obtain ⟨h1, h2, _, h4, h5, _⟩ := chT_at hn hi
    have e1 := insD_len id (sdI (tw (P n i)) 0 (n + 1) []) _ (Nat.le_refl _)
    rw [List.map_id, List.take_length, h2] at e1
    have e2 := (triOk h1).len7
    have := implTriangulationOf_yes (tw (P n i)) w (by omega) (by rw [h5]; omega) (fun r hr => sdI_two _ _ _ [] (fun x hx => by cases hx) r hr)
    rwa [h5, h2] at this)
  have HIM := Lib.hid (fun i (hi : i < (paths n).length) => (chT_at hn hi).1)
  have HFD := Lib.hid (fun i (hi : i < (paths n).length) => fd_ok (chT_at hn hi).1 (by omega))
  have HTU := Lib.hid (fun i (hi : i < (paths n).length) => show turnD (n + 2) (dO (P n i)) 1 = dO (P n ((nxTs.getD n []).getD i 0)) from (chT_at hn hi).2.2.2.2.2 1 (by omega))
  have HTX := Lib.hid (fun i => show fmtD (dO (P n i)) = txD n i from rfl)
  have HTP := Lib.hid (fun i (hi : i < (paths n).length) (A : Option Addr) (m c : Nat) (vs : List Value) (w : World) (h : R2 w A m vs (dO (P n i))) (hmc : m ≤ c) => show Calls Tryz.prog 69 #[.int .i64 ((n : Int) + 2), .slice A m c, .int .i64 1] w (RetDgB w (turnD (n + 2) (dO (P n i)) 1) true) by
    have := implTurnPolygon_yes A (n + 2) m c 1 vs _ w h (HIM.out i hi) (by omega) hmc
    rwa [show ((n + 2 : Nat) : Int) = (n : Int) + 2 by omega] at this)
  have HL7 := Lib.hid (fun i (hi : i < (paths n).length) => (triOk (HIM.out i hi)).len7)
  have hmm := @run_makeMap Tryz.prog
  obtain ⟨f, hf⟩ : ∃ f, f = nmT := ⟨_, rfl⟩
  have e1 : (f == [109, 97, 116, 99, 104, 105, 110, 103, 115]) = false := by rw [hf]; rfl
  have e2 : (f == [112, 97, 114, 116, 105, 116, 105, 111, 110, 115]) = false := by rw [hf]; rfl
  rw [← hf]
  obtain ⟨nx, hnx⟩ : ∃ nx, nx = nxTs.getD n [] := ⟨_, rfl⟩
  obtain ⟨tx, htx⟩ : ∃ tx, tx = txD n := ⟨_, rfl⟩
  obtain ⟨LL, hLL⟩ : ∃ L, L = (paths n).length := ⟨_, rfl⟩
  rw [← hnx] at HBD HTU ⊢
  rw [← htx] at HOK HTX
  rw [← hLL] at HOK HBD h42 HAT HC1 HLN HIM HFD HTU HTP HL7 ⊢
  have HLL := Lib.hid hLL
  clear hf hnx htx hLL
  go_enter Tryz.func39, Tryz.ntmps39
  go_wp2_with fail
  refine (HPA.out _).mono ?_
  rintro e wp ⟨Ap, mp, cp, hmp, rfl, hop, hbp⟩
  obtain rfl : LL = mp := by rw [hmp]; exact HLL.out
  have T0 := Lib.hid (ObjS.start hop hbp)
  clear hmm
  clear hmp hop hbp
  go_wp2_with fail
  go_loopw [6, 7, 8, 31] (fun s _ _ kv wr => ∃ (k : Nat) (A1 : Option Addr) (c1 : Nat), k ≤ LL ∧ kv = .int .i64 k ∧ s = .slice A1 k c1 ∧ ObjS w wr w.heap.size k (plc tx k) Ap LL cp (paths n) A1 k c1 (tuL tx nx k)) (fun _ _ _ kv _ => LL - (intOf kv).toNat)
  case atStart => exact ⟨0, _, _, Nat.zero_le _, rfl, rfl, ⟨T0.out.out, T0.out.inp, T0.out.apart, T0.out.map.congr fun z => (plc_0 tx z).symm, T0.out.lo, T0.out.below⟩⟩
  case round =>
    obtain ⟨k, A1, c1, hk, rfl, rfl, ht⟩ := hrel
    obtain ⟨w1, rfl⟩ : ∃ W, W = wr := ⟨wr, rfl⟩
    have T := Lib.hid ht
    have hs := ht.below.size
    by_cases hlt : k < LL
    · obtain ⟨bl, off, x, hA, hx, hc⟩ := ht.inp.rd.ats hlt
      subst hA
      have hxP : x = P n k := by have h := HAT.out k hlt; rw [hx] at h; injection h
      subst hxP
      have hj := HBD.out k hlt
      have HST := Lib.hid (fun z => plc_step HOK.out hlt z)
      have HTL := Lib.hid (tuL_step tx nx k)
      have l1 := HOK.out.short k hlt
      have l2 := HOK.out.short _ hj
      have HSH := Lib.hid l1
      obtain ⟨j, hjd⟩ : ∃ j, j = nx.getD k 0 := ⟨_, rfl⟩
      rw [← hjd] at hj l2 HTL
      have HJ := Lib.hid hjd
      clear hx ht hjd
      have hd7 := HL7.out k hlt
      have hd8 := HL7.out j hj
      go_wp2_with fail
      refine (HC1.out k hlt _).mono ?_
      rintro e w1a ⟨rfl, hb0⟩
      have Ta := Lib.hid (T.out.by_ hb0)
      have hs1 := hb0.size
      clear hb0
      go_wp2_with fail
      refine (HLN.out k hlt _).mono ?_
      rintro e w2 ⟨B1, q1, d1, vs1, hq1, hqd1, -, rfl, hr1, hb1⟩
      have R1 := Lib.hid hr1
      have T2 := Lib.hid (Ta.out.by_ hb1)
      have hs2 := hb1.size
      have hq1' : q1 ≤ 7 := by omega
      clear hq1 hr1 hb1
      go_wp2_with fail
      refine (HTP.out k hlt _ q1 d1 vs1 w2 R1.out hqd1).mono ?_
      rintro e w3a ⟨B2, q2, d2, vs2, hq2, hqd2, -, rfl, hr2, hb2⟩
      rw [HTU.out k hlt, ← HJ.out] at hq2 hr2
      have R1a := Lib.hid (R1.out.below hb2)
      have R2a := Lib.hid hr2
      have T2a := Lib.hid (T2.out.by_ hb2)
      have hs3a := hb2.size
      have hq2' : q2 ≤ 7 := by omega
      clear hq2 hr2 hb2
      go_wp2_with fail
      refine (implFormatDiagonals_any _ q1 d1 vs1 _ w3a R1a.out (HFD.out k hlt) (by omega)).mono ?_
      rintro e w3 ⟨rfl, hb3⟩
      rw [HTX.out]
      have R3a := Lib.hid (R2a.out.below hb3)
      have T3 := Lib.hid (T2a.out.by_ hb3)
      have hs3 := hb3.size
      clear hb3
      go_wp2_with (refine storeN _ rfl _ _ _ rfl w.heap.size k (plc tx k) rfl T3.out.map (by omega) (tx k) (k : Int) rfl rfl (by unfold maxLen; omega) (by omega) ?_; intro w4 hm4 hg4)
      have T4 := Lib.hid (T3.out.put (hm4.congr HST.out) hg4)
      have R4a := Lib.hid (R3a.out.keptM T3.out.map hg4)
      clear hm4 hg4
      go_wp2_with fail
      refine (implFormatDiagonals_any _ q2 d2 vs2 _ w4 R4a.out (HFD.out j hj) (by omega)).mono ?_
      rintro e w5 ⟨rfl, hb5⟩
      rw [HTX.out]
      have T5 := Lib.hid (T4.out.by_ hb5)
      have hs5 := T5.out.below.size
      clear hb5
      go_wp2_with (at_builtin; refine appSL _ rfl _ _ rfl w.heap.size A1 k c1 _ rfl (T5.out.out.alloc _) w5.heap.size (bs (tx j)) rfl (by simp) (by omega) (by omega) ?_; intro g6 c6 w6 hown6 hgr6 hb6 hat6)
      have T6 := Lib.hid (T5.out.grow hown6 hgr6 hb6 hat6)
      clear hown6 hgr6 hb6 hat6
      go_wp2_with fail
      go_roundw
      case rel => exact ⟨k + 1, _, c6, by omega, by go_num, rfl, by rw [HTL.out]; exact T6.out⟩
      case measure => simp [intOf]; omega
    · obtain rfl : k = LL := by omega
      have HM := Lib.hid ht
      clear ht
      go_wp2_with fail
      obtain ⟨w2, rfl⟩ : ∃ W, W = w1 := ⟨w1, rfl⟩
      have hs2 := HM.out.below.size
      go_loopw [23, 25, 109] (fun s _ iv' wr => ∃ (i : Nat) (A2 : Option Addr) (c2 : Nat), i ≤ k ∧ iv' = .int .i64 i ∧ s = .slice A2 i c2 ∧ Own wr 3 w2.heap.size A2 i c2 (iv (plL nx i)) ∧ Below w2.heap.size w2 wr) (fun _ _ iv' _ => k - (intOf iv').toNat)
      case atStart => exact ⟨0, _, _, Nat.zero_le _, rfl, rfl, own_empty w2, (Below.refl _ _).alloc (Nat.le_refl _) _⟩
      case round =>
        obtain ⟨i, A2, c2, hi, rfl, rfl, ho, hbz⟩ := hrel
        have O := Lib.hid ho
        have hsz := hbz.size
        clear ho
        by_cases hli : i < k
        · obtain ⟨bl, off, x, hA, hx, hc⟩ := (HM.out.out.rd.below hbz).ats hli
          subst hA
          obtain ⟨hxt, _⟩ := tuL_at tx nx hx
          have hjj := HBD.out i hli
          have hlook := (HM.out.map.below hbz).look x (by rw [hxt]; have := HOK.out.short _ hjj; unfold maxLen; omega)
          rw [show plc tx k x = some ((nx.getD i 0 : Nat) : Int) by rw [hxt]; exact plc_at HOK.out (Nat.le_refl _) hjj] at hlook
          have HS := Lib.hid (plL_step nx i)
          obtain ⟨J, hJ⟩ : ∃ J, J = nx.getD i 0 := ⟨_, rfl⟩
          rw [← hJ] at hlook HS hjj
          rw [Option.getD_some] at hlook
          clear hx hxt hJ
          go_wp2_with (at_builtin; refine appI _ rfl _ _ rfl w2.heap.size A2 i c2 _ rfl (O.out.alloc _) wr.heap.size (J : Int) rfl (by simp) (by omega) hsz ?_; intro A' c' w3 hown' hg' hb')
          have O3 := Lib.hid hown'
          have hb5 := (hbz.alloc hsz _).trans hb'
          clear hown' hg' hb' hlook
          go_wp2_with fail
          go_roundw
          case rel => exact ⟨i + 1, A', c', by omega, by go_num, rfl, by rw [HS.out, iv_snoc]; exact O3.out, hb5⟩
          case measure => simp [intOf]; omega
        · obtain rfl : i = k := by omega
          have HL := Lib.hid (show i = (plL nx i).length from (plL_len nx i).symm)
          go_wp2_with fail
          go_ret
          exact ⟨A2, i, c2, HL.out, rfl, O.out.mono hs2, HM.out.below.trans (hbz.mono hs2)⟩

end Go.Proofs.YtghfhkbncjgaeaaGreat
