/- impl.OrbitSizes. -/
import Derived.Test.YtghfhkbncjgaeaaGreatOrbL
import Derived.Test.YtghfhkbncjgaeaaGreatMg41
import Derived.Test.YtghfhkbncjgaeaaGreatMg5
namespace Go.Proofs.YtghfhkbncjgaeaaGreat
set_option linter.unusedVariables false
open Go.RowKit

theorem info_bool : (Tryz.prog.info? 4).map (fun i => (i.zero, i.size, i.bytes)) = some (some (.bool false), 1, 1) := by kernel_rfl
/-- make([]bool, n). -/
theorem mkBl (n : Nat) (hn : n ≤ 1000000000) (w : World) : (Instr.makeSlice 50 (.int .i64 (n : Int)) (.int .i64 (n : Int))).run Tryz.prog w = .ok (.slice (some ⟨w.heap.size, 0, none⟩) n n) (w.alloc (.cells (madeCells #[.bool false] n) 4)) :=
  run_make_row' (P := Tryz.prog) 50 4 (.bool false) 1 Tryz.underlying50 info_bool rfl .i64 .i64 n (by omega) (by omega) w
/-- The sizes, the places that the turns lead to, the flags. -/
structure OrI (w0 wr : World) (A : Option Addr) (k c : Nat) (o : List Int) (An : Option Addr) (m cn : Nat) (nx : List Nat) (g2 : Nat) (v : List Nat) : Prop where
  out : Own wr 3 w0.heap.size A k c (iv o)
  inp : Own wr 3 w0.heap.size An m cn (iv (plL nx m))
  sn : Own wr 4 w0.heap.size (some ⟨g2, 0, none⟩) m m (bvis m v)
  apart : ∀ g : Nat, An = some ⟨g, 0, none⟩ → Value.ownBlock (.slice A k c) ≠ some g
  lo : w0.heap.size ≤ g2
  below : Below w0.heap.size w0 wr
section
variable {w0 wr w' : World} {A An : Option Addr} {k c m cn g2 : Nat} {o : List Int} {nx v : List Nat}
theorem OrI.put {a : Nat} (h : OrI w0 wr A k c o An m cn nx g2 v) (ha : a < m) : OrI w0 (wr.setCell ⟨g2, a, none⟩ (.bool true)) A k c o An m cn nx g2 (v ++ [a]) where
  out := h.out.set_far (fun g hA => by subst hA; exact own_ne h.out h.sn (by decide)) _
  inp := h.inp.set_far (fun g hA => by subst hA; exact own_ne h.inp h.sn (by decide)) _
  sn := by rw [← bvis_set v ha]; exact h.sn.set_ a _
  apart := h.apart
  lo := h.lo
  below := h.below.setCell (p := ⟨g2, a, none⟩) h.lo _
theorem OrI.grow {g' c' : Nat} {x : Int} (ow : Obj) (h : OrI w0 wr A k c o An m cn nx g2 v) (ho : Own w' 3 w0.heap.size (some ⟨g', 0, none⟩) (k + 1) c' (iv o ++ [.int .i64 x])) (hg : (wr.alloc ow).grownBy w' (Value.ownBlock (.slice A k c))) (hb : Below w0.heap.size (wr.alloc ow) w')
    (hat : Value.ownBlock (.slice A k c) = some g' ∨ g' = (wr.alloc ow).heap.size) : OrI w0 w' (some ⟨g', 0, none⟩) (k + 1) c' (o ++ [x]) An m cn nx g2 v where
  out := by rw [iv_snoc]; exact ho
  inp := (h.inp.alloc _).grown hg (fun g hA => h.apart g hA)
  sn := (h.out.alloc ow).otherN (h.sn.alloc ow) (by decide) hg
  apart g hA he := by
    have e : g' = g := by simpa [Value.ownBlock] using he
    subst e
    rcases hat with hat | hat
    · exact h.apart g' hA hat
    · have := (h.inp.blk g' (by rw [hA]; rfl)).2
      simp at hat
      omega
  lo := h.lo
  below := (h.below.alloc h.below.size _).trans hb
theorem OrI.start {w w1 : World} (ho : Own w1 3 (w.alloc (.cells #[] 3)).heap.size An m cn (iv (plL nx m))) (hb : Below (w.alloc (.cells #[] 3)).heap.size (w.alloc (.cells #[] 3)) w1) (hm : m ≤ 1000000) :
    OrI w (w1.alloc (.cells (madeCells #[.bool false] m) 4)) (some ⟨w.heap.size, 0, none⟩) 0 0 [] An m cn nx w1.heap.size [] where
  out := ((own_empty w).below hb).alloc _
  inp := (ho.mono (by simp)).alloc _
  sn := by
    rw [← bvis_nil]
    have h1 := hb.size
    simp at h1
    exact (Own.made w1 4 (.bool false) m (by unfold maxLen; omega)).mono (by omega)
  apart := by
    intro g hg he
    have h1 := (ho.blk g (by rw [hg]; rfl)).1
    simp [Value.ownBlock] at h1 he
    omega
  lo := by have h1 := hb.size; simp at h1; omega
  below := by
    have h1 := hb.size
    simp at h1
    exact (((Below.refl w.heap.size w).alloc (Nat.le_refl _) _).trans (hb.mono (by simp))).alloc (by omega) _
end

set_option maxRecDepth 20000 in
set_option maxHeartbeats 4000000 in
theorem implOrbitSizes_any (f : List UInt8) (n : Int) (w : World) : Calls Tryz.prog 12 #[.string (bs f), .int .i64 n] w (RetIB w (orbT f n).1 (orbT f n).2) := by
  unfold RetIB
  rcases ordT_cases f n with h1 | ⟨N, rfl, hN1, hN5, hf, ho, ho1, ho2⟩
  · have HO := Lib.hid h1
    rw [orbT_no h1]
    clear h1
    go_enter Tryz.func12, Tryz.ntmps12
    go_wp2_with fail
    refine (implOrderOfTurn_any _ _ _).mono ?_
    rintro e w' ⟨rfl, rfl⟩
    rw [HO.out]
    go_wp2_with fail
    go_ret2
    exact ⟨_, 0, 0, rfl, rfl, own_empty w, (Below.refl _ _).alloc (Nat.le_refl _) _⟩
  obtain ⟨R, hR⟩ := orb_ok hf hN5
  have hres : orbT f N = (R.2, true) := by unfold orbT; rw [if_neg (by omega), Int.toNat_natCast, hR]; rfl
  rw [hres]
  obtain ⟨od, hod⟩ : ∃ od, od = ordN f N := ⟨_, rfl⟩
  rw [← hod] at ho ho1 ho2
  have HO := Lib.hid ho
  have n1 : ¬ (od : Int) < 0 := by omega
  have HOB := Lib.hid (fun w => objects_any hf hN1 hN5 w)
  have HBD := Lib.hid (fun i (hi : i < (paths N).length) => bd_lt (nxT_bd hf hN5) hi)
  have h42 := paths_5 hN5
  obtain ⟨nx, hnx⟩ : ∃ nx, nx = nxT f N := ⟨_, rfl⟩
  obtain ⟨LL, hLL⟩ : ∃ L, L = (paths N).length := ⟨_, rfl⟩
  rw [← hnx] at HOB HBD hR
  rw [← hLL] at HOB HBD h42 hR
  have HR := Lib.hid hR
  clear ho hf hnx hLL hod hres hR
  go_enter Tryz.func12, Tryz.ntmps12
  go_wp2_with fail
  refine (implOrderOfTurn_any _ _ _).mono ?_
  rintro e w' ⟨rfl, rfl⟩
  rw [HO.out]
  go_wp2_with fail
  refine (HOB.out _).mono ?_
  rintro e w1 ⟨An, m, cn, hm, rfl, hown, hb1⟩
  obtain rfl : m = LL := by rw [hm, plL_len]
  have T0 := Lib.hid (OrI.start hown hb1 (by omega))
  have hmk := mkBl m (by omega) w1
  clear hm hown hb1
  go_wp2_with fail
  clear hmk
  obtain ⟨g2, hg2⟩ : ∃ g, g = w1.heap.size := ⟨_, rfl⟩
  rw [← hg2] at T0 ⊢
  clear hg2
  go_loopw [6, 9, 10, 11, 26] (fun s _ _ _ kv wr => ∃ (i k : Nat) (A : Option Addr) (c : Nat) (o : List Int) (v : List Nat), i ≤ m ∧ kv = .int .i64 i ∧ s = .slice A k c ∧ k ≤ i ∧ orb nx i = some (v, o) ∧ OrI w wr A k c o An m cn nx g2 v) (fun _ _ _ _ kv _ => m - (intOf kv).toNat)
  case atStart => exact ⟨0, 0, _, _, [], [], Nat.zero_le _, rfl, rfl, Nat.zero_le _, rfl, T0.out⟩
  case round =>
    obtain ⟨i, k, A, c, o, v, hi, rfl, rfl, hki, hv, ht⟩ := hrel
    by_cases hlt : i < m
    · obtain ⟨v', S, hin, hnext⟩ := orb_step HR.out hlt hv
      have HN := Lib.hid hnext
      have T := Lib.hid ht
      have HI := Lib.hid hin
      clear ht hin hnext hv
      go_wp2_with fail
      go_loopw [10, 11] (fun sv av wz => ∃ (s a : Nat) (u : List Nat), sv = .int .i64 s ∧ av = .int .i64 a ∧ s ≤ 50 ∧ a < m ∧ inn nx (50 - s) u a s = some (v', S) ∧ OrI w wz A k c o An m cn nx g2 u) (fun sv _ _ => 50 - (intOf sv).toNat)
      case atStart => exact ⟨0, i, v, rfl, rfl, by omega, hlt, HI.out, T.out⟩
      case round =>
        obtain ⟨s, a, u, rfl, rfl, hs50, ha, hinn, hz⟩ := hrel
        have Z := Lib.hid hz
        have hc0 := bvis_at u ha
        obtain ⟨g, y, hgA, hgB, hgs, hy, hc, hf⟩ := hz.sn.at_ ha
        cases hgA
        rw [hc0] at hy
        injection hy with hy
        subst hy
        by_cases hau : a ∈ u
        · have hq := inn_stop hinn hau
          injection hq with hq1 hq2
          subst hq1 hq2
          rw [decide_eq_true hau] at hc
          clear hinn hz hau hc0 hf
          by_cases hS : S = 0
          · subst hS
            go_wp2_with fail
            go_roundw
            case rel => exact ⟨i + 1, k, A, c, o, v', by omega, by go_num, rfl, by omega, by rw [HN.out]; rfl, Z.out⟩
            case measure => simp [intOf]; omega
          · have hS1 : (0 : Int) < (S : Int) := by omega
            go_wp2_with (at_builtin; refine appIL _ rfl _ _ rfl w.heap.size A k c _ rfl (Z.out.out.alloc _) _ (S : Int) rfl (by simp) (by omega) Z.out.below.size ?_; intro g6 c6 w6 hown6 hgr6 hb6 hat6)
            have T6 := Lib.hid (Z.out.grow _ hown6 hgr6 hb6 hat6)
            clear hown6 hgr6 hb6 hat6
            go_wp2_with fail
            go_roundw
            case rel => exact ⟨i + 1, k + 1, _, c6, _, v', by omega, by go_num, rfl, by omega, by rw [HN.out, if_neg hS], T6.out⟩
            case measure => simp [intOf]; omega
        · obtain ⟨hs, hstep⟩ := inn_go hinn hau
          rw [decide_eq_false hau] at hc
          have Z2 := Lib.hid (hz.put ha)
          obtain ⟨g3, y3, hA3, -, -, hy3, hc3⟩ := Z2.out.inp.ati ha
          have hx3 := plL_at nx hy3
          subst hA3 hx3
          have hJ := HBD.out a ha
          have HST := Lib.hid hstep
          obtain ⟨J, hJd⟩ : ∃ J, J = nx.getD a 0 := ⟨_, rfl⟩
          rw [← hJd] at hJ hc3 HST
          clear hinn hz hau hc0 hstep hy3 hJd
          go_wp2_with fail
          go_roundw
          case rel => exact ⟨s + 1, J, _, by go_num, rfl, by omega, hJ, HST.out, Z2.out⟩
          case measure => simp [intOf]; omega
    · obtain rfl : i = m := by omega
      have hr := HR.out
      rw [hv] at hr
      injection hr with hr
      have HL := Lib.hid (show k = R.2.length by have := ht.out.len; rw [iv_len] at this; rw [← hr]; exact this.symm)
      have T := Lib.hid ht
      have HE := Lib.hid (show o = R.2 by rw [← hr])
      clear ht hv hr
      go_wp2_with fail
      go_ret2
      exact ⟨A, k, c, HL.out, rfl, by rw [← HE.out]; exact T.out.out, T.out.below⟩

end Go.Proofs.YtghfhkbncjgaeaaGreat
