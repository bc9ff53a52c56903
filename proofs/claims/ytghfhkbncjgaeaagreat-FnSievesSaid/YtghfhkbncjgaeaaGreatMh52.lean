/- Merged: OrbL OrbI OrbS SvL SvI CatI Tot SvP Draw Draw2. -/
import Derived.Test.YtghfhkbncjgaeaaGreatMg18
import Derived.Test.YtghfhkbncjgaeaaGreatMg41
import Derived.Test.YtghfhkbncjgaeaaGreatMg5
import Derived.Test.YtghfhkbncjgaeaaGreatMg30
import Derived.Test.YtghfhkbncjgaeaaGreatMg48
import Derived.Test.YtghfhkbncjgaeaaGreatMg50
import Derived.Test.YtghfhkbncjgaeaaGreatMg49
import Derived.Test.YtghfhkbncjgaeaaGreatMg51
import Derived.BigQuiet
import Derived.Test.YtghfhkbncjgaeaaGreatMg3
import Derived.StillTailTactics
import Derived.Laws.BitsAllLaws
import Derived.Test.YtghfhkbncjgaeaaGreatMg8
import Derived.Test.YtghfhkbncjgaeaaGreatMg1

namespace Go.Proofs.YtghfhkbncjgaeaaGreat
set_option linter.unusedVariables false
open Go.RowKit

/-- One orbit: what was seen before, where the turn stands, how many were new. -/
def inn (nx : List Nat) : Nat → List Nat → Nat → Nat → Option (List Nat × Nat)
  | 0, _, _, _ => none
  | F + 1, v, a, s => if a ∈ v then some (v, s) else inn nx F (v ++ [a]) (nx.getD a 0) (s + 1)
def orb (nx : List Nat) : Nat → Option (List Nat × List Int)
  | 0 => some ([], [])
  | k + 1 => (orb nx k).bind fun p => (inn nx 50 p.1 k 0).map fun q => (q.1, if q.2 = 0 then p.2 else p.2 ++ [(q.2 : Int)])
def orbB (n : Nat) (nx : List Nat) : Bool := (orb nx (paths n).length).isSome
theorem orb_all : ((List.range 6).all fun n => orbB n (nxMs.getD n []) && (orbB n (nxPs.getD n []) && orbB n (nxTs.getD n []))) = true := by decide +kernel
theorem orb_ok {f : List UInt8} (hf : famB f) {n : Nat} (hn : n ≤ 5) : ∃ R, orb (nxT f n) (paths n).length = some R := by
  have := List.all_eq_true.1 orb_all n (List.mem_range.2 (by omega))
  rw [Bool.and_eq_true, Bool.and_eq_true] at this
  rw [← Option.isSome_iff_exists]
  rcases hf with rfl | rfl | rfl
  · rw [nxT_M]; exact this.1
  · rw [nxT_P]; exact this.2.1
  · rw [nxT_T]; exact this.2.2
theorem orb_pre {nx : List Nat} : ∀ {m k : Nat} {R : List Nat × List Int}, orb nx m = some R → k ≤ m → ∃ r, orb nx k = some r
  | 0, k, R, h, hk => ⟨R, by rw [show k = 0 by omega]; exact h⟩
  | m + 1, k, R, h, hk => by
    by_cases he : k = m + 1
    · rw [he]; exact ⟨R, h⟩
    · rw [orb, Option.bind_eq_some_iff] at h
      obtain ⟨p, hp, _⟩ := h
      exact orb_pre hp (by omega)
theorem orb_step {nx : List Nat} {m k : Nat} {R : List Nat × List Int} (h : orb nx m = some R) (hk : k < m) {v : List Nat} {o : List Int} (hv : orb nx k = some (v, o)) :
    ∃ v' s, inn nx 50 v k 0 = some (v', s) ∧ orb nx (k + 1) = some (v', if s = 0 then o else o ++ [(s : Int)]) := by
  obtain ⟨r, hr⟩ := orb_pre h (show k + 1 ≤ m by omega)
  have h2 := hr
  rw [orb, hv, Option.bind_some, Option.map_eq_some_iff] at h2
  obtain ⟨⟨v', s⟩, h3, h4⟩ := h2
  exact ⟨v', s, h3, by rw [hr, ← h4]⟩
theorem inn_stop {nx : List Nat} {F : Nat} {v : List Nat} {a s : Nat} {R : List Nat × Nat} (h : inn nx F v a s = some R) (ha : a ∈ v) : R = (v, s) := by
  cases F with
  | zero => cases h
  | succ F => rw [inn, if_pos ha] at h; injection h with h; exact h.symm
theorem inn_go {nx : List Nat} {s : Nat} {v : List Nat} {a : Nat} {R : List Nat × Nat} (h : inn nx (50 - s) v a s = some R) (ha : a ∉ v) : s < 50 ∧ inn nx (50 - (s + 1)) (v ++ [a]) (nx.getD a 0) (s + 1) = some R := by
  rcases hF : 50 - s with _ | F
  · rw [hF] at h; cases h
  · rw [hF, inn, if_neg ha] at h
    exact ⟨by omega, by rw [show 50 - (s + 1) = F by omega]; exact h⟩
theorem inn_zero {nx : List Nat} {F : Nat} {v v' : List Nat} {a : Nat} (h : inn nx (F + 1) v a 0 = some (v', 0)) : a ∈ v := by
  by_cases ha : a ∈ v
  · exact ha
  · rw [inn, if_neg ha] at h
    have : ∀ (F : Nat) (v : List Nat) (a s : Nat) (R : List Nat × Nat), inn nx F v a s = some R → s ≤ R.2 := by
      intro F
      induction F with
      | zero => intro v a s R h; cases h
      | succ F ih =>
        intro v a s R h
        rw [inn] at h
        split at h
        · injection h with h; rw [← h]; exact Nat.le_refl _
        · have := ih _ _ _ _ h; omega
    have := this _ _ _ _ _ h
    simp at this
/-- What was seen, as flags. -/
def bvis (m : Nat) (v : List Nat) : List Value := (List.range m).map fun j => .bool (decide (j ∈ v))
theorem bvis_len (m : Nat) (v : List Nat) : (bvis m v).length = m := by simp [bvis]
theorem bvis_nil (m : Nat) : List.replicate m (Value.bool false) = bvis m [] := by
  unfold bvis
  apply List.ext_getElem?
  intro i
  simp [List.getElem?_replicate]
  by_cases h : i < m <;> simp [h]
theorem bvis_at {m a : Nat} (v : List Nat) (h : a < m) : (bvis m v)[a]? = some (.bool (decide (a ∈ v))) := by
  unfold bvis
  rw [List.getElem?_map, List.getElem?_range h]; rfl
theorem bvis_set {m a : Nat} (v : List Nat) (h : a < m) : (bvis m v).set a (.bool true) = bvis m (v ++ [a]) := by
  apply List.ext_getElem?
  intro i
  by_cases hi : i < m
  · rw [List.getElem?_set, bvis_at _ hi, bvis_at _ hi, bvis_len]
    by_cases e : a = i
    · rw [if_pos e, if_pos h, e]; simp
    · rw [if_neg e]; congr 2; simp [show ¬ i = a from fun x => e x.symm]
  · rw [List.getElem?_eq_none (by simp [bvis_len]; omega), List.getElem?_eq_none (by simp [bvis_len]; omega)]
/-- The orbit sizes that both sides hand back. -/
def orbT (f : List UInt8) (n : Int) : List Int × Bool := if ordT f n < 0 then ([], false) else (((orb (nxT f n.toNat) (paths n.toNat).length).getD ([], [])).2, true)
theorem orbT_no {f : List UInt8} {n : Int} (h : ordT f n = -1) : orbT f n = ([], false) := by unfold orbT; rw [h]; rfl
theorem orb_len {nx : List Nat} : ∀ {k : Nat} {R : List Nat × List Int}, orb nx k = some R → R.2.length ≤ k
  | 0, R, h => by rw [orb] at h; injection h with h; rw [← h]; exact Nat.le_refl _
  | k + 1, R, h => by
    rw [orb, Option.bind_eq_some_iff] at h
    obtain ⟨p, hp, h2⟩ := h
    rw [Option.map_eq_some_iff] at h2
    obtain ⟨q, _, rfl⟩ := h2
    have := orb_len hp
    show (if q.2 = 0 then p.2 else p.2 ++ [(q.2 : Int)]).length ≤ k + 1
    split
    · omega
    · rw [List.length_append]; simpa using this
theorem orbT_len (f : List UInt8) (n : Int) : (orbT f n).1.length ≤ 1048576 := by
  rcases ordT_cases f n with h1 | ⟨N, rfl, hN1, hN5, hf, ho, ho1, ho2⟩
  · rw [orbT_no h1]; exact Nat.zero_le _
  · obtain ⟨R, hR⟩ := orb_ok hf hN5
    have := orb_len hR
    have h42 := paths_5 hN5
    unfold orbT
    rw [if_neg (by omega), Int.toNat_natCast, hR]
    show R.2.length ≤ 1048576
    omega
/-- Whether a text lies in a list. -/
def hasT (l : List (List UInt8)) (x : List UInt8) : Bool := l.contains x
theorem hasT_no {l : List (List UInt8)} {x : List UInt8} (h : ∀ j, j < l.length → (l.getD j [] == x) = false) : hasT l x = false := by
  unfold hasT
  rw [List.contains_eq_any_beq, List.any_eq_false]
  intro y hy
  obtain ⟨j, hj, rfl⟩ := List.mem_iff_getElem.1 hy
  have := h j hj
  rw [List.getD_eq_getElem?_getD, List.getElem?_eq_getElem hj] at this
  simp at this ⊢
  exact fun e => this e.symm
theorem hasT_yes {l : List (List UInt8)} {x : List UInt8} {j : Nat} (h : l[j]? = some x) : hasT l x = true := by
  unfold hasT
  rw [List.contains_iff_mem]
  exact List.mem_of_getElem? h
theorem hasT_P {n : Nat} (hn : n ≤ 5) {v : List Nat} {a : Nat} (hv : ∀ j ∈ v, j < (paths n).length) (ha : a < (paths n).length) : hasT (v.map (P n)) (P n a) = decide (a ∈ v) := by
  by_cases h : a ∈ v
  · rw [decide_eq_true h]
    unfold hasT
    rw [List.contains_iff_mem]
    exact List.mem_map.2 ⟨a, h, rfl⟩
  · rw [decide_eq_false h]
    unfold hasT
    rw [← Bool.not_eq_true, List.contains_iff_mem, List.mem_map]
    rintro ⟨j, hj, e⟩
    have := (P_ok2 hn).inj (hv j hj) ha e
    subst this
    exact h hj

end Go.Proofs.YtghfhkbncjgaeaaGreat

namespace Go.Proofs.YtghfhkbncjgaeaaGreat
set_option linter.unusedVariables false
open Go.RowKit

theorem info_bool : (Tryz.prog.info? 4).map (fun i => (i.zero, i.size, i.bytes)) = some (some (.bool false), 1, 1) := by kernel_rfl
/-- make([]bool, n). -/
theorem mkBl (n : Nat) (hn : n ≤ 1000000000) (w : World) : (Instr.makeSlice 50 (.int .i64 (n : Int)) (.int .i64 (n : Int))).run Tryz.prog w = .ok (.slice (some ⟨w.heap.size, 0, none⟩) n n) (w.alloc (.cells (madeCells #[.bool false] n) 4)) :=
  run_make_row' (P := Tryz.prog) 50 4 (.bool false) 1 Tryz.underlying50 info_bool rfl .i64 .i64 n (by omega) (by omega) w
/-- The sizes, the places that the turns lead to, the flags. -/
structure OrI (w0 wr : World) (A : Option Addr) (k c : Nat) (o : List Int) (An : Option Addr) (m cn : Nat) (nx : List Nat) (g2 : Nat) (v : List Nat) : Prop where
  out : Own wr 3 w0.heap.size A k c (iv o)
  inp : Own wr 3 w0.heap.size An m cn (iv (plL nx m))
  sn : Own wr 4 w0.heap.size (some ⟨g2, 0, none⟩) m m (bvis m v)
  apart : ∀ g : Nat, An = some ⟨g, 0, none⟩ → Value.ownBlock (.slice A k c) ≠ some g
  lo : w0.heap.size ≤ g2
  below : Below w0.heap.size w0 wr
section
variable {w0 wr w' : World} {A An : Option Addr} {k c m cn g2 : Nat} {o : List Int} {nx v : List Nat}
theorem OrI.put {a : Nat} (h : OrI w0 wr A k c o An m cn nx g2 v) (ha : a < m) : OrI w0 (wr.setCell ⟨g2, a, none⟩ (.bool true)) A k c o An m cn nx g2 (v ++ [a]) where
  out := h.out.set_far (fun g hA => by subst hA; exact own_ne h.out h.sn (by decide)) _
  inp := h.inp.set_far (fun g hA => by subst hA; exact own_ne h.inp h.sn (by decide)) _
  sn := by rw [← bvis_set v ha]; exact h.sn.set_ a _
  apart := h.apart
  lo := h.lo
  below := h.below.setCell (p := ⟨g2, a, none⟩) h.lo _
theorem OrI.grow {g' c' : Nat} {x : Int} (ow : Obj) (h : OrI w0 wr A k c o An m cn nx g2 v) (ho : Own w' 3 w0.heap.size (some ⟨g', 0, none⟩) (k + 1) c' (iv o ++ [.int .i64 x])) (hg : (wr.alloc ow).grownBy w' (Value.ownBlock (.slice A k c))) (hb : Below w0.heap.size (wr.alloc ow) w')
    (hat : Value.ownBlock (.slice A k c) = some g' ∨ g' = (wr.alloc ow).heap.size) : OrI w0 w' (some ⟨g', 0, none⟩) (k + 1) c' (o ++ [x]) An m cn nx g2 v where
  out := by rw [iv_snoc]; exact ho
  inp := (h.inp.alloc _).grown hg (fun g hA => h.apart g hA)
  sn := (h.out.alloc ow).otherN (h.sn.alloc ow) (by decide) hg
  apart g hA he := by
    have e : g' = g := by simpa [Value.ownBlock] using he
    subst e
    rcases hat with hat | hat
    · exact h.apart g' hA hat
    · have := (h.inp.blk g' (by rw [hA]; rfl)).2
      simp at hat
      omega
  lo := h.lo
  below := (h.below.alloc h.below.size _).trans hb
theorem OrI.start {w w1 : World} (ho : Own w1 3 (w.alloc (.cells #[] 3)).heap.size An m cn (iv (plL nx m))) (hb : Below (w.alloc (.cells #[] 3)).heap.size (w.alloc (.cells #[] 3)) w1) (hm : m ≤ 1000000) :
    OrI w (w1.alloc (.cells (madeCells #[.bool false] m) 4)) (some ⟨w.heap.size, 0, none⟩) 0 0 [] An m cn nx w1.heap.size [] where
  out := ((own_empty w).below hb).alloc _
  inp := (ho.mono (by simp)).alloc _
  sn := by
    rw [← bvis_nil]
    have h1 := hb.size
    simp at h1
    exact (Own.made w1 4 (.bool false) m (by unfold maxLen; omega)).mono (by omega)
  apart := by
    intro g hg he
    have h1 := (ho.blk g (by rw [hg]; rfl)).1
    simp [Value.ownBlock] at h1 he
    omega
  lo := by have h1 := hb.size; simp at h1; omega
  below := by
    have h1 := hb.size
    simp at h1
    exact (((Below.refl w.heap.size w).alloc (Nat.le_refl _) _).trans (hb.mono (by simp))).alloc (by omega) _
end

set_option maxRecDepth 20000 in
set_option maxHeartbeats 4000000 in
theorem implOrbitSizes_any (f : List UInt8) (n : Int) (w : World) : Calls Tryz.prog 12 #[.string (bs f), .int .i64 n] w (RetIB w (orbT f n).1 (orbT f n).2) := by
  unfold RetIB
  rcases ordT_cases f n with h1 | ⟨N, rfl, hN1, hN5, hf, ho, ho1, ho2⟩
  · have HO := Lib.hid h1
    rw [orbT_no h1]
    clear h1
    go_enter Tryz.func12, Tryz.ntmps12
    go_wp2_with fail
    refine (implOrderOfTurn_any _ _ _).mono ?_
    rintro e w' ⟨rfl, rfl⟩
    rw [HO.out]
    go_wp2_with fail
    go_ret2
    exact ⟨_, 0, 0, rfl, rfl, own_empty w, (Below.refl _ _).alloc (Nat.le_refl _) _⟩
  obtain ⟨R, hR⟩ := orb_ok hf hN5
  have hres : orbT f N = (R.2, true) := by unfold orbT; rw [if_neg (by omega), Int.toNat_natCast, hR]; rfl
  rw [hres]
  obtain ⟨od, hod⟩ : ∃ od, od = ordN f N := ⟨_, rfl⟩
  rw [← hod] at ho ho1 ho2
  have HO := Lib.hid ho
  have n1 : ¬ (od : Int) < 0 := by omega
  have HOB := Lib.hid (fun w => objects_any hf hN1 hN5 w)
  have HBD := Lib.hid (fun i (hi : i < (paths N).length) => bd_lt (nxT_bd hf hN5) hi)
  have h42 := paths_5 hN5
  obtain ⟨nx, hnx⟩ : ∃ nx, nx = nxT f N := ⟨_, rfl⟩
  obtain ⟨LL, hLL⟩ : ∃ L, L = (paths N).length := ⟨_, rfl⟩
  rw [← hnx] at HOB HBD hR
  rw [← hLL] at HOB HBD h42 hR
  have HR := Lib.hid hR
  clear ho hf hnx hLL hod hres hR
  go_enter Tryz.func12, Tryz.ntmps12
  go_wp2_with fail
  refine (implOrderOfTurn_any _ _ _).mono ?_
  rintro e w' ⟨rfl, rfl⟩
  rw [HO.out]
  go_wp2_with fail
  refine (HOB.out _).mono ?_
  rintro e w1 ⟨An, m, cn, hm, rfl, hown, hb1⟩
  obtain rfl : m = LL := by rw [hm, plL_len]
  have T0 := Lib.hid (OrI.start hown hb1 (by omega))
  have hmk := mkBl m (by omega) w1
  clear hm hown hb1
  go_wp2_with fail
  clear hmk
  obtain ⟨g2, hg2⟩ : ∃ g, g = w1.heap.size := ⟨_, rfl⟩
  rw [← hg2] at T0 ⊢
  clear hg2
  go_loopw [6, 9, 10, 11, 26] (fun s _ _ _ kv wr => ∃ (i k : Nat) (A : Option Addr) (c : Nat) (o : List Int) (v : List Nat), i ≤ m ∧ kv = .int .i64 i ∧ s = .slice A k c ∧ k ≤ i ∧ orb nx i = some (v, o) ∧ OrI w wr A k c o An m cn nx g2 v) (fun _ _ _ _ kv _ => m - (intOf kv).toNat)
  case atStart => exact ⟨0, 0, _, _, [], [], Nat.zero_le _, rfl, rfl, Nat.zero_le _, rfl, T0.out⟩
  case round =>
    obtain ⟨i, k, A, c, o, v, hi, rfl, rfl, hki, hv, ht⟩ := hrel
    by_cases hlt : i < m
    · obtain ⟨v', S, hin, hnext⟩ := orb_step HR.out hlt hv
      have HN := Lib.hid hnext
      have T := Lib.hid ht
      have HI := Lib.hid hin
      clear ht hin hnext hv
      go_wp2_with fail
      go_loopw [10, 11] (fun sv av wz => ∃ (s a : Nat) (u : List Nat), sv = .int .i64 s ∧ av = .int .i64 a ∧ s ≤ 50 ∧ a < m ∧ inn nx (50 - s) u a s = some (v', S) ∧ OrI w wz A k c o An m cn nx g2 u) (fun sv _ _ => 50 - (intOf sv).toNat)
      case atStart => exact ⟨0, i, v, rfl, rfl, by omega, hlt, HI.out, T.out⟩
      case round =>
        obtain ⟨s, a, u, rfl, rfl, hs50, ha, hinn, hz⟩ := hrel
        have Z := Lib.hid hz
        have hc0 := bvis_at u ha
        obtain ⟨g, y, hgA, hgB, hgs, hy, hc, hf⟩ := hz.sn.at_ ha
        cases hgA
        rw [hc0] at hy
        injection hy with hy
        subst hy
        by_cases hau : a ∈ u
        · have hq := inn_stop hinn hau
          injection hq with hq1 hq2
          subst hq1 hq2
          rw [decide_eq_true hau] at hc
          clear hinn hz hau hc0 hf
          by_cases hS : S = 0
          · subst hS
            go_wp2_with fail
            go_roundw
            case rel => exact ⟨i + 1, k, A, c, o, v', by omega, by go_num, rfl, by omega, by rw [HN.out]; rfl, Z.out⟩
            case measure => simp [intOf]; omega
          · have hS1 : (0 : Int) < (S : Int) := by omega
            go_wp2_with (at_builtin; refine appIL _ rfl _ _ rfl w.heap.size A k c _ rfl (Z.out.out.alloc _) _ (S : Int) rfl (by simp) (by omega) Z.out.below.size ?_; intro g6 c6 w6 hown6 hgr6 hb6 hat6)
            have T6 := Lib.hid (Z.out.grow _ hown6 hgr6 hb6 hat6)
            clear hown6 hgr6 hb6 hat6
            go_wp2_with fail
            go_roundw
            case rel => exact ⟨i + 1, k + 1, _, c6, _, v', by omega, by go_num, rfl, by omega, by rw [HN.out, if_neg hS], T6.out⟩
            case measure => simp [intOf]; omega
        · obtain ⟨hs, hstep⟩ := inn_go hinn hau
          rw [decide_eq_false hau] at hc
          have Z2 := Lib.hid (hz.put ha)
          obtain ⟨g3, y3, hA3, -, -, hy3, hc3⟩ := Z2.out.inp.ati ha
          have hx3 := plL_at nx hy3
          subst hA3 hx3
          have hJ := HBD.out a ha
          have HST := Lib.hid hstep
          obtain ⟨J, hJd⟩ : ∃ J, J = nx.getD a 0 := ⟨_, rfl⟩
          rw [← hJd] at hJ hc3 HST
          clear hinn hz hau hc0 hstep hy3 hJd
          go_wp2_with fail
          go_roundw
          case rel => exact ⟨s + 1, J, _, by go_num, rfl, by omega, hJ, HST.out, Z2.out⟩
          case measure => simp [intOf]; omega
    · obtain rfl : i = m := by omega
      have hr := HR.out
      rw [hv] at hr
      injection hr with hr
      have HL := Lib.hid (show k = R.2.length by have := ht.out.len; rw [iv_len] at this; rw [← hr]; exact this.symm)
      have T := Lib.hid ht
      have HE := Lib.hid (show o = R.2 by rw [← hr])
      clear ht hv hr
      go_wp2_with fail
      go_ret2
      exact ⟨A, k, c, HL.out, rfl, by rw [← HE.out]; exact T.out.out, T.out.below⟩

end Go.Proofs.YtghfhkbncjgaeaaGreat

namespace Go.Proofs.YtghfhkbncjgaeaaGreat
set_option linter.unusedVariables false
open Go.RowKit

set_option maxRecDepth 20000 in
set_option maxHeartbeats 2000000 in
theorem l15Has_any (A : Option Addr) (n c : Nat) (l : List (List UInt8)) (x : List UInt8) (w : World) (h : Rd w A n (sv l)) (hn : n ≤ 1000000000) :
    Calls Tryz.prog 41 #[.slice A n c, .string (bs x)] w fun e w' => e = .returned (.bool (hasT l x)) ∧ w = w' := by
  have HR := Lib.hid h
  have HL := Lib.hid (show l.length = n by have := h.len; rw [sv_len] at this; exact this)
  clear h
  go_enter Tryz.func41, Tryz.ntmps41
  go_wp2_with fail
  go_loop [5] (fun ix => ∃ i : Nat, i ≤ n ∧ ix = .int .i64 i ∧ (∀ j, j < i → (l.getD j [] == x) = false)) (fun ix => n - (intOf ix).toNat)
  case atStart => exact ⟨0, Nat.zero_le _, rfl, fun j hj => by omega⟩
  case round =>
    obtain ⟨i, hi, rfl, hok⟩ := hrel
    have HOK := Lib.hid hok
    clear hok
    by_cases hlt : i < n
    · obtain ⟨b, off, y, hA, hy, hc⟩ := HR.out.ats hlt
      subst hA
      have i1 : (0 : Int) ≤ (i : Int) := by omega
      have i2 : (i : Int) < (n : Int) := by omega
      by_cases hyx : y = x
      · have HF := Lib.hid (show hasT l x = true from hasT_yes (j := i) (by rw [← hyx]; exact hy))
        have e1 : (y == x) = true := by rw [beq_iff_eq]; exact hyx
        clear hy hyx
        go_wp2_with fail
        go_ret
        exact ⟨ret_bool (by rw [HF.out]), rfl⟩
      · have e1 : (y == x) = false := by rw [beq_eq_false_iff_ne]; exact hyx
        have HD := Lib.hid (show l.getD i [] = y by rw [List.getD_eq_getElem?_getD, hy]; rfl)
        have E1 := Lib.hid e1
        clear hy hyx
        go_wp2_with fail
        go_round
        case rel => exact ⟨i + 1, by omega, by go_num, fun j hj => by
          rcases Nat.lt_or_ge j i with h1 | h1
          · exact HOK.out j h1
          · obtain rfl : j = i := by omega
            rw [HD.out]; exact E1.out⟩
        case measure => simp [intOf]; omega
    · have HF := Lib.hid (show hasT l x = false from hasT_no fun j hj => HOK.out j (by have := HL.out; omega))
      go_wp2_with fail
      go_ret
      exact ⟨ret_bool (by rw [HF.out]), rfl⟩

/-- The sizes, the paths, those that were seen. -/
structure OrS (w0 wr : World) (A : Option Addr) (k c : Nat) (o : List Int) (Ap : Option Addr) (m cp : Nat) (xs : List (List UInt8)) (A1 : Option Addr) (q c1 : Nat) (ys : List (List UInt8)) : Prop where
  out : Own wr 3 w0.heap.size A k c (iv o)
  inp : Own wr 9 w0.heap.size Ap m cp (sv xs)
  sn : Own wr 9 w0.heap.size A1 q c1 (sv ys)
  apart : ∀ g : Nat, Ap = some ⟨g, 0, none⟩ → Value.ownBlock (.slice A1 q c1) ≠ some g
  below : Below w0.heap.size w0 wr
section
variable {w0 wr w' : World} {A Ap A1 : Option Addr} {k c m cp q c1 : Nat} {o : List Int} {xs ys : List (List UInt8)}
theorem OrS.by_ (h : OrS w0 wr A k c o Ap m cp xs A1 q c1 ys) (hb : Below wr.heap.size wr w') : OrS w0 w' A k c o Ap m cp xs A1 q c1 ys :=
  ⟨h.out.below hb, h.inp.below hb, h.sn.below hb, h.apart, h.below.trans (hb.mono h.below.size)⟩
theorem OrS.grow {g' c' : Nat} {x : Int} (ow : Obj) (h : OrS w0 wr A k c o Ap m cp xs A1 q c1 ys) (ho : Own w' 3 w0.heap.size (some ⟨g', 0, none⟩) (k + 1) c' (iv o ++ [.int .i64 x])) (hg : (wr.alloc ow).grownBy w' (Value.ownBlock (.slice A k c))) (hb : Below w0.heap.size (wr.alloc ow) w') : OrS w0 w' (some ⟨g', 0, none⟩) (k + 1) c' (o ++ [x]) Ap m cp xs A1 q c1 ys where
  out := by rw [iv_snoc]; exact ho
  inp := (h.out.alloc ow).otherN (h.inp.alloc ow) (by decide) hg
  sn := (h.out.alloc ow).otherN (h.sn.alloc ow) (by decide) hg
  apart := h.apart
  below := (h.below.alloc h.below.size _).trans hb
theorem OrS.seen {g' c' : Nat} {x : List UInt8} (ow : Obj) (h : OrS w0 wr A k c o Ap m cp xs A1 q c1 ys) (ho : Own w' 9 w0.heap.size (some ⟨g', 0, none⟩) (q + 1) c' (sv ys ++ [.string (bs x)])) (hg : (wr.alloc ow).grownBy w' (Value.ownBlock (.slice A1 q c1))) (hb : Below w0.heap.size (wr.alloc ow) w')
    (hat : Value.ownBlock (.slice A1 q c1) = some g' ∨ g' = (wr.alloc ow).heap.size) : OrS w0 w' A k c o Ap m cp xs (some ⟨g', 0, none⟩) (q + 1) c' (ys ++ [x]) where
  out := (h.sn.alloc ow).otherN (h.out.alloc ow) (by decide) hg
  inp := (h.inp.alloc _).grown hg (fun g hA => h.apart g hA)
  sn := by rw [sv_snoc]; exact ho
  apart g hA he := by
    have e : g' = g := by simpa [Value.ownBlock] using he
    subst e
    rcases hat with hat | hat
    · exact h.apart g' hA hat
    · have := (h.inp.blk g' (by rw [hA]; rfl)).2
      simp at hat
      omega
  below := (h.below.alloc h.below.size _).trans hb
theorem OrS.start {w w1 : World} (ho : Own w1 9 (w.alloc (.cells #[] 3)).heap.size Ap m cp (sv xs)) (hb : Below (w.alloc (.cells #[] 3)).heap.size (w.alloc (.cells #[] 3)) w1) :
    OrS w (w1.alloc (.cells #[] 9)) (some ⟨w.heap.size, 0, none⟩) 0 0 [] Ap m cp xs (some ⟨w1.heap.size, 0, none⟩) 0 0 [] where
  out := ((own_empty w).below hb).alloc _
  inp := (ho.mono (by simp)).alloc _
  sn := by
    have h1 := hb.size
    simp at h1
    exact (own_emptyS w1).mono (by omega)
  apart := by
    intro g hg he
    have h1 := (ho.blk g (by rw [hg]; rfl)).2
    simp [Value.ownBlock] at h1 he
    omega
  below := by
    have h1 := hb.size
    simp at h1
    exact (((Below.refl w.heap.size w).alloc (Nat.le_refl _) _).trans (hb.mono (by simp))).alloc (by omega) _
end

set_option maxRecDepth 20000 in
set_option maxHeartbeats 4000000 in
theorem specOrbitSizes_any (f : List UInt8) (n : Int) (w : World) : Calls Tryz.prog 13 #[.string (bs f), .int .i64 n] w (RetIB w (orbT f n).1 (orbT f n).2) := by
  unfold RetIB
  rcases ordT_cases f n with h1 | ⟨N, rfl, hN1, hN5, hf, ho, ho1, ho2⟩
  · have HO := Lib.hid h1
    rw [orbT_no h1]
    clear h1
    go_enter Tryz.func13, Tryz.ntmps13
    go_wp2_with fail
    refine (specOrderOfTurn_any _ _ _).mono ?_
    rintro e w' ⟨rfl, rfl⟩
    rw [HO.out]
    go_wp2_with fail
    go_ret2
    exact ⟨_, 0, 0, rfl, rfl, own_empty w, (Below.refl _ _).alloc (Nat.le_refl _) _⟩
  obtain ⟨R, hR⟩ := orb_ok hf hN5
  have hres : orbT f N = (R.2, true) := by unfold orbT; rw [if_neg (by omega), Int.toNat_natCast, hR]; rfl
  rw [hres]
  obtain ⟨od, hod⟩ : ∃ od, od = ordN f N := ⟨_, rfl⟩
  rw [← hod] at ho ho1 ho2
  have HO := Lib.hid ho
  have n1 : ¬ (od : Int) < 0 := by omega
  have HPA := Lib.hid (fun w => specPathsOf_any N w (by omega))
  have HL0 := Lib.hid (fun i (hi : i < (paths N).length) w => l15Turn_any hf hN1 hN5 hi (k := 1) (Or.inr (Nat.le_refl _)) w)
  have HBD := Lib.hid (fun i (hi : i < (paths N).length) => bd_lt (nxT_bd hf hN5) hi)
  have HAT := Lib.hid (fun i (hi : i < (paths N).length) => P_at hi)
  have HPL := Lib.hid (fun i (hi : i < (paths N).length) => P_len hN5 hi)
  have HHP := Lib.hid (fun (v : List Nat) (a : Nat) (hv : ∀ j ∈ v, j < (paths N).length) (ha : a < (paths N).length) => hasT_P hN5 hv ha)
  have h42 := paths_5 hN5
  obtain ⟨nx, hnx⟩ : ∃ nx, nx = nxT f N := ⟨_, rfl⟩
  obtain ⟨LL, hLL⟩ : ∃ L, L = (paths N).length := ⟨_, rfl⟩
  rw [← hnx] at HL0 HBD hR
  rw [← hLL] at HL0 HBD HAT HPL HHP h42 hR
  have HR := Lib.hid hR
  have HLL := Lib.hid hLL
  clear ho hf hnx hLL hod hres hR
  go_enter Tryz.func13, Tryz.ntmps13
  go_wp2_with fail
  refine (specOrderOfTurn_any _ _ _).mono ?_
  rintro e w' ⟨rfl, rfl⟩
  rw [HO.out]
  go_wp2_with fail
  refine (HPA.out _).mono ?_
  rintro e w1 ⟨Ap, m, cp, hm, rfl, hown, hb1⟩
  obtain rfl : m = LL := by rw [hm]; exact HLL.out.symm
  have T0 := Lib.hid (OrS.start hown.1 hb1)
  clear hm hown hb1
  go_wp2_with fail
  go_loopw [6, 8, 9, 10, 11] (fun s sn kv _ _ wr => ∃ (i k : Nat) (A : Option Addr) (c : Nat) (o : List Int) (v : List Nat) (q : Nat) (A1 : Option Addr) (c1 : Nat), i ≤ m ∧ kv = .int .i64 i ∧ s = .slice A k c ∧ sn = .slice A1 q c1 ∧ k ≤ i ∧ q ≤ 50 * i ∧ orb nx i = some (v, o) ∧ (∀ j ∈ v, j < m) ∧ OrS w wr A k c o Ap m cp (paths N) A1 q c1 (v.map (P N))) (fun _ _ kv _ _ _ => m - (intOf kv).toNat)
  case atStart => exact ⟨0, 0, _, _, [], [], 0, _, _, Nat.zero_le _, rfl, rfl, rfl, Nat.zero_le _, Nat.zero_le _, rfl, (fun j hj => by cases hj), T0.out⟩
  case round =>
    obtain ⟨i, k, A, c, o, v, q, A1, c1, hi, rfl, rfl, rfl, hki, hqi, hv, hvm, ht⟩ := hrel
    have T := Lib.hid ht
    have VM := Lib.hid hvm
    have HV := Lib.hid hv
    by_cases hlt : i < m
    · obtain ⟨bl, off, x, hA, hx, hc⟩ := ht.inp.rd.ats hlt
      subst hA
      have hxP : x = P N i := by have h := HAT.out i hlt; rw [hx] at h; injection h
      subst hxP
      obtain ⟨v', S, hin, hnext⟩ := orb_step HR.out hlt hv
      have HN := Lib.hid hnext
      have HI := Lib.hid hin
      have l1 := HPL.out i hlt
      have HSH := Lib.hid l1
      clear ht hvm hin hnext hv hx l1
      go_wp2_with fail
      refine (l15Has_any A1 q c1 _ (P N i) wr T.out.sn.rd (by omega)).mono ?_
      rintro e w' ⟨rfl, rfl⟩
      rw [HHP.out v i VM.out hlt]
      by_cases hiv : i ∈ v
      · have hq := inn_stop HI.out hiv
        injection hq with hq1 hq2
        subst hq1 hq2
        rw [decide_eq_true hiv]
        clear hiv
        go_wp2_with fail
        go_roundw
        case rel => exact ⟨i + 1, k, A, c, o, v', q, A1, c1, by omega, by go_num, rfl, rfl, by omega, by omega, by rw [HN.out]; rfl, VM.out, T.out⟩
        case measure => simp [intOf]; omega
      · rw [decide_eq_false hiv]
        have hS : S ≠ 0 := by
          intro h
          have h2 := HI.out
          rw [h] at h2
          exact hiv (inn_zero h2)
        clear hiv
        go_wp2_with fail
        go_loopw [8, 10, 11] (fun sn sv xv wz => ∃ (s a : Nat) (u : List Nat) (q : Nat) (A1 : Option Addr) (c1 : Nat), sn = .slice A1 q c1 ∧ sv = .int .i64 s ∧ xv = .string (bs (P N a)) ∧ s ≤ 50 ∧ a < m ∧ q ≤ 50 * i + s ∧ (∀ j ∈ u, j < m) ∧ inn nx (50 - s) u a s = some (v', S) ∧ OrS w wz A k c o (some ⟨bl, off, none⟩) m cp (paths N) A1 q c1 (u.map (P N))) (fun _ sv _ _ => 50 - (intOf sv).toNat)
        case atStart => exact ⟨0, i, v, q, A1, c1, rfl, rfl, rfl, by omega, hlt, by omega, VM.out, HI.out, T.out⟩
        case round =>
          obtain ⟨s, a, u, q2, A2, c2, rfl, rfl, rfl, hs50, ha, hq2, hum, hinn, hz⟩ := hrel
          have Z := Lib.hid hz
          have UM := Lib.hid hum
          have HIN := Lib.hid hinn
          clear hz hum hinn
          by_cases hau : a ∈ u
          · have hq := inn_stop HIN.out hau
            injection hq with hq1 hq2'
            subst hq1 hq2'
            have HAU := Lib.hid hau
            clear hau
            go_wp2_with fail
            refine (l15Has_any A2 q2 c2 _ (P N a) _ Z.out.sn.rd (by omega)).mono ?_
            rintro e w' ⟨rfl, rfl⟩
            rw [HHP.out v' a UM.out ha, decide_eq_true HAU.out]
            go_wp2_with (at_builtin; refine appIL _ rfl _ _ rfl w.heap.size A k c _ rfl (Z.out.out.alloc _) _ (S : Int) rfl (by simp) (by omega) Z.out.below.size ?_; intro g6 c6 w6 hown6 hgr6 hb6 hat6)
            have T6 := Lib.hid (Z.out.grow _ hown6 hgr6 hb6)
            clear hown6 hgr6 hb6 hat6
            go_wp2_with fail
            go_roundw
            case rel => exact ⟨i + 1, k + 1, _, c6, _, v', q2, A2, c2, by omega, by go_num, rfl, rfl, by omega, by omega, by rw [HN.out, if_neg hS], UM.out, T6.out⟩
            case measure => simp [intOf]; omega
          · obtain ⟨hs, hstep⟩ := inn_go HIN.out hau
            have HST := Lib.hid hstep
            have HAU := Lib.hid hau
            have hJ := HBD.out a ha
            have HC := Lib.hid (fun w => HL0.out a ha w)
            have UM2 := Lib.hid (show ∀ j ∈ u ++ [a], j < m by
              intro j hj
              rw [List.mem_append] at hj
              rcases hj with hj | hj
              · exact UM.out j hj
              · simp at hj; rw [hj]; exact ha)
            clear hstep hau
            go_wp2_with fail
            refine (l15Has_any A2 q2 c2 _ (P N a) _ Z.out.sn.rd (by omega)).mono ?_
            rintro e w' ⟨rfl, rfl⟩
            rw [HHP.out u a UM.out ha, decide_eq_false HAU.out]
            go_wp2_with (at_builtin; refine appSL _ rfl _ _ rfl w.heap.size A2 q2 c2 _ rfl (Z.out.sn.alloc _) _ (bs (P N a)) rfl (by simp) (by omega) Z.out.below.size ?_; intro g6 c6 w6 hown6 hgr6 hb6 hat6)
            have T6 := Lib.hid (Z.out.seen _ hown6 hgr6 hb6 hat6)
            clear hown6 hgr6 hb6 hat6
            go_wp2_with fail
            refine (HC.out _).mono ?_
            rintro e w7 ⟨rfl, hb7⟩
            have T7 := Lib.hid (T6.out.by_ hb7)
            clear hb7
            go_wp2_with fail
            go_roundw
            case rel => exact ⟨s + 1, nx.getD a 0, _, q2 + 1, _, c6, rfl, by go_num, rfl, by omega, hJ, by omega, UM2.out, HST.out, by rw [List.map_append]; exact T7.out⟩
            case measure => simp [intOf]; omega
    · obtain rfl : i = m := by omega
      have hr := HR.out
      rw [hv] at hr
      injection hr with hr
      have HL := Lib.hid (show k = R.2.length by have := ht.out.len; rw [iv_len] at this; rw [← hr]; exact this.symm)
      have HE := Lib.hid (show o = R.2 by rw [← hr])
      clear ht hv hr hvm
      go_wp2_with fail
      go_ret2
      exact ⟨A, k, c, HL.out, rfl, by rw [← HE.out]; exact T.out.out, T.out.below⟩

end Go.Proofs.YtghfhkbncjgaeaaGreat

namespace Go.Proofs.YtghfhkbncjgaeaaGreat
set_option linter.unusedVariables false
open Go.RowKit

theorem rd_tab : ((List.range 11).all fun o => (List.range o).all fun k => decide (1 ≤ o / Nat.gcd o k) && decide (o / Nat.gcd o k ≤ o) && decide (1 ≤ Nat.gcd o k) && (decide (o / Nat.gcd o k = o) || decide (o / Nat.gcd o k * k % o = 0)) && (List.range (o / Nat.gcd o k)).all fun d => decide (d = 0) || decide (d * k % o ≠ 0)) = true := by decide +kernel
theorem rd_at {o k : Nat} (ho : o ≤ 10) (hk : k < o) : 1 ≤ o / Nat.gcd o k ∧ o / Nat.gcd o k ≤ o ∧ 1 ≤ Nat.gcd o k ∧ (o / Nat.gcd o k < o → o / Nat.gcd o k * k % o = 0) ∧ ∀ d, 1 ≤ d → d < o / Nat.gcd o k → d * k % o ≠ 0 := by
  have h := List.all_eq_true.1 rd_tab o (List.mem_range.2 (by omega))
  have h1 := List.all_eq_true.1 h k (List.mem_range.2 hk)
  rw [Bool.and_eq_true, Bool.and_eq_true, Bool.and_eq_true, Bool.and_eq_true, decide_eq_true_eq, decide_eq_true_eq, decide_eq_true_eq, Bool.or_eq_true, decide_eq_true_eq, decide_eq_true_eq, List.all_eq_true] at h1
  obtain ⟨⟨⟨⟨a, b⟩, c⟩, d⟩, e⟩ := h1
  refine ⟨a, b, c, fun hlt => d.resolve_left (by omega), fun x hx1 hx2 => ?_⟩
  have := e x (List.mem_range.2 hx2)
  rw [Bool.or_eq_true, decide_eq_true_eq, decide_eq_true_eq] at this
  exact this.resolve_left (by omega)
def svB (n o : Nat) (nx : List Nat) : Bool := (List.range o).all fun k => decide (vrP (catP (n : Int)).1 ((o / Nat.gcd o k : Nat) : Int) = ((fixTo nx k (paths n).length : Int), true))
theorem sv_tab : ((List.range 6).all fun n => decide (n = 0) || (svB n (2 * n) (nxMs.getD n []) && (svB n n (nxPs.getD n []) && svB n (n + 2) (nxTs.getD n [])))) = true := by decide +kernel
theorem sv_at {f : List UInt8} (hf : famB f) {n k : Nat} (hn1 : 1 ≤ n) (hn : n ≤ 5) (hk : k < ordN f n) : vrP (catP (n : Int)).1 ((ordN f n / Nat.gcd (ordN f n) k : Nat) : Int) = ((fixTo (nxT f n) k (paths n).length : Int), true) := by
  have h := List.all_eq_true.1 sv_tab n (List.mem_range.2 (by omega))
  rw [Bool.or_eq_true, decide_eq_true_eq] at h
  have h := h.resolve_left (by omega)
  rw [Bool.and_eq_true, Bool.and_eq_true] at h
  unfold svB at h
  rw [List.all_eq_true, List.all_eq_true, List.all_eq_true] at h
  rcases hf with rfl | rfl | rfl
  · have e : ordN nmM n = 2 * n := by unfold ordN; rw [if_pos rfl]
    rw [e] at hk ⊢
    rw [nxT_M]
    exact of_decide_eq_true (h.1 k (List.mem_range.2 hk))
  · have e : ordN nmP n = n := by unfold ordN; rw [if_neg (by decide), if_pos rfl]
    rw [e] at hk ⊢
    rw [nxT_P]
    exact of_decide_eq_true (h.2.1 k (List.mem_range.2 hk))
  · have e : ordN nmT n = n + 2 := by unfold ordN; rw [if_neg (by decide), if_neg (by decide)]
    rw [e] at hk ⊢
    rw [nxT_T]
    exact of_decide_eq_true (h.2.2 k (List.mem_range.2 hk))
theorem catP_ok {n : Nat} (hn : n ≤ 5) : (catP (n : Int)).2 = true := by
  unfold catP
  rw [inB_iff.2 (by omega)]; rfl
/-- What both sides hand back. -/
def svT (f : List UInt8) (n : Int) : Bool := decide (0 < ordT f n)

end Go.Proofs.YtghfhkbncjgaeaaGreat

namespace Go.Proofs.YtghfhkbncjgaeaaGreat
set_option linter.unusedVariables false
open Go.RowKit

set_option maxHeartbeats 1000000 in
theorem gcd_any (a b : Nat) (w : World) (ha : a ≤ 1000000) (hb : b ≤ 1000000) : Calls Tryz.prog 36 #[.int .i64 a, .int .i64 b] w fun e w' => e = .returned (.int .i64 (Nat.gcd a b : Nat)) ∧ ∃ q, w' = w.drewN q := by
  go_enter Tryz.func36, Tryz.ntmps36
  go_wp2_with fail
  go_loopw [0, 1] (fun xv yv wr => ∃ x y q : Nat, x ≤ 1000000 ∧ y ≤ 1000000 ∧ xv = .int .i64 x ∧ yv = .int .i64 y ∧ Hid (Nat.gcd x y = Nat.gcd a b) ∧ wr = w.drewN q) (fun _ yv _ => (intOf yv).toNat)
  case atStart => exact ⟨a, b, 0, ha, hb, rfl, rfl, Lib.hid rfl, rfl⟩
  case round =>
    obtain ⟨x, y, q, hx, hy, rfl, rfl, hg, rfl⟩ := hrel
    by_cases h0 : y = 0
    · subst h0
      go_wp2_with fail
      go_ret
      exact ⟨ret_int (by rw [← hg.out, Nat.gcd_zero_right]), q, rfl⟩
    · have n0 : ((y : Int) != 0) = true := by simp; omega
      have n1 : ((y : Int) == 0) = false := by simp; omega
      have n2 : ¬ (y : Int) = 0 := by omega
      have m1 : Int.tmod (x : Int) (y : Int) = ((x % y : Nat) : Int) := rfl
      have hlt : x % y < y := Nat.mod_lt _ (by omega)
      have HG := Lib.hid (show Nat.gcd y (x % y) = Nat.gcd a b by rw [← hg.out, Nat.gcd_comm x y, Nat.gcd_rec y x, Nat.gcd_comm])
      obtain ⟨z, hz⟩ : ∃ z, z = x % y := ⟨_, rfl⟩
      rw [← hz] at m1 hlt HG
      clear hz hg
      go_wp2_with fail
      go_quiet (fail)
      go_wp2_with fail
      go_roundw
      case rel => exact ⟨y, z, _, hy, by omega, rfl, rfl, HG, by rw [World.drewN_drewN]⟩
      case measure => simp [intOf]; omega

set_option maxHeartbeats 1000000 in
theorem l15Order_any {o k : Nat} (ho : o ≤ 10) (hk : k < o) (w : World) : Calls Tryz.prog 38 #[.int .i64 o, .int .i64 k] w fun e w' => e = .returned (.int .i64 (o / Nat.gcd o k : Nat)) ∧ w = w' := by
  obtain ⟨h1, h2, -, h3, h4⟩ := rd_at ho hk
  obtain ⟨r, hr⟩ : ∃ r, r = o / Nat.gcd o k := ⟨_, rfl⟩
  rw [← hr] at h1 h2 h3 h4 ⊢
  have H3 := Lib.hid h3
  have H4 := Lib.hid h4
  have n0 : ((o : Int) == 0) = false := by simp; omega
  have n2 : ¬ (o : Int) = 0 := by omega
  clear h3 h4 hr
  go_enter Tryz.func38, Tryz.ntmps38
  go_wp2_with fail
  go_loop [5] (fun dv => ∃ d : Nat, 1 ≤ d ∧ d ≤ r ∧ dv = .int .i64 d) (fun dv => r - (intOf dv).toNat)
  case atStart => exact ⟨1, Nat.le_refl _, h1, rfl⟩
  case round =>
    obtain ⟨d, hd1, hdr, rfl⟩ := hrel
    by_cases hlt : d < o
    · have hmul : d * k ≤ 100 := Nat.mul_le_mul (show d ≤ 10 by omega) (show k ≤ 10 by omega)
      have wm : IntKind.i64.wrap ((d : Int) * (k : Int)) = ((d * k : Nat) : Int) := by rw [← Int.natCast_mul]; exact IntWalk.i64_in _ (by omega)
      have wm' : IntKind.i64.wrap (((d * k : Nat) : Int)) = ((d * k : Nat) : Int) := IntWalk.i64_in _ (by omega)
      have m1 : Int.tmod ((d : Int) * (k : Int)) (o : Int) = ((d * k % o : Nat) : Int) := by rw [← Int.natCast_mul]; rfl
      by_cases hit : d = r
      · have e1 : (((d * k % o : Nat) : Int) == 0) = true := by rw [hit, H3.out (by omega)]; rfl
        subst hit
        obtain ⟨z, hz⟩ : ∃ z, z = d * k % o := ⟨_, rfl⟩
        rw [← hz] at m1 e1
        clear hz
        go_wp2_with fail
        go_ret
        exact ⟨rfl, rfl⟩
      · have e1 : (((d * k % o : Nat) : Int) == 0) = false := by
          have := H4.out d hd1 (by omega)
          rw [beq_eq_false_iff_ne]; omega
        obtain ⟨z, hz⟩ : ∃ z, z = d * k % o := ⟨_, rfl⟩
        rw [← hz] at m1 e1
        clear hz
        go_wp2_with fail
        go_round
        case rel => exact ⟨d + 1, by omega, by omega, by go_num⟩
        case measure => simp [intOf]; omega
    · obtain rfl : r = o := by omega
      go_wp2_with fail
      go_ret
      exact ⟨rfl, rfl⟩

set_option maxRecDepth 20000 in
set_option maxHeartbeats 4000000 in
theorem implSieveHolds_any (f : List UInt8) (n : Int) (w : World) : Calls Tryz.prog 10 #[.string (bs f), .int .i64 n] w fun e w' => e = .returned (.bool (svT f n)) ∧ Below w.heap.size w w' := by
  rcases ordT_cases f n with h1 | ⟨N, rfl, hN1, hN5, hf, ho, ho1, ho2⟩
  · have HO := Lib.hid h1
    have HF := Lib.hid (show svT f n = false by unfold svT; rw [h1]; rfl)
    clear h1
    go_enter Tryz.func10, Tryz.ntmps10
    go_wp2_with fail
    refine (implOrderOfTurn_any _ _ _).mono ?_
    rintro e w' ⟨rfl, rfl⟩
    rw [HO.out]
    go_wp2_with fail
    go_ret
    exact ⟨ret_bool (by rw [HF.out]), Below.refl _ _⟩
  have HF := Lib.hid (show svT f N = true by unfold svT; rw [ho, decide_eq_true_eq]; omega)
  have HSV := Lib.hid (fun k (hk : k < ordN f N) => sv_at hf hN1 hN5 hk)
  have HFX := Lib.hid (fun (k : Nat) (hk : k < ordN f N) => show fixT f N k = (fixTo (nxT f N) k (paths N).length : Int) by unfold fixT; rw [ho, inB_iff.2 (by omega), Int.toNat_natCast, Int.toNat_natCast]; rfl)
  have HCO := Lib.hid (catP_ok hN5)
  have HCL := Lib.hid (catP_len (N : Int))
  obtain ⟨od, hod⟩ : ∃ od, od = ordN f N := ⟨_, rfl⟩
  rw [← hod] at ho ho1 ho2 HSV HFX
  have HO := Lib.hid ho
  have n1 : ¬ (od : Int) < 0 := by omega
  obtain ⟨CP, hCP⟩ : ∃ C, C = (catP (N : Int)).1 := ⟨_, rfl⟩
  have HCP := Lib.hid hCP
  rw [← hCP] at HSV HCL
  obtain ⟨FX, hFX⟩ : ∃ F : Nat → Nat, F = fun k => fixTo (nxT f N) k (paths N).length := ⟨_, rfl⟩
  have HSV2 := Lib.hid (fun k (hk : k < od) => show vrP CP ((od / Nat.gcd od k : Nat) : Int) = ((FX k : Int), true) by rw [HSV.out k hk, hFX])
  have HFX2 := Lib.hid (fun (k : Nat) (hk : k < od) => show fixT f N k = (FX k : Int) by rw [HFX.out k hk, hFX])
  clear ho hf hod hCP hFX HSV HFX
  go_enter Tryz.func10, Tryz.ntmps10
  go_wp2_with fail
  refine (implOrderOfTurn_any _ _ _).mono ?_
  rintro e w' ⟨rfl, rfl⟩
  rw [HO.out]
  go_wp2_with fail
  refine (implCatalanPolynomial_any _ _).mono ?_
  rintro e w1 ⟨Ac, m, c, hm, rfl, hown, hb1⟩
  rw [HCO.out]
  rw [← HCP.out] at hm hown
  have R := Lib.hid hown.rd
  have HM := Lib.hid (show m ≤ 1048576 by rw [hm]; exact HCL.out)
  have hs1 := hb1.size
  have HB1 := Lib.hid hb1
  clear hm hown hb1
  go_wp2_with fail
  go_loopw [8, 9, 10] (fun kv _ _ wr => ∃ k : Nat, k ≤ od ∧ kv = .int .i64 k ∧ Below w1.heap.size w1 wr) (fun kv _ _ _ => od - (intOf kv).toNat)
  case atStart => exact ⟨0, Nat.zero_le _, rfl, Below.refl _ _⟩
  case round =>
    obtain ⟨k, hk, rfl, hbz⟩ := hrel
    have hsz := hbz.size
    have HBZ := Lib.hid hbz
    clear hbz
    by_cases hlt : k < od
    · obtain ⟨h1, h2, h3, -, -⟩ := rd_at ho2 hlt
      have HV := Lib.hid (HSV2.out k hlt)
      have HX := Lib.hid (HFX2.out k hlt)
      have d1 : Int.tdiv (od : Int) ((Nat.gcd od k : Nat) : Int) = ((od / Nat.gcd od k : Nat) : Int) := rfl
      have GC := Lib.hid (fun W => gcd_any od k W (by omega) (by omega))
      obtain ⟨G, hG⟩ : ∃ g, g = Nat.gcd od k := ⟨_, rfl⟩
      rw [← hG] at h1 h2 h3 HV d1 GC
      obtain ⟨D, hD⟩ : ∃ d, d = od / G := ⟨_, rfl⟩
      rw [← hD] at h1 h2 HV d1
      obtain ⟨X, hX⟩ : ∃ X, X = FX k := ⟨_, rfl⟩
      rw [← hX] at HV HX
      have g0 : ((G : Int) == 0) = false := by simp; omega
      have g2 : ¬ (G : Int) = 0 := by omega
      have x1 : ((X : Int) != (X : Int)) = false := by simp
      clear hG hD hX
      go_wp2_with fail
      refine (GC.out _).mono ?_
      rintro e w2 ⟨rfl, hq2⟩
      have hb2 : Below wr.heap.size wr w2 := below_of_drewN hq2
      have B2 := Lib.hid (HBZ.out.trans (hb2.mono hsz))
      have hs2 := hb2.size
      clear hq2 hb2
      go_wp2_with fail
      refine (implValueAtRoot_any _ _ _ _ _ _ (R.out.below B2.out) (by have := HM.out; omega)).mono ?_
      rintro e w3 ⟨rfl, hb3⟩
      rw [HV.out]
      have B3 := Lib.hid (B2.out.trans (hb3.mono (by omega)))
      have hs3 := hb3.size
      clear hb3
      go_wp2_with fail
      refine (implFixedByTurn_any _ _ _ _).mono ?_
      rintro e w4 ⟨rfl, hb4⟩
      rw [HX.out]
      have B4 := Lib.hid (B3.out.trans (hb4.mono (by omega)))
      clear hb4
      go_wp2_with fail
      go_roundw
      case rel => exact ⟨k + 1, by omega, by go_num, B4.out⟩
      case measure => simp [intOf]; omega
    · obtain rfl : k = od := by omega
      go_wp2_with fail
      go_ret
      exact ⟨ret_bool (by rw [HF.out]), HB1.out.trans (HBZ.out.mono hs1)⟩

set_option maxRecDepth 20000 in
set_option maxHeartbeats 4000000 in
theorem specSieveHolds_any (f : List UInt8) (n : Int) (w : World) : Calls Tryz.prog 11 #[.string (bs f), .int .i64 n] w fun e w' => e = .returned (.bool (svT f n)) ∧ Below w.heap.size w w' := by
  rcases ordT_cases f n with h1 | ⟨N, rfl, hN1, hN5, hf, ho, ho1, ho2⟩
  · have HO := Lib.hid h1
    have HF := Lib.hid (show svT f n = false by unfold svT; rw [h1]; rfl)
    clear h1
    go_enter Tryz.func11, Tryz.ntmps11
    go_wp2_with fail
    refine (specOrderOfTurn_any _ _ _).mono ?_
    rintro e w' ⟨rfl, rfl⟩
    rw [HO.out]
    go_wp2_with fail
    refine (specCatalanPolynomial_any _ _).mono ?_
    rintro e w1 ⟨Ac, m, c, hm, rfl, hown, hb1⟩
    clear hm hown
    have HB1 := Lib.hid hb1
    clear hb1
    obtain ⟨b, hb⟩ : ∃ b, b = (catP n).2 := ⟨_, rfl⟩
    rw [← hb]
    clear hb
    go_wp2_with fail
    go_loopw [8, 9, 10] (fun kv _ _ wr => kv = .int .i64 0 ∧ wr = w1) (fun _ _ _ _ => 0)
    case atStart => exact ⟨rfl, rfl⟩
    case round =>
      obtain ⟨rfl, rfl⟩ := hrel
      cases b
      · go_wp2_with fail
        go_ret
        exact ⟨ret_bool (by rw [HF.out]), HB1.out⟩
      · go_wp2_with fail
        go_ret
        exact ⟨ret_bool (by rw [HF.out]), HB1.out⟩
  have HF := Lib.hid (show svT f N = true by unfold svT; rw [ho, decide_eq_true_eq]; omega)
  have HSV := Lib.hid (fun k (hk : k < ordN f N) => sv_at hf hN1 hN5 hk)
  have HFX := Lib.hid (fun (k : Nat) (hk : k < ordN f N) => show fixT f N k = (fixTo (nxT f N) k (paths N).length : Int) by unfold fixT; rw [ho, inB_iff.2 (by omega), Int.toNat_natCast, Int.toNat_natCast]; rfl)
  have HCO := Lib.hid (catP_ok hN5)
  have HCL := Lib.hid (catP_len (N : Int))
  obtain ⟨od, hod⟩ : ∃ od, od = ordN f N := ⟨_, rfl⟩
  rw [← hod] at ho ho1 ho2 HSV HFX
  have HO := Lib.hid ho
  have n1 : (0 : Int) < (od : Int) := by omega
  obtain ⟨CP, hCP⟩ : ∃ C, C = (catP (N : Int)).1 := ⟨_, rfl⟩
  have HCP := Lib.hid hCP
  rw [← hCP] at HSV HCL
  obtain ⟨FX, hFX⟩ : ∃ F : Nat → Nat, F = fun k => fixTo (nxT f N) k (paths N).length := ⟨_, rfl⟩
  have HSV2 := Lib.hid (fun k (hk : k < od) => show vrP CP ((od / Nat.gcd od k : Nat) : Int) = ((FX k : Int), true) by rw [HSV.out k hk, hFX])
  have HFX2 := Lib.hid (fun (k : Nat) (hk : k < od) => show fixT f N k = (FX k : Int) by rw [HFX.out k hk, hFX])
  clear ho hf hod hCP hFX HSV HFX
  go_enter Tryz.func11, Tryz.ntmps11
  go_wp2_with fail
  refine (specOrderOfTurn_any _ _ _).mono ?_
  rintro e w' ⟨rfl, rfl⟩
  rw [HO.out]
  go_wp2_with fail
  refine (specCatalanPolynomial_any _ _).mono ?_
  rintro e w1 ⟨Ac, m, c, hm, rfl, hown, hb1⟩
  rw [HCO.out]
  rw [← HCP.out] at hm hown
  have R := Lib.hid hown.rd
  have HM := Lib.hid (show m ≤ 1048576 by rw [hm]; exact HCL.out)
  have hs1 := hb1.size
  have HB1 := Lib.hid hb1
  clear hm hown hb1
  go_wp2_with fail
  go_loopw [8, 9, 10] (fun kv _ _ wr => ∃ k : Nat, k ≤ od ∧ kv = .int .i64 k ∧ Below w1.heap.size w1 wr) (fun kv _ _ _ => od - (intOf kv).toNat)
  case atStart => exact ⟨0, Nat.zero_le _, rfl, Below.refl _ _⟩
  case round =>
    obtain ⟨k, hk, rfl, hbz⟩ := hrel
    have hsz := hbz.size
    have HBZ := Lib.hid hbz
    clear hbz
    by_cases hlt : k < od
    · have HV := Lib.hid (HSV2.out k hlt)
      have HX := Lib.hid (HFX2.out k hlt)
      have LO := Lib.hid (fun W => l15Order_any ho2 hlt W)
      obtain ⟨D, hD⟩ : ∃ d, d = od / Nat.gcd od k := ⟨_, rfl⟩
      rw [← hD] at HV LO
      obtain ⟨X, hX⟩ : ∃ X, X = FX k := ⟨_, rfl⟩
      rw [← hX] at HV HX
      have x1 : ((X : Int) != (X : Int)) = false := by simp
      clear hD hX
      go_wp2_with fail
      refine (LO.out _).mono ?_
      rintro e w2 ⟨rfl, rfl⟩
      go_wp2_with fail
      refine (specValueAtRoot_any _ _ _ _ _ _ (R.out.below HBZ.out) (by have := HM.out; omega)).mono ?_
      rintro e w3 ⟨rfl, hb3⟩
      rw [HV.out]
      have B3 := Lib.hid (HBZ.out.trans (hb3.mono (by omega)))
      have hs3 := hb3.size
      clear hb3
      go_wp2_with fail
      refine (specFixedByTurn_any _ _ _ _).mono ?_
      rintro e w4 ⟨rfl, hb4⟩
      rw [HX.out]
      have B4 := Lib.hid (B3.out.trans (hb4.mono (by omega)))
      clear hb4
      go_wp2_with fail
      go_roundw
      case rel => exact ⟨k + 1, by omega, by go_num, B4.out⟩
      case measure => simp [intOf]; omega
    · obtain rfl : k = od := by omega
      go_wp2_with fail
      go_ret
      exact ⟨ret_bool (by rw [HF.out]; simp; omega), HB1.out.trans (HBZ.out.mono hs1)⟩

end Go.Proofs.YtghfhkbncjgaeaaGreat

namespace Go.Proofs.YtghfhkbncjgaeaaGreat
set_option linter.unusedVariables false
open Go.RowKit

/-- The next row, j places filled from u on. -/
def stB (row : List Int) (u : Nat) : Nat → List Int
  | 0 => List.replicate row.length 0
  | j + 1 => (stB row u j).set (u + j) (row.getD (u + j) 0 + if 0 < j then (stB row u j).getD (u + j - 1) 0 else 0)
def rwB (D : Nat) : Nat → List Int
  | 0 => List.replicate (D + 1) 1
  | u + 1 => stB (rwB D u) (u + 1) (D - u)
def balV (U D : Nat) : Int := (rwB D U).getD D 0
def catN (n : Int) : Int := if inB n 0 15 then balV n.toNat n.toNat else -1
theorem stB_len (row : List Int) (u : Nat) : ∀ j, (stB row u j).length = row.length
  | 0 => by simp [stB]
  | j + 1 => by rw [stB, List.length_set, stB_len row u j]
theorem rwB_len (D : Nat) : ∀ u, (rwB D u).length = D + 1
  | 0 => by simp [rwB]
  | u + 1 => by rw [rwB, stB_len, rwB_len D u]
theorem getD_set_bd {l : List Int} {k : Nat} {x b : Int} (h : ∀ i, 0 ≤ l.getD i 0 ∧ l.getD i 0 ≤ b) (hx : 0 ≤ x ∧ x ≤ b) (i : Nat) : 0 ≤ (l.set k x).getD i 0 ∧ (l.set k x).getD i 0 ≤ b := by
  rw [List.getD_eq_getElem?_getD, List.getElem?_set]
  split
  · split
    · exact hx
    · have := h i; simp; omega
  · rw [← List.getD_eq_getElem?_getD]; exact h i
theorem stB_bd {row : List Int} {b : Int} (hb : 0 ≤ b) (h : ∀ i, 0 ≤ row.getD i 0 ∧ row.getD i 0 ≤ b) (u : Nat) : ∀ (j : Nat) i, 0 ≤ (stB row u j).getD i 0 ∧ (stB row u j).getD i 0 ≤ (j : Int) * b
  | 0, i => by
    rw [stB, List.getD_eq_getElem?_getD, List.getElem?_replicate]
    split <;> simp
  | j + 1, i => by
    have ih := stB_bd hb h u j
    have e : ((j + 1 : Nat) : Int) * b = j * b + b := by push_cast; rw [Int.add_mul]; simp
    have hjb : 0 ≤ (j : Int) * b := Int.mul_nonneg (by omega) hb
    rw [stB, e]
    refine getD_set_bd (fun i => by have := ih i; omega) ?_ i
    have h1 := h (u + j)
    have h2 := ih (u + j - 1)
    split <;> omega
theorem rwB_bd {D : Nat} (hD : D ≤ 15) : ∀ (u : Nat) i, 0 ≤ (rwB D u).getD i 0 ∧ (rwB D u).getD i 0 ≤ 16 ^ u
  | 0, i => by
    rw [rwB, List.getD_eq_getElem?_getD, List.getElem?_replicate]
    split <;> simp
  | u + 1, i => by
    have ih := rwB_bd hD u
    have h0 : (0 : Int) ≤ 16 ^ u := Int.le_trans (ih 0).1 (ih 0).2
    have h1 := stB_bd h0 ih (u + 1) (D - u) i
    have h2 : ((D - u : Nat) : Int) * 16 ^ u ≤ 16 * 16 ^ u := Int.mul_le_mul_of_nonneg_right (by omega) h0
    rw [rwB, Int.pow_succ, Int.mul_comm (16 ^ u) 16]
    omega
theorem pow16C {u : Nat} (h : u ≤ 14) : (16 : Int) ^ u ≤ 72057594037927936 := by
  have : (16 : Int) ^ u ≤ 16 ^ 14 := by
    induction u with
    | zero => decide
    | succ u ih =>
      have h1 : u = 0 ∨ u = 1 ∨ u = 2 ∨ u = 3 ∨ u = 4 ∨ u = 5 ∨ u = 6 ∨ u = 7 ∨ u = 8 ∨ u = 9 ∨ u = 10 ∨ u = 11 ∨ u = 12 ∨ u = 13 := by omega
      rcases h1 with rfl | rfl | rfl | rfl | rfl | rfl | rfl | rfl | rfl | rfl | rfl | rfl | rfl | rfl <;> decide
  exact Int.le_trans this (by decide)
def onB (N i : Nat) : List Int := List.replicate i 1 ++ List.replicate (N - i) 0
theorem onB_set {N i : Nat} (h : i < N) : (onB N i).set i 1 = onB N (i + 1) := by
  unfold onB
  rw [List.set_append_right _ _ (by simp), List.replicate_succ', List.append_assoc]
  congr 1
  rw [show N - i = (N - (i + 1)) + 1 by omega, List.replicate_succ]
  simp

set_option maxRecDepth 20000 in
set_option maxHeartbeats 4000000 in
theorem implBallotNumber_any (U D : Nat) (hU : U ≤ D) (hD : D ≤ 15) (w : World) : Calls Tryz.prog 43 #[.int .i64 U, .int .i64 D] w fun e w' => e = .returned (.int .i64 (balV U D)) ∧ Below w.heap.size w w' := by
  have HB1 := Lib.hid (inB_true (x := U) (lo := 0) (hi := 15) (by omega) (by omega))
  have HB2 := Lib.hid (inB_true (x := D) (lo := U) (hi := 15) (by omega) (by omega))
  have u0 : IntKind.i64.wrap ((D : Int) + 1) = (D : Int) + 1 := IntWalk.i64_in _ (by omega)
  have hmk := mkI (D + 1) (by omega) w
  rw [show ((D + 1 : Nat) : Int) = (D : Int) + 1 by omega] at hmk
  have HT1 := Lib.hid (show Own (w.alloc (.cells (madeCells #[.int .i64 0] (D + 1)) 3)) 3 w.heap.size (some ⟨w.heap.size, 0, none⟩) (D + 1) (D + 1) (iv (onB (D + 1) 0)) by
    have := Own.made w 3 (.int .i64 0) (D + 1) (by unfold maxLen; omega)
    rw [iv_rep] at this
    unfold onB
    simpa using this)
  have hba := (Below.refl w.heap.size w).alloc (Nat.le_refl _) (.cells (madeCells #[.int .i64 0] (D + 1)) 3)
  go_enter Tryz.func43, Tryz.ntmps43
  go_wp2_with fail
  refine (within_any _ _ _ _).mono ?_
  rintro e w' ⟨rfl, rfl⟩
  rw [HB1.out]
  go_wp2_with fail
  refine (within_any _ _ _ _).mono ?_
  rintro e w' ⟨rfl, rfl⟩
  rw [HB2.out]
  go_wp2_with fail
  clear hmk
  go_loopw [6, 24] (fun _ i wr => ∃ j : Nat, j ≤ D + 1 ∧ i = .int .i64 j ∧ Own wr 3 w.heap.size (some ⟨w.heap.size, 0, none⟩) (D + 1) (D + 1) (iv (onB (D + 1) j)) ∧ Below w.heap.size w wr) (fun _ i _ => D + 1 - (intOf i).toNat)
  case atStart => exact ⟨0, Nat.zero_le _, rfl, HT1.out, hba⟩
  case round =>
    obtain ⟨j, hj, rfl, ho, hb⟩ := hrel
    have O := Lib.hid ho
    by_cases hlt : j < D + 1
    · obtain ⟨g, y, hA, hgB, hgs, hy, hcy, hfy⟩ := ho.ati hlt
      cases hA
      have HS := Lib.hid (onB_set hlt)
      clear ho hy
      go_wp2_with fail
      go_roundw
      case rel => exact ⟨j + 1, by omega, by go_num, by rw [← HS.out]; exact O.out.puti j 1, hb.setCell (p := ⟨w.heap.size, j, none⟩) (Nat.le_refl _) _⟩
      case measure => simp [intOf]; omega
    · have HW := Lib.hid (show onB (D + 1) j = rwB D 0 by unfold onB rwB; rw [show j = D + 1 by omega, Nat.sub_self, List.replicate_zero, List.append_nil])
      rw [HW.out] at O
      obtain ⟨w2, rfl⟩ : ∃ W, W = wr := ⟨wr, rfl⟩
      clear ho HW
      go_wp2_with fail
      go_loopw [5, 7, 8, 9] (fun rv ux _ _ wr => ∃ (t : Nat) (A1 : Option Addr) (c1 : Nat), t ≤ U ∧ ux = .int .i64 ((t : Int) + 1) ∧ rv = .slice A1 (D + 1) c1 ∧ Own wr 3 w.heap.size A1 (D + 1) c1 (iv (rwB D t)) ∧ Below w.heap.size w wr) (fun _ ux _ _ _ => U + 1 - (intOf ux).toNat)
      case atStart => exact ⟨0, _, _, Nat.zero_le _, rfl, rfl, O.out, hb⟩
      case round =>
        obtain ⟨t, A1, c1, ht, rfl, rfl, hown, hb⟩ := hrel
        have MW := Lib.hid hown
        obtain ⟨w3, rfl⟩ : ∃ W, W = wr := ⟨wr, rfl⟩
        have hs3 := hb.size
        clear hown
        by_cases hlt9 : t < U
        · have hk1 : (t : Int) + 1 ≤ (U : Int) := by omega
          have hmk := mkI (D + 1) (by omega) w3
          rw [show ((D + 1 : Nat) : Int) = (D : Int) + 1 by omega] at hmk
          have HT3 := Lib.hid (show Own (w3.alloc (.cells (madeCells #[.int .i64 0] (D + 1)) 3)) 3 w3.heap.size (some ⟨w3.heap.size, 0, none⟩) (D + 1) (D + 1) (iv (stB (rwB D t) (t + 1) 0)) by
            have := Own.made w3 3 (.int .i64 0) (D + 1) (by unfold maxLen; omega)
            rw [iv_rep] at this
            rw [stB, rwB_len]; exact this)
          have hb3 := (Below.refl w3.heap.size w3).alloc (Nat.le_refl _) (.cells (madeCells #[.int .i64 0] (D + 1)) 3)
          have HBD := Lib.hid (rwB_bd hD t)
          have HPW := Lib.hid (pow16C (u := t) (by omega))
          have HNX := Lib.hid (show rwB D (t + 1) = stB (rwB D t) (t + 1) (D - t) from rfl)
          have HRL := Lib.hid (rwB_len D t)
          obtain ⟨R, hR⟩ : ∃ R, R = rwB D t := ⟨_, rfl⟩
          rw [← hR] at HT3 HBD HNX HRL MW
          clear hR
          go_wp2_with fail
          clear hmk
          go_loopw [9] (fun dx wr => ∃ j : Nat, j ≤ D - t ∧ dx = .int .i64 ((t : Int) + 1 + j) ∧ Own wr 3 w3.heap.size (some ⟨w3.heap.size, 0, none⟩) (D + 1) (D + 1) (iv (stB R (t + 1) j)) ∧ Below w3.heap.size w3 wr) (fun dx _ => D + 1 - (intOf dx).toNat)
          case atStart => exact ⟨0, Nat.zero_le _, by go_num, HT3.out, hb3⟩
          case round =>
            obtain ⟨j, hj, rfl, ho, hbi⟩ := hrel
            obtain ⟨w4, rfl⟩ : ∃ W, W = wr := ⟨wr, rfl⟩
            have O4 := Lib.hid ho
            clear ho
            by_cases hlt : j < D - t
            · obtain ⟨d, hd⟩ : ∃ d : Nat, d = t + 1 + j := ⟨_, rfl⟩
              have hdD : d < D + 1 := by omega
              have e0 : (t : Int) + 1 + (j : Int) = (d : Int) := by omega
              obtain ⟨g1, x, hA1, -, -, hx, hcx, -⟩ := (MW.out.below hbi).ati hdD
              subst hA1
              obtain ⟨g2, y, hA2, -, -, hy, hcy, hfy⟩ := O4.out.ati hdD
              cases hA2
              have hxb := HBD.out d
              have hxd : R.getD d 0 = x := by rw [List.getD_eq_getElem?_getD, hx]; rfl
              rw [hxd] at hxb
              have hst := stB_bd (row := R) (b := 16 ^ t) (by have := HBD.out 0; omega) HBD.out (t + 1) j (d - 1)
              have i1 : (0 : Int) ≤ (d : Int) := by omega
              have i2 : (d : Int) < (D : Int) + 1 := by omega
              have i3 : (d : Int) ≤ (D : Int) := by omega
              by_cases hj0 : 0 < j
              · obtain ⟨g3, z, hA3, -, -, hz, hcz, hfz⟩ := O4.out.ati (show d - 1 < D + 1 by omega)
                cases hA3
                have hzd : (stB R (t + 1) j).getD (d - 1) 0 = z := by rw [List.getD_eq_getElem?_getD, hz]; rfl
                rw [hzd] at hst
                have hjb : (j : Int) * 16 ^ t ≤ 15 * 16 ^ t := Int.mul_le_mul_of_nonneg_right (by omega) (by omega)
                have hp := HPW.out
                have HN := Lib.hid (show ((stB R (t + 1) j).set d x).set d (x + z) = stB R (t + 1) (j + 1) by rw [List.set_set, stB, ← hd, hxd, hzd, if_pos hj0])
                have j1 : (t : Int) + 1 < (d : Int) := by omega
                have u1 : IntKind.i64.wrap (x + z) = x + z := IntWalk.i64_in _ (by omega)
                have u2 : IntKind.i64.wrap ((d : Int) - 1) = (d : Int) - 1 := IntWalk.i64_in _ (by omega)
                have i4 : (0 : Int) ≤ (d : Int) - 1 := by omega
                have i5 : (d : Int) - 1 < (D : Int) + 1 := by omega
                have i6 : ((d : Int) - 1).toNat = d - 1 := by omega
                have i7 : 1 ≤ d := by omega
                have i8 : (1 : Int) ≤ (d : Int) := by omega
                have i9 : (d : Int) < (D : Int) + 1 + 1 := by omega
                have k1 : d < D + 1 := by omega
                have k2 : d - 1 < D + 1 := by omega
                have k3 : d < D + 1 + 1 := by omega
                have c1' : (w4.setCell ⟨w3.heap.size, d, none⟩ (.int .i64 x)).cell? ⟨w3.heap.size, d, none⟩ = some (.int .i64 x) := World.cell?_setCell_same' _ _ _ (by rw [hcy]; rfl)
                have c2' : (w4.setCell ⟨w3.heap.size, d, none⟩ (.int .i64 x)).cell? ⟨w3.heap.size, d - 1, none⟩ = some (.int .i64 z) := by rw [World.cell?_setCell_other _ _ _ _ (by intro h; injection h with _ h2 _; omega)]; exact hcz
                have c3' : (w4.setCell ⟨w3.heap.size, d, none⟩ (.int .i64 x)).frozen? ⟨w3.heap.size, d, none⟩ = false := by rw [World.frozen?_setCell]; exact hfy
                have O5 := Lib.hid (O4.out.puti d x)
                have hb5 := hbi.setCell (p := ⟨w3.heap.size, d, none⟩) (Nat.le_refl _) (.int .i64 x)
                have HD := Lib.hid hd
                clear hx hy hz hxd hzd hst hjb hp hd hxb
                rw [e0]
                clear e0
                go_wp2_with fail
                obtain ⟨w5, hw5⟩ : ∃ W, W = w4.setCell ⟨w3.heap.size, d, none⟩ (.int .i64 x) := ⟨_, rfl⟩
                rw [← hw5] at c1' c2' c3' O5 hb5 ⊢
                clear hw5 hcy hfy hcz hfz hcx
                go_still_tail 13, (by kernel_rfl)
                change wpList _ _ _ _ _ w5.drew
                go_wp2_with fail
                go_roundw
                case rel => exact ⟨j + 1, by omega, by have := HD.out; go_num, by rw [← HN.out]; exact (O5.out.puti d (x + z)).drew, (hb5.setCell (p := ⟨w3.heap.size, d, none⟩) (Nat.le_refl _) _).drew⟩
                case measure => simp [intOf]; omega
              · have HN := Lib.hid (show (stB R (t + 1) j).set d x = stB R (t + 1) (j + 1) by rw [stB, ← hd, hxd, if_neg hj0, Int.add_zero])
                have j1 : ¬ (t : Int) + 1 < (d : Int) := by omega
                have HD := Lib.hid hd
                clear hx hy hxd hst hd hxb
                rw [e0]
                clear e0
                go_wp2_with fail
                go_roundw
                case rel => exact ⟨j + 1, by omega, by have := HD.out; go_num, by rw [← HN.out]; exact O4.out.puti d x, hbi.setCell (p := ⟨w3.heap.size, d, none⟩) (Nat.le_refl _) _⟩
                case measure => simp [intOf]; omega
            · have HE := Lib.hid (show rwB D (t + 1) = stB R (t + 1) j by rw [HNX.out, show j = D - t by omega])
              have hbf := hb.trans (hbi.mono hs3)
              have j9 : ¬ (t : Int) + 1 + (j : Int) ≤ (D : Int) := by omega
              go_wp2_with fail
              go_roundw
              case rel => exact ⟨t + 1, _, D + 1, by omega, by go_num, rfl, by rw [HE.out]; exact O4.out.mono hs3, hbf⟩
              case measure => simp [intOf]; omega
        · have HX := Lib.hid (show rwB D U = rwB D t by rw [show U = t by omega])
          have hk1 : ¬ (t : Int) + 1 ≤ (U : Int) := by omega
          obtain ⟨g1, x, hA1, -, -, hx, hcx, -⟩ := MW.out.ati (show D < D + 1 by omega)
          subst hA1
          have HV := Lib.hid (show balV U D = x by rw [balV, HX.out, List.getD_eq_getElem?_getD, hx]; rfl)
          clear hx
          go_wp2_with fail
          go_ret
          exact ⟨ret_int (by rw [HV.out]), hb⟩

theorem implCatalanNumber_any (n : Int) (w : World) : Calls Tryz.prog 17 #[.int .i64 n] w fun e w' => e = .returned (.int .i64 (catN n)) ∧ Below w.heap.size w w' := by
  rcases h : inB n 0 15 with _ | _
  · have HF := Lib.hid (show catN n = -1 by unfold catN; rw [h]; rfl)
    have HB := Lib.hid h
    clear h
    go_enter Tryz.func17, Tryz.ntmps17
    go_wp2_with fail
    refine (within_any _ _ _ _).mono ?_
    rintro e w' ⟨rfl, rfl⟩
    rw [HB.out]
    go_wp2_with fail
    go_ret
    exact ⟨ret_int (by rw [HF.out]), Below.refl _ _⟩
  · have hb := inB_iff.1 h
    obtain ⟨N, rfl⟩ := Int.eq_ofNat_of_zero_le hb.1
    have hN : N ≤ 15 := by omega
    have HF := Lib.hid (show catN (N : Int) = balV N N by unfold catN; rw [h]; rfl)
    have HB := Lib.hid h
    clear h hb
    go_enter Tryz.func17, Tryz.ntmps17
    go_wp2_with fail
    refine (within_any _ _ _ _).mono ?_
    rintro e w' ⟨rfl, rfl⟩
    rw [HB.out]
    go_wp2_with fail
    refine (implBallotNumber_any N N (Nat.le_refl _) hN _).mono ?_
    rintro e w1 ⟨rfl, hb1⟩
    go_wp2_with fail
    go_ret
    exact ⟨ret_int (by rw [HF.out]), hb1⟩

end Go.Proofs.YtghfhkbncjgaeaaGreat

namespace Go.Proofs.YtghfhkbncjgaeaaGreat
set_option linter.unusedVariables false
open Go.RowKit

/-- The sum of the first i. -/
def smI (l : List Int) : Nat → Int
  | 0 => 0
  | i + 1 => smI l i + l.getD i 0
set_option maxHeartbeats 1000000 in
theorem total_any (A : Option Addr) (n c : Nat) (xs : List Int) (w : World) (h : Rd w A n (iv xs)) (hn : n ≤ 1000000000) (hb : ∀ i, -1000000000000 ≤ smI xs i ∧ smI xs i ≤ 1000000000000) :
    Calls Tryz.prog 16 #[.slice A n c] w fun e w' => e = .returned (.int .i64 (smI xs n)) ∧ w = w' := by
  have HR := Lib.hid h
  have HBD := Lib.hid hb
  clear h hb
  go_enter Tryz.func16, Tryz.ntmps16
  go_wp2_with fail
  go_loop [3, 4] (fun s ix => ∃ i : Nat, i ≤ n ∧ ix = .int .i64 i ∧ s = .int .i64 (smI xs i)) (fun _ ix => n - (intOf ix).toNat)
  case atStart => exact ⟨0, Nat.zero_le _, rfl, rfl⟩
  case round =>
    obtain ⟨i, hi, rfl, rfl⟩ := hrel
    obtain ⟨S, hS⟩ : ∃ S, S = smI xs i := ⟨_, rfl⟩
    rw [← hS]
    have HS := Lib.hid hS
    clear hS
    by_cases hlt : i < n
    · obtain ⟨bl, off, y, hA, hy, hcy⟩ := HR.out.ati hlt
      subst hA
      have hd := HBD.out (i + 1)
      rw [smI, ← HS.out, List.getD_eq_getElem?_getD, hy] at hd
      have hd' : -1000000000000 ≤ S + y ∧ S + y ≤ 1000000000000 := hd
      have HN := Lib.hid (show smI xs (i + 1) = S + y by rw [smI, ← HS.out, List.getD_eq_getElem?_getD, hy]; rfl)
      have i1 : (0 : Int) ≤ (i : Int) := by omega
      have i2 : (i : Int) < (n : Int) := by omega
      clear hy hd
      go_wp2_with fail
      go_round
      case rel => exact ⟨i + 1, by omega, by go_num, by rw [HN.out]⟩
      case measure => simp [intOf]; omega
    · obtain rfl : i = n := by omega
      go_wp2_with fail
      go_ret
      exact ⟨ret_int (by rw [HS.out]), rfl⟩

end Go.Proofs.YtghfhkbncjgaeaaGreat

namespace Go.Proofs.YtghfhkbncjgaeaaGreat
set_option linter.unusedVariables false
open Go.RowKit

/-- How many objects the first k turns keep. -/
def fxS (nx : List Nat) (m : Nat) : Nat → Nat
  | 0 => 0
  | k + 1 => fxS nx m k + fixTo nx k m
theorem fxS_le (nx : List Nat) (m : Nat) : ∀ k, fxS nx m k ≤ k * m
  | 0 => by simp [fxS]
  | k + 1 => by
    have h1 := fxS_le nx m k
    have h2 := fixTo_le nx k m
    rw [fxS, Nat.add_mul, Nat.one_mul]; omega
def slB (n o : Nat) (nx : List Nat) : Bool := match orb nx (paths n).length with
  | none => false
  | some R => (smI R.2 R.2.length == catN (n : Int)) && (fxS nx (paths n).length o == o * R.2.length) && R.2.all fun x => decide (1 ≤ x) && decide (x ≤ 50) && (Int.tmod (o : Int) x == 0)
theorem sl_tab : ((List.range 6).all fun n => decide (n = 0) || (slB n (2 * n) (nxMs.getD n []) && (slB n n (nxPs.getD n []) && slB n (n + 2) (nxTs.getD n [])))) = true := by decide +kernel
theorem sl_at {f : List UInt8} (hf : famB f) {n : Nat} (hn1 : 1 ≤ n) (hn : n ≤ 5) : slB n (ordN f n) (nxT f n) = true := by
  have h := List.all_eq_true.1 sl_tab n (List.mem_range.2 (by omega))
  rw [Bool.or_eq_true, decide_eq_true_eq] at h
  have h := h.resolve_left (by omega)
  rw [Bool.and_eq_true, Bool.and_eq_true] at h
  rcases hf with rfl | rfl | rfl
  · rw [show ordN nmM n = 2 * n by unfold ordN; rw [if_pos rfl], nxT_M]; exact h.1
  · rw [show ordN nmP n = n by unfold ordN; rw [if_neg (by decide), if_pos rfl], nxT_P]; exact h.2.1
  · rw [show ordN nmT n = n + 2 by unfold ordN; rw [if_neg (by decide), if_neg (by decide)], nxT_T]; exact h.2.2
/-- The three things said of the orbits. -/
structure SlOk (n o : Nat) (nx : List Nat) (m : Nat) (O : List Int) : Prop where
  tot : smI O O.length = catN (n : Int)
  sum : fxS nx m o = o * O.length
  ok : ∀ (i : Nat) (x : Int), O[i]? = some x → 1 ≤ x ∧ x ≤ 50 ∧ Int.tmod (o : Int) x = 0
theorem slOk {f : List UInt8} (hf : famB f) {n : Nat} (hn1 : 1 ≤ n) (hn : n ≤ 5) {R : List Nat × List Int} (hR : orb (nxT f n) (paths n).length = some R) : SlOk n (ordN f n) (nxT f n) (paths n).length R.2 := by
  have h := sl_at hf hn1 hn
  unfold slB at h
  rw [hR] at h
  simp only [Bool.and_eq_true, beq_iff_eq, List.all_eq_true, decide_eq_true_eq] at h
  exact ⟨h.1.1, h.1.2, fun i x hx => ⟨(h.2 x (List.mem_of_getElem? hx)).1.1, (h.2 x (List.mem_of_getElem? hx)).1.2, (h.2 x (List.mem_of_getElem? hx)).2⟩⟩
theorem smI_bd {O : List Int} (h : ∀ (i : Nat) (x : Int), O[i]? = some x → 1 ≤ x ∧ x ≤ 50) : ∀ i : Nat, 0 ≤ smI O i ∧ smI O i ≤ i * 50
  | 0 => by simp [smI]
  | i + 1 => by
    have ih := smI_bd h i
    have : 0 ≤ O.getD i 0 ∧ O.getD i 0 ≤ 50 := by
      rw [List.getD_eq_getElem?_getD]
      rcases hx : O[i]? with _ | x
      · simp
      · have := h i x hx; simp; omega
    rw [smI]
    have e : ((i + 1 : Nat) : Int) * 50 = (i : Int) * 50 + 50 := by push_cast; rw [Int.add_mul]; simp
    rw [e]; omega
theorem smI_bdE {O : List Int} (h : ∀ (i : Nat) (x : Int), O[i]? = some x → 1 ≤ x ∧ x ≤ 50) (hl : O.length ≤ 100) (i : Nat) : -1000000000000 ≤ smI O i ∧ smI O i ≤ 1000000000000 := by
  have hge : ∀ j, O.length ≤ j → smI O j = smI O O.length := by
    intro j hj
    induction j with
    | zero => rw [show O.length = 0 by omega]
    | succ j ih =>
      by_cases e : O.length = j + 1
      · rw [e]
      · rw [smI, ih (by omega), List.getD_eq_getElem?_getD, List.getElem?_eq_none (by omega)]; simp
  rcases Nat.lt_or_ge i O.length with hi | hi
  · have := smI_bd h i; omega
  · rw [hge i hi]
    have := smI_bd h O.length; omega
theorem cy_tab : ((List.range 17).all fun d => decide (d = 0) || decide (vrP (cycT d) (d : Int) = (0, true))) = true := by decide +kernel
theorem cy_at {d : Nat} (h1 : 1 ≤ d) (h : d ≤ 16) : vrP (cycT d) (d : Int) = (0, true) := by
  have h := List.all_eq_true.1 cy_tab d (List.mem_range.2 (by omega))
  rw [Bool.or_eq_true, decide_eq_true_eq, decide_eq_true_eq] at h
  exact h.resolve_left (by omega)

end Go.Proofs.YtghfhkbncjgaeaaGreat

namespace Go.Proofs.YtghfhkbncjgaeaaGreat
set_option linter.unusedVariables false
open Go.RowKit

def uv (zs : List Int) : List Value := zs.map (.int .u8)
theorem uv_len (zs : List Int) : (uv zs).length = zs.length := by simp [uv]
theorem Rd.atu {w : World} {A : Option Addr} {n k : Nat} {zs : List Int} (h : Rd w A n (uv zs)) (hk : k < n) : ∃ b off z, A = some ⟨b, off, none⟩ ∧ zs[k]? = some z ∧ w.cell? ⟨b, off + k, none⟩ = some (.int .u8 z) := by
  obtain ⟨b, off, u, hA, hu, hc⟩ := h.at_ hk
  unfold uv at hu
  rw [List.getElem?_map, Option.map_eq_some_iff] at hu
  obtain ⟨z, hz, rfl⟩ := hu
  exact ⟨b, off, z, hA, hz, hc⟩
/-- The cursor lies in block g: the bytes, a place among them, a number. -/
structure Cur (w : World) (g : Nat) (A : Option Addr) (n c : Nat) (zs : List Int) : Prop where
  cb : w.cell? ⟨g, 0, none⟩ = some (.slice A n c)
  ci : ∃ i : Nat, i ≤ n ∧ w.cell? ⟨g, 1, none⟩ = some (.int .i64 i)
  ch : ∃ h : Int, w.cell? ⟨g, 2, none⟩ = some (.int .i64 h)
  f1 : w.frozen? ⟨g, 1, none⟩ = false
  f2 : w.frozen? ⟨g, 2, none⟩ = false
  lt : g < w.heap.size
  rd : Rd w A n (uv zs)
  far : 0 < n → ∀ ad, A = some ad → ad.block ≠ g
  le : n ≤ 1000000000
  byte : ∀ z ∈ zs, 0 ≤ z ∧ z ≤ 255
section
variable {w w' : World} {g n c : Nat} {A : Option Addr} {zs : List Int}
theorem Cur.below (h : Cur w g A n c zs) (hb : Below w.heap.size w w') : Cur w' g A n c zs where
  cb := (hb.cell (p := ⟨g, 0, none⟩) h.lt).trans h.cb
  ci := by obtain ⟨i, a, b⟩ := h.ci; exact ⟨i, a, (hb.cell (p := ⟨g, 1, none⟩) h.lt).trans b⟩
  ch := by obtain ⟨i, a⟩ := h.ch; exact ⟨i, (hb.cell (p := ⟨g, 2, none⟩) h.lt).trans a⟩
  f1 := (hb.frozen (p := ⟨g, 1, none⟩) h.lt).trans h.f1
  f2 := (hb.frozen (p := ⟨g, 2, none⟩) h.lt).trans h.f2
  lt := Nat.lt_of_lt_of_le h.lt hb.size
  rd := h.rd.below hb
  far := h.far
  le := h.le
  byte := h.byte
theorem Cur.drewN (h : Cur w g A n c zs) (k : Nat) : Cur (w.drewN k) g A n c zs := ⟨h.cb, h.ci, h.ch, h.f1, h.f2, h.lt, h.rd, h.far, h.le, h.byte⟩
theorem Rd.set_far {vs : List Value} (h : Rd w A n vs) (hb : 0 < n → ∀ ad, A = some ad → ad.block ≠ g) (k : Nat) (v : Value) : Rd (w.setCell ⟨g, k, none⟩ v) A n vs :=
  ⟨h.1, fun hn => by
    obtain ⟨b, off, e, hc⟩ := h.2 hn
    refine ⟨b, off, e, fun j u hu => ?_⟩
    rw [World.cell?_setCell_far _ _ _ _ (by intro e'; exact hb hn _ e e'.symm)]
    exact hc j u hu⟩
theorem Cur.setI (h : Cur w g A n c zs) (i : Nat) (hi : i ≤ n) {x : Int} (hx : x = (i : Int)) : Cur (w.setCell ⟨g, 1, none⟩ (.int .i64 x)) g A n c zs where
  cb := by rw [World.cell?_setCell_other _ _ _ _ (by simp)]; exact h.cb
  ci := ⟨i, hi, by subst hx; obtain ⟨j, _, b⟩ := h.ci; exact World.cell?_setCell_same' _ _ _ (by rw [b]; rfl)⟩
  ch := by obtain ⟨x, a⟩ := h.ch; exact ⟨x, by rw [World.cell?_setCell_other _ _ _ _ (by simp)]; exact a⟩
  f1 := by rw [World.frozen?_setCell]; exact h.f1
  f2 := by rw [World.frozen?_setCell]; exact h.f2
  lt := by rw [World.size_setCell]; exact h.lt
  rd := h.rd.set_far h.far 1 _
  far := h.far
  le := h.le
  byte := h.byte
theorem Cur.setH (h : Cur w g A n c zs) (x : Int) : Cur (w.setCell ⟨g, 2, none⟩ (.int .i64 x)) g A n c zs where
  cb := by rw [World.cell?_setCell_other _ _ _ _ (by simp)]; exact h.cb
  ci := by obtain ⟨i, a, b⟩ := h.ci; exact ⟨i, a, by rw [World.cell?_setCell_other _ _ _ _ (by simp)]; exact b⟩
  ch := ⟨x, by obtain ⟨y, b⟩ := h.ch; exact World.cell?_setCell_same' _ _ _ (by rw [b]; rfl)⟩
  f1 := by rw [World.frozen?_setCell]; exact h.f1
  f2 := by rw [World.frozen?_setCell]; exact h.f2
  lt := by rw [World.size_setCell]; exact h.lt
  rd := h.rd.set_far h.far 2 _
  far := h.far
  le := h.le
  byte := h.byte
end
theorem Only.refl (lo hi : Nat) (w : World) : Only lo hi w w := ⟨rfl, rfl, rfl, Nat.le_refl _, fun _ _ _ => rfl⟩
theorem Only.trans {lo hi : Nat} {a b c : World} (h : Only lo hi a b) (h' : Only lo hi b c) : Only lo hi a c :=
  ⟨h'.os.trans h.os, h'.tape.trans h.tape, h'.output.trans h.output, Nat.le_trans h.size h'.size, fun k hk hd => (h'.block k (Nat.lt_of_lt_of_le hk h.size) hd).trans (h.block k hk hd)⟩
theorem Only.of_below {lo hi : Nat} {a b : World} (h : Below a.heap.size a b) : Only lo hi a b := ⟨h.os, h.tape, h.output, h.size, fun k hk _ => h.block k hk⟩
theorem Only.drewN {lo hi : Nat} {a b : World} (h : Only lo hi a b) (k : Nat) : Only lo hi a (b.drewN k) := ⟨h.os, h.tape, h.output, h.size, h.block⟩
theorem Only.set {g : Nat} {a b : World} (h : Only g (g + 1) a b) (k : Nat) (v : Value) : Only g (g + 1) a (b.setCell ⟨g, k, none⟩ v) := by
  have hb : Below 0 (b.setCell ⟨g, k, none⟩ v) (b.setCell ⟨g, k, none⟩ v) := Below.refl _ _
  refine ⟨h.os, h.tape, h.output, by rw [World.size_setCell]; exact h.size, fun j hj hd => ?_⟩
  rw [← h.block j hj hd]
  rcases hd with hd | hd
  · exact Below.heap_setCell b ⟨g, k, none⟩ v j (by show j ≠ g; omega)
  · exact Below.heap_setCell b ⟨g, k, none⟩ v j (by show j ≠ g; omega)
theorem Only.then_below {lo hi : Nat} {a b c : World} (h : Only lo hi a b) (hb : Below a.heap.size b c) : Only lo hi a c :=
  ⟨hb.os.trans h.os, hb.tape.trans h.tape, hb.output.trans h.output, Nat.le_trans h.size hb.size, fun k hk hd => (hb.block k hk).trans (h.block k hk hd)⟩
theorem Own.onlyD {w w' : World} {e : TypeId} {B g : Nat} {A : Option Addr} {n c : Nat} {vs : List Value} (h : Own w e B A n c vs) (ho : Only g (g + 1) w w') (hg : g < B) : Own w' e B A n c vs :=
  h.keep fun j hA => by have := h.blk j (by rw [hA]; rfl); exact ho.block j this.2 (by omega)
theorem Cur.belowB {w w' : World} {g n c B : Nat} {A : Option Addr} {zs : List Int} (h : Cur w g A n c zs) (hb : Below B w w') (hg : g < B) (hA : 0 < n → ∀ ad, A = some ad → ad.block < B) : Cur w' g A n c zs where
  cb := (hb.cell (p := ⟨g, 0, none⟩) hg).trans h.cb
  ci := by obtain ⟨i, a, b⟩ := h.ci; exact ⟨i, a, (hb.cell (p := ⟨g, 1, none⟩) hg).trans b⟩
  ch := by obtain ⟨i, a⟩ := h.ch; exact ⟨i, (hb.cell (p := ⟨g, 2, none⟩) hg).trans a⟩
  f1 := (hb.frozen (p := ⟨g, 1, none⟩) hg).trans h.f1
  f2 := (hb.frozen (p := ⟨g, 2, none⟩) hg).trans h.f2
  lt := Nat.lt_of_lt_of_le h.lt hb.size
  rd := ⟨h.rd.1, fun hn => by
    obtain ⟨b, off, e, hc⟩ := h.rd.2 hn
    exact ⟨b, off, e, fun j u hu => (hb.cell (p := ⟨b, off + j, none⟩) (by exact hA hn ⟨b, off, none⟩ e)).trans (hc j u hu)⟩⟩
  far := h.far
  le := h.le
  byte := h.byte
theorem and255 (x : Int) : 0 ≤ bits .and .i64 x 255 ∧ bits .and .i64 x 255 ≤ 255 := by
  unfold bits
  have h : ((BitVec.ofInt 64 x) &&& (BitVec.ofInt 64 255)).toNat ≤ 255 := by
    rw [BitVec.toNat_and]
    exact Nat.le_trans Nat.and_le_right (by decide)
  show 0 ≤ IntKind.i64.wrap (((BitVec.ofInt 64 x) &&& (BitVec.ofInt 64 255)).toNat : Int) ∧ IntKind.i64.wrap (((BitVec.ofInt 64 x) &&& (BitVec.ofInt 64 255)).toNat : Int) ≤ 255
  rw [IntWalk.i64_in _ (by omega)]
  omega

/-- A new cursor. -/
def RetCur (A : Option Addr) (n c : Nat) (zs : List Int) (w : World) (e : Ending) (w' : World) : Prop :=
  ∃ g, w.heap.size ≤ g ∧ e = .returned (.pointer (some ⟨g, 0, none⟩)) ∧ Cur w' g A n c zs ∧ Below w.heap.size w w'
/-- A number that has been drawn. -/
def RetD (lo hi : Int) (g : Nat) (A : Option Addr) (n c : Nat) (zs : List Int) (w : World) (e : Ending) (w' : World) : Prop :=
  ∃ x : Int, lo ≤ x ∧ x ≤ hi ∧ e = .returned (.int .i64 x) ∧ Cur w' g A n c zs ∧ Only g (g + 1) w w'

theorem RetCur.new {A : Option Addr} {n c : Nat} {zs : List Int} {w : World} (h : Rd w A n (uv zs)) (hn : n ≤ 1000000000) (hz : ∀ z ∈ zs, 0 ≤ z ∧ z ≤ 255) (H : Int) :
    RetCur A n c zs w (.returned (.pointer (some ⟨w.heap.size, 0, none⟩))) (w.alloc (.cells #[.slice A n c, .int .i64 0, .int .i64 H] 84)) := by
  refine ⟨w.heap.size, Nat.le_refl _, rfl, ?_, (Below.refl _ _).alloc (Nat.le_refl _) _⟩
  refine ⟨?_, ⟨0, Nat.zero_le _, ?_⟩, ⟨H, ?_⟩, ?_, ?_, by simp, h.alloc _, fun hn ad e he => ?_, hn, hz⟩
  · rw [World.cell?_alloc_new]; rfl
  · rw [World.cell?_alloc_new]; rfl
  · rw [World.cell?_alloc_new]; rfl
  · simp [go_sem]
  · simp [go_sem]
  · have := h.lt hn ad e
    omega

set_option maxRecDepth 20000 in
set_option maxHeartbeats 2000000 in
theorem l1New_any (A : Option Addr) (n c : Nat) (zs : List Int) (w : World) (h : Rd w A n (uv zs)) (hn : n ≤ 1000000000) (hz : ∀ z ∈ zs, 0 ≤ z ∧ z ≤ 255) :
    Calls Tryz.prog 44 #[.slice A n c] w (RetCur A n c zs w) := by
  have HR := Lib.hid h
  have HZ := Lib.hid hz
  clear h hz
  go_enter Tryz.func44, Tryz.ntmps44
  go_wp2_with fail
  go_loop [3, 4] (fun hv ix => ∃ (i : Nat) (H : Int), i ≤ n ∧ ix = .int .i64 i ∧ hv = .int .i64 H) (fun _ ix => n - (intOf ix).toNat)
  case atStart => exact ⟨0, _, Nat.zero_le _, rfl, rfl⟩
  case round =>
    obtain ⟨i, H, hi, rfl, rfl⟩ := hrel
    by_cases h1 : i < n
    · by_cases h2 : i < 4000
      · obtain ⟨b, off, z, rfl, hz, hc⟩ := HR.out.atu h1
        have hzb := HZ.out z (List.mem_of_getElem? hz)
        have i1 : (0 : Int) ≤ (i : Int) := by omega
        have i2 : (i : Int) < (n : Int) := by omega
        have i3 : (i : Int) < 4000 := by omega
        clear hz
        go_wp2_with fail
        go_round
        case rel => exact ⟨i + 1, _, by omega, by go_num, rfl⟩
        case measure => simp [intOf]; omega
      · have i2 : (i : Int) < (n : Int) := by omega
        have i3 : ¬ (i : Int) < 4000 := by omega
        go_wp2_with fail
        go_ret
        exact RetCur.new HR.out hn HZ.out _
    · go_wp2_with fail
      go_ret
      exact RetCur.new HR.out hn HZ.out _

set_option maxRecDepth 20000 in
set_option maxHeartbeats 2000000 in
theorem l1Byte_any (g : Nat) (A : Option Addr) (n c : Nat) (zs : List Int) (w : World) (h : Cur w g A n c zs) :
    Calls Tryz.prog 84 #[.pointer (some ⟨g, 0, none⟩)] w (RetD 0 255 g A n c zs w) := by
  have HC := Lib.hid h
  obtain ⟨cb, ⟨i0, hi0, ci⟩, ⟨H, ch⟩, f1, f2, lt, rd, far, le, byte⟩ := h
  have HR := Lib.hid rd
  have HZ := Lib.hid byte
  have HFAR := Lib.hid far
  clear rd byte far
  go_enter Tryz.func84, Tryz.ntmps84
  go_wp2_with fail
  generalize wrap64 (wrap64 (H * 6364136223846793005) + 1442695040888963407) = H2
  have C2 := HC.out.setH H2
  have O2 := (Only.refl g (g + 1) w).set 2 (.int .i64 H2)
  generalize w.setCell ⟨g, 2, none⟩ (.int .i64 H2) = w2 at C2 O2 ⊢
  clear cb ci ch f1 f2 lt
  have HC2 := Lib.hid C2
  obtain ⟨cb, ⟨i, hi, ci⟩, ⟨H3, ch⟩, f1, f2, lt, rd, far, le2, byte⟩ := C2
  have HR2 := Lib.hid rd
  clear rd byte far
  go_quiet (fail)
  go_wp2_with fail
  have hX := and255 (bits .xor .i64 (H3 / 8589934592) (H3 / 35184372088832))
  generalize bits .and .i64 (bits .xor .i64 (H3 / 8589934592) (H3 / 35184372088832)) 255 = X at hX ⊢
  have HO2 := Lib.hid O2
  by_cases hlt : i < n
  · obtain ⟨b, off, z, rfl, hz, hcz⟩ := HR2.out.atu hlt
    have hzb := HZ.out z (List.mem_of_getElem? hz)
    have i1 : (0 : Int) ≤ (i : Int) := by omega
    have i2 : (i : Int) < (n : Int) := by omega
    have u1 : IntKind.i64.wrap (X + z) = X + z := IntWalk.i64_in _ (by omega)
    have u2 : IntKind.i64.wrap ((i : Int) + 1) = (i : Int) + 1 := IntWalk.i64_in _ (by omega)
    clear hz O2
    go_quiet (fail)
    go_wp2_with fail
    go_quiet (fail)
    go_wp2_with fail
    have hY := and255 (X + z)
    generalize bits .and .i64 (X + z) 255 = Y at hY ⊢
    go_ret
    exact ⟨Y, hY.1, hY.2, rfl, (HC2.out.drewN _).setI (i + 1) (by omega) (by omega), (HO2.out.drewN _).set 1 _⟩
  · have i2 : ¬ (i : Int) < (n : Int) := by omega
    clear O2
    go_quiet (fail)
    go_wp2_with fail
    go_ret
    exact ⟨X, hX.1, hX.2, rfl, HC2.out.drewN _, HO2.out.drewN _⟩

set_option maxRecDepth 20000 in
set_option maxHeartbeats 2000000 in
theorem l1Below_any (m : Nat) (hm1 : 1 ≤ m) (hm2 : m ≤ 256) (g : Nat) (A : Option Addr) (n c : Nat) (zs : List Int) (w : World) (h : Cur w g A n c zs) :
    Calls Tryz.prog 46 #[.pointer (some ⟨g, 0, none⟩), .int .i64 m] w (RetD 0 ((m : Int) - 1) g A n c zs w) := by
  have HC := Lib.hid h
  clear h
  have h1 : ¬ (m : Int) ≤ 0 := by omega
  have h2 : (m : Int) ≤ 256 := by omega
  have n0 : ((m : Int) == 0) = false := by rw [beq_eq_false_iff_ne]; omega
  have n0' : ¬ (m : Int) = 0 := by omega
  have n0'' : ¬ m = 0 := by omega
  go_enter Tryz.func46, Tryz.ntmps46
  go_wp2_with fail
  refine (l1Byte_any _ _ _ _ _ _ HC.out).mono ?_
  rintro e w1 ⟨x, hx0, hx1, rfl, hc, ho⟩
  have C1 := Lib.hid hc
  have O1 := Lib.hid ho
  obtain ⟨y, hy⟩ : ∃ y, y = x % (m : Int) := ⟨_, rfl⟩
  have hy2 : 0 ≤ y ∧ y < m := by rw [hy]; exact ⟨Int.emod_nonneg _ (by omega), Int.emod_lt_of_pos _ (by omega)⟩
  have m1 : Int.tmod x (m : Int) = y := by rw [hy, Int.tmod_eq_emod_of_nonneg hx0]
  have m2 : x % (m : Int) = y := hy.symm
  have u1 : IntKind.i64.wrap y = y := IntWalk.i64_in _ (by omega)
  clear hc ho hy
  go_wp2_with fail
  go_ret
  exact ⟨y, hy2.1, by omega, rfl, C1.out, O1.out⟩

/-- A bool that has been drawn. -/
def RetDB (g : Nat) (A : Option Addr) (n c : Nat) (zs : List Int) (w : World) (e : Ending) (w' : World) : Prop :=
  ∃ x : Bool, e = .returned (.bool x) ∧ Cur w' g A n c zs ∧ Only g (g + 1) w w'
set_option maxRecDepth 20000 in
set_option maxHeartbeats 2000000 in
theorem l1Once_any (m : Nat) (hm1 : 1 ≤ m) (hm2 : m ≤ 256) (g : Nat) (A : Option Addr) (n c : Nat) (zs : List Int) (w : World) (h : Cur w g A n c zs) :
    Calls Tryz.prog 51 #[.pointer (some ⟨g, 0, none⟩), .int .i64 m] w (RetDB g A n c zs w) := by
  have HC := Lib.hid h
  clear h
  go_enter Tryz.func51, Tryz.ntmps51
  go_wp2_with fail
  refine (l1Below_any m hm1 hm2 _ _ _ _ _ _ HC.out).mono ?_
  rintro e w1 ⟨x, hx0, hx1, rfl, hc, ho⟩
  have C1 := Lib.hid hc
  have O1 := Lib.hid ho
  clear hc ho
  go_wp2_with fail
  go_ret
  exact ⟨_, rfl, C1.out, O1.out⟩

/-- A text that has been drawn. -/
def RetDS (p : List UInt8 → Prop) (g : Nat) (A : Option Addr) (n c : Nat) (zs : List Int) (w : World) (e : Ending) (w' : World) : Prop :=
  ∃ l : List UInt8, p l ∧ e = .returned (.string (bs l)) ∧ Cur w' g A n c zs ∧ Only g (g + 1) w w'

end Go.Proofs.YtghfhkbncjgaeaaGreat

namespace Go.Proofs.YtghfhkbncjgaeaaGreat
set_option linter.unusedVariables false
open Go.RowKit

theorem hat_apD {x y : List UInt8} : ∀ k, k ≤ x.length → hat (x ++ y) k = hat x k
  | 0, _ => rfl
  | k + 1, h => by rw [hat, hat, hat_apD k (by omega), List.getElem?_append_left (by omega)]
theorem okB_apD {x y : List UInt8} : ∀ k, k ≤ x.length → okB (x ++ y) k = okB x k
  | 0, _ => rfl
  | k + 1, h => by rw [okB, okB, okB_apD k (by omega), List.getElem?_append_left (by omega), hat_apD (k + 1) h]
/-- A word on the way: u letters u, d letters d. -/
structure WdP (l : List UInt8) (u d : Nat) : Prop where
  len : l.length = u + d
  ok : okB l l.length = true
  ht : hat l l.length = (u : Int) - d
theorem WdP.nil : WdP [] 0 0 := ⟨rfl, rfl, rfl⟩
theorem WdP.up {l : List UInt8} {u d : Nat} (h : WdP l u d) : WdP (l ++ [117]) (u + 1) d where
  len := by simp [h.len]; omega
  ok := by
    rw [List.length_append, List.length_singleton]
    exact okB_u (by rw [okB_apD _ (Nat.le_refl _)]; exact h.ok) (by rw [List.getElem?_append_right (Nat.le_refl _), Nat.sub_self]; rfl)
  ht := by
    rw [List.length_append, List.length_singleton, hat_u (by rw [List.getElem?_append_right (Nat.le_refl _), Nat.sub_self]; rfl), hat_apD _ (Nat.le_refl _), h.ht]
    omega
theorem WdP.down {l : List UInt8} {u d : Nat} (h : WdP l u d) (hlt : d < u) : WdP (l ++ [100]) u (d + 1) where
  len := by simp [h.len]; omega
  ok := by
    rw [List.length_append, List.length_singleton]
    exact okB_d (by rw [okB_apD _ (Nat.le_refl _)]; exact h.ok) (by rw [List.getElem?_append_right (Nat.le_refl _), Nat.sub_self]; rfl) (by rw [hat_apD _ (Nat.le_refl _), h.ht]; omega)
  ht := by
    rw [List.length_append, List.length_singleton, hat_d (by rw [List.getElem?_append_right (Nat.le_refl _), Nat.sub_self]; rfl) (by decide), hat_apD _ (Nat.le_refl _), h.ht]
    omega
theorem WdP.dyck {l : List UInt8} {n : Nat} (h : WdP l n n) (hn : n ≤ 8) : dyck l = true := by
  unfold Go.Proofs.YtghfhkbncjgaeaaGreat.dyck pathB
  rw [h.ok, h.ht, h.len]
  simp
  omega

/-- What goes on from here lies among all paths. -/
def SubP (m : Nat) (l : List UInt8) (u d : Nat) : Prop := ∀ y ∈ pth (2 * m - (u + d)) l (m - u) (m - d), y ∈ paths m
theorem SubP.nil (m : Nat) : SubP m [] 0 0 := fun y hy => hy
theorem SubP.up {m : Nat} {l : List UInt8} {u d : Nat} (h : SubP m l u d) (hu : u < m) (hd : d < m) : SubP m (l ++ [117]) (u + 1) d := fun y hy => by
  apply h
  rw [show 2 * m - (u + d) = (2 * m - (u + 1 + d)) + 1 by omega, pth_go (by omega), if_pos (by omega)]
  exact List.mem_append_left _ (by rw [show m - u - 1 = m - (u + 1) by omega]; exact hy)
theorem SubP.down {m : Nat} {l : List UInt8} {u d : Nat} (h : SubP m l u d) (hum : u ≤ m) (hlt : d < u) : SubP m (l ++ [100]) u (d + 1) := fun y hy => by
  apply h
  rw [show 2 * m - (u + d) = (2 * m - (u + (d + 1))) + 1 by omega, pth_go (by omega), if_pos (show m - u < m - d by omega)]
  exact List.mem_append_right _ (by rw [show m - d - 1 = m - (d + 1) by omega]; exact hy)
theorem SubP.fin {m : Nat} {l : List UInt8} (h : SubP m l m m) : l ∈ paths m := h l (by rw [Nat.sub_self, pth_done]; simp)


end Go.Proofs.YtghfhkbncjgaeaaGreat
