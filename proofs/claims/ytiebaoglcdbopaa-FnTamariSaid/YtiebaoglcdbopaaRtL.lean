/- Rotations climb and are undone; a tree has as many neighbours as nodes but one; equal slices of ints. -/
import Derived.Test.YtiebaoglcdbopaaRotLr
import Derived.Test.YtiebaoglcdbopaaLeftComb
import Derived.Test.YtiebaoglcdbopaaRightComb
import Derived.Test.YtiebaoglcdbopaaWtS2
import Derived.Test.YtiebaoglcdbopaaSameW
namespace Go.Proofs.Ytiebaoglcdbopaa
set_option linter.unusedVariables false
open Go.RowKit Go.Deep

theorem atB_some {f : Tr → Nat → Option Tr} {l : List UInt8} {v : Int} {X : Tr} (h : atB f l v = some X) : ∃ T k, l = tx T ∧ nodes T ≤ 8 ∧ sh T = T ∧ f T k = some X := by
  rcases isB_cases l with hn | ⟨T, rfl, h8, hs⟩
  · rw [atB_no hn] at h; cases h
  · by_cases hv : v < 0 ∨ (nodes T : Int) ≤ v
    · rw [atB_out h8 hv] at h; cases h
    · obtain ⟨k, rfl⟩ : ∃ k : Nat, v = k := ⟨v.toNat, by omega⟩
      rw [atB_in h8 hs (by omega)] at h
      exact ⟨T, k, rfl, h8, hs, h⟩
theorem oT_true {o : Option Tr} (h : (oT o).2 = true) : ∃ X, o = some X := by
  cases o with
  | none => cases h
  | some X => exact ⟨X, rfl⟩

structure RR (l x : List UInt8) : Prop where
  bin : isB x = true
  less : tlessB l x = true
  ne : (l == x) = false
  nb : l ∈ nbB x
  len : x.length ≤ 1000
theorem rr_of {l : List UInt8} {v : Int} (h : (rotRB l v).2 = true) : RR l (rotRB l v).1 := by
  obtain ⟨X, hX⟩ := oT_true h
  have e1 : (rotRB l v).1 = tx X := by unfold rotRB; rw [hX]; rfl
  rw [e1]
  obtain ⟨T, k, rfl, h8, hs, hr⟩ := atB_some hX
  obtain ⟨hk, hn, hsm, hw⟩ := rotR_up hr
  have hsx := rotR_sh hs hr
  obtain ⟨u, hu⟩ := rot_inv hs hr
  refine ⟨isB_tx (by omega), (tless_iff h8 (by omega)).2 hw, ?_, nb_L (by omega) hsx (rotL_lt hu) hu, by rw [tx_len]; omega⟩
  rw [beq_eq_false_iff_ne]
  intro he
  have := tx_inj he
  rw [hs, hsx] at this
  rw [this] at hsm
  omega
theorem rl_of {l : List UInt8} {v : Int} (h : (rotLB l v).2 = true) : tlessB (rotLB l v).1 l = true ∧ (rotLB l v).1.length ≤ 1000 := by
  obtain ⟨X, hX⟩ := oT_true h
  have e1 : (rotLB l v).1 = tx X := by unfold rotLB; rw [hX]; rfl
  rw [e1]
  obtain ⟨T, k, rfl, h8, hs, hr⟩ := atB_some hX
  obtain ⟨u, hu⟩ := rot_invL hs hr
  obtain ⟨hk, hn, hsm, hw⟩ := rotR_up hu
  exact ⟨(tless_iff (by omega) h8).2 hw, by rw [tx_len]; omega⟩
theorem rr_len {l : List UInt8} {v : Int} : (rotRB l v).1.length ≤ 1000 := by
  rcases hb : (rotRB l v).2 with _ | _
  · unfold rotRB at *
    rcases h : atB rotR l v with _ | X
    · simp [oT]
    · rw [h] at hb; cases hb
  · exact (rr_of hb).len

/-- How many of the first k nodes satisfy p. -/
def cp (p : Tr → Bool) (t : Tr) : Nat → Nat
  | 0 => 0
  | k + 1 => cp p t k + (if p (nodeAt t k) then 1 else 0)
theorem cp_left (p : Tr → Bool) {b o : Nat} {a : Unit} {l r : Tr} : ∀ k, k ≤ nodes l → cp p (.node b o a l r) k = cp p l k
  | 0, _ => rfl
  | k + 1, h => by
    rw [cp, cp, cp_left p k (by omega)]
    have : nodeAt (.node b o a l r) k = nodeAt l k := by rw [nodeAt, if_pos (by omega)]
    rw [this]
theorem cp_right (p : Tr → Bool) {b o : Nat} {a : Unit} {l r : Tr} : ∀ j, cp p (.node b o a l r) (nodes l + 1 + j) = cp p (.node b o a l r) (nodes l + 1) + cp p r j
  | 0 => rfl
  | j + 1 => by
    rw [← Nat.add_assoc, cp, cp_right p j, cp.eq_def p r (j + 1)]
    have : nodeAt (.node b o a l r) (nodes l + 1 + j) = nodeAt r j := by
      rw [nodeAt, if_neg (by omega), if_neg (by omega)]
      congr 1
      omega
    rw [this]
    simp only []
    omega
theorem cp_node (p : Tr → Bool) (b o : Nat) (a : Unit) (l r : Tr) : cp p (.node b o a l r) (nodes (.node b o a l r)) = cp p l (nodes l) + (if p (.node b o a l r) then 1 else 0) + cp p r (nodes r) := by
  have e : nodes (.node b o a l r) = nodes l + 1 + nodes r := by simp only [nodes]; omega
  rw [e, cp_right, cp, cp_left p _ (Nat.le_refl _)]
  have : nodeAt (.node b o a l r) (nodes l) = .node b o a l r := by rw [nodeAt, if_neg (by omega), if_pos rfl]
  rw [this]
def pL (t : Tr) : Bool := (rotRt t).isSome
def pR (t : Tr) : Bool := (rotLt t).isSome
theorem cp_both (t : Tr) : cp pL t (nodes t) + cp pR t (nodes t) = nodes t - 1 := by
  induction t with
  | nil => rfl
  | node b o a l r ihl ihr =>
    rw [cp_node, cp_node]
    have e : nodes (.node b o a l r) = nodes l + 1 + nodes r := by simp only [nodes]; omega
    rw [e]
    have h1 : (if pL (.node b o a l r) then 1 else 0) = (if nodes l = 0 then 0 else 1) := by
      cases l with
      | nil => rfl
      | node _ _ _ _ _ => rw [if_pos (show pL _ = true from rfl), if_neg (by simp only [nodes]; omega)]
    have h2 : (if pR (.node b o a l r) then 1 else 0) = (if nodes r = 0 then 0 else 1) := by
      cases r with
      | nil => cases l <;> rfl
      | node _ _ _ _ _ => rw [if_pos (show pR _ = true by cases l <;> rfl), if_neg (by simp only [nodes]; omega)]
    rw [h1, h2]
    split <;> split <;> omega
theorem rts_cp {f : Tr → Nat → Option Tr} {p : Tr → Bool} {t : Tr} (h : ∀ k, p (nodeAt t k) = (f t k).isSome) : ∀ k, (rts f t k).length = cp p t k
  | 0 => rfl
  | k + 1 => by
    rw [cp, h k]
    rcases hf : f t k with _ | x
    · rw [rts_none hf, rts_cp h k]; rfl
    · rw [rts_some hf, List.length_append, rts_cp h k]; rfl
theorem nb_count {t : Tr} (h8 : nodes t ≤ 8) (hs : sh t = t) : (nbB (tx t)).length = nodes t - 1 := by
  unfold nbB
  rw [List.length_append, rtsB_tx h8 hs, rtsB_tx h8 hs, rts_cp (p := pL) (by intro k; simp [rotR, pL]), rts_cp (p := pR) (by intro k; simp [rotL, pR]), cp_both]

structure BI (l : List UInt8) (n : Nat) : Prop where
  back : bwB (wtsB l) = (l, true)
  nod : nodesB l = n
  n8 : n ≤ 8
  cnt : 0 < n → (nbB l).length = n - 1
  cr : crB l ≤ n
theorem bi_of {l : List UInt8} (h : isB l = true) : ∃ n, BI l n := by
  obtain ⟨t, rfl, h8, hs⟩ := isB_iff.1 h
  refine ⟨nodes t, ?_, nodesB_tx h8, h8, fun _ => nb_count h8 hs, ?_⟩
  · unfold bwB; rw [wtsB_tx h8, bw_wts h8, hs]; rfl
  · rw [crB_tx h8 hs]; exact (ctR_bd t _).2
theorem nb_len (l : List UInt8) : (nbB l).length ≤ 16 := by
  unfold nbB
  rw [List.length_append]
  have := rtsB_len rotR l
  have := rtsB_len rotL l
  omega
theorem crB_lo (l : List UInt8) : -1 ≤ crB l ∧ crB l ≤ 8 := by
  rcases isB_cases l with h | ⟨t, rfl, h8, hs⟩
  · rw [crB_no h]; omega
  · rw [crB_tx h8 hs]; have := ctR_bd t (nodes t); omega

def rcB (n : Int) : List UInt8 × Bool := if 0 ≤ n ∧ n ≤ 8 then (rcT n.toNat, true) else ([], false)
theorem rcB_len (n : Int) : (rcB n).1.length ≤ 1000 := by
  unfold rcB
  split
  · show (rcT _).length ≤ _; rw [rcT_len]; omega
  · simp
theorem lcB_len (n : Int) : (lcB n).1.length ≤ 1000 := by
  unfold lcB
  split
  · show (tx _).length ≤ _; rw [tx_len, nodes_mir, rcTr_nodes]; omega
  · simp
theorem lc_rc (n : Int) (h : (rcB n).2 = true) : tlessB (lcB n).1 (rcB n).1 = true := by
  unfold rcB at h
  split at h
  · next hn =>
    obtain ⟨k, rfl⟩ : ∃ k : Nat, n = k := ⟨n.toNat, by omega⟩
    have : k = 0 ∨ k = 1 ∨ k = 2 ∨ k = 3 ∨ k = 4 ∨ k = 5 ∨ k = 6 ∨ k = 7 ∨ k = 8 := by omega
    rcases this with rfl | rfl | rfl | rfl | rfl | rfl | rfl | rfl | rfl <;> decide +kernel
  · cases h
theorem specRightComb_any (n : Int) (w : World) :
    Calls Try.prog 53 #[.int .i64 n] w fun e w' => e = .returned (.tuple #[.string (bs (rcB n).1), .bool (rcB n).2]) ∧ w = w' := by
  by_cases h : 0 ≤ n ∧ n ≤ 8
  · obtain ⟨k, rfl⟩ : ∃ k : Nat, n = k := ⟨n.toNat, by omega⟩
    have e : rcB (k : Int) = (rcT k, true) := by unfold rcB; rw [if_pos h]; rfl
    rw [e]
    exact specRightComb_good k (by omega) w
  · have e : rcB n = ([], false) := by unfold rcB; rw [if_neg h]
    rw [e]
    exact specRightComb_bad n (by omega) w
theorem implRightComb_any (n : Int) (w : World) :
    Calls Try.prog 52 #[.int .i64 n] w fun e w' => e = .returned (.tuple #[.string (bs (rcB n).1), .bool (rcB n).2]) ∧ Below w.heap.size w w' := by
  by_cases h : 0 ≤ n ∧ n ≤ 8
  · obtain ⟨k, rfl⟩ : ∃ k : Nat, n = k := ⟨n.toNat, by omega⟩
    have e : rcB (k : Int) = (rcT k, true) := by unfold rcB; rw [if_pos h]; rfl
    rw [e]
    exact implRightComb_good k (by omega) w
  · have e : rcB n = ([], false) := by unfold rcB; rw [if_neg h]
    rw [e]
    exact (implRightComb_bad n (by omega) w).mono fun e w' ⟨h1, h2⟩ => ⟨h1, by rw [← h2]; exact Below.refl _ _⟩

set_option maxHeartbeats 1000000 in
theorem sameInts_eq (A B : Option Addr) (n c d : Nat) (xs : List Int) (w : World) (h : Rd w A n (iv xs)) (h' : Rd w B n (iv xs)) (hn : n ≤ 1000000000) :
    Calls Try.prog 41 #[.slice A n c, .slice B n d] w fun e w' => e = .returned (.bool true) ∧ Below w.heap.size w w' := by
  have HA := Lib.hid h
  have HB := Lib.hid h'
  clear h h'
  have e0 : ((n : Int) != (n : Int)) = false := by simp
  go_enter Try.func41, Try.ntmps41
  go_wp2_with fail
  go_loopw [5] (fun ix wr => ∃ i d : Nat, i ≤ n ∧ ix = .int .i64 i ∧ wr = w.drewN d) (fun ix _ => n - (intOf ix).toNat)
  case atStart => exact ⟨0, 0, Nat.zero_le _, rfl, rfl⟩
  case round =>
    obtain ⟨i, d, hi, rfl, rfl⟩ := hrel
    by_cases hlt : i < n
    · obtain ⟨b1, o1, x, rfl, hx, hcx⟩ := HA.out.ati hlt
      obtain ⟨b2, o2, y, rfl, hy, hcy⟩ := HB.out.ati hlt
      rw [hx] at hy
      injection hy with hy
      subst hy
      have i1 : (0 : Int) ≤ (i : Int) := by omega
      have i2 : (i : Int) < (n : Int) := by omega
      have e1 : (x != x) = false := by simp
      clear hx
      go_wp2_with fail
      go_quiet (fail)
      go_wp2_with fail
      go_roundw
      case rel => exact ⟨i + 1, _, by omega, by go_num, rfl⟩
      case measure => simp [intOf]; omega
    · go_wp2_with fail
      go_ret
      exact ⟨rfl, below_of_drewN ⟨d, rfl⟩⟩

end Go.Proofs.Ytiebaoglcdbopaa
