/- Merged: CmpL MtL. -/
import Derived.Test.YtghfhkbncjgaeaaGreatMg14
import Derived.Test.YtghfhkbncjgaeaaGreatMg4
import Derived.Test.YtghfhkbncjgaeaaGreatMg6

namespace Go.Proofs.YtghfhkbncjgaeaaGreat
set_option linter.unusedVariables false
open Go.RowKit

/-- After k elements of the block b. -/
def mpS (b : List Int) (out : List Int) : Nat → List Int
  | 0 => out
  | k + 1 => ((mpS b out k).set (2 * (b.getD k 0).toNat + 1) (2 * b.getD ((k + 1) % b.length) 0)).set (2 * (b.getD ((k + 1) % b.length) 0).toNat) (2 * b.getD k 0 + 1)
def mpB (bs : List (List Int)) (out : List Int) : Nat → List Int
  | 0 => out
  | i + 1 => mpS (bs.getD i []) (mpB bs out i) (bs.getD i []).length
def mop (p : List Int) : List Int := mpB (blocksB p) (List.replicate (2 * p.length) 0) (blocksB p).length
def matAt (m : List Int) (i : Nat) : Bool := inB (m.getD i 0) 0 ((m.length : Int) - 1) && decide (m.getD i 0 ≠ i) && decide (m.getD (m.getD i 0).toNat 0 = i)
def isMat (m : List Int) : Bool := decide (m.length ≤ 16) && (List.range m.length).all (matAt m)

/-- The elements below k with the number v. -/
def rowE (xs : List Int) (v k : Nat) : List Int := ((List.range k).filter fun j => decide (xs.getD j 0 = (v : Int))).map fun (j : Nat) => (j : Int)
theorem rowE_succ (xs : List Int) (v k : Nat) : rowE xs v (k + 1) = rowE xs v k ++ (if xs.getD k 0 = (v : Int) then [(k : Int)] else []) := by
  unfold rowE
  rw [List.range_succ, List.filter_append, List.map_append]
  congr 1
  by_cases h : xs.getD k 0 = (v : Int)
  · have e : decide (xs.getD k 0 = (v : Int)) = true := decide_eq_true h
    rw [if_pos h]
    simp only [List.filter_cons, e, if_true, List.filter_nil, List.map_cons, List.map_nil]
  · have e : decide (xs.getD k 0 = (v : Int)) = false := decide_eq_false h
    rw [if_neg h]
    simp only [List.filter_cons, e, Bool.false_eq_true, if_false, List.filter_nil, List.map_nil]
theorem mem_rowE {xs : List Int} {v k : Nat} {x : Int} : x ∈ rowE xs v k ↔ ∃ j : Nat, j < k ∧ xs.getD j 0 = (v : Int) ∧ x = (j : Int) := by
  unfold rowE
  simp only [List.mem_map, List.mem_filter, List.mem_range, decide_eq_true_eq]
  constructor
  · rintro ⟨j, ⟨h1, h2⟩, rfl⟩; exact ⟨j, h1, h2, rfl⟩
  · rintro ⟨j, h1, h2, rfl⟩; exact ⟨j, ⟨h1, h2⟩, rfl⟩
theorem rowE_nodup (xs : List Int) (v k : Nat) : (rowE xs v k).Nodup := by
  unfold rowE
  rw [List.nodup_iff_pairwise_ne, List.pairwise_map]
  refine List.Pairwise.imp ?_ (List.Pairwise.filter _ List.nodup_range)
  intro a b h e
  exact h (by omega)
theorem nx_mono (xs : List Int) {j k : Nat} (h : j ≤ k) : nx xs j ≤ nx xs k := by
  induction k with
  | zero => obtain rfl : j = 0 := by omega
            exact Int.le_refl _
  | succ k ih =>
    rcases Nat.lt_or_ge j (k + 1) with h1 | h1
    · have := ih (by omega)
      rw [nx]
      split <;> omega
    · obtain rfl : j = k + 1 := by omega
      exact Int.le_refl _
theorem lt_nx {xs : List Int} (h : isPar xs = true) {j k : Nat} (hj : j < k) (hk : k ≤ xs.length) : 0 ≤ xs.getD j 0 ∧ xs.getD j 0 < nx xs k := by
  have hx : xs[j]? = some (xs.getD j 0) := by rw [List.getD_eq_getElem?_getD, List.getElem?_eq_getElem (by omega)]; rfl
  obtain ⟨a, _, b⟩ := isPar_at h hx
  have h2 := nx_mono xs (show j + 1 ≤ k by omega)
  rw [nx_step hx] at h2
  refine ⟨a, ?_⟩
  split at h2 <;> omega
theorem blk_eq {xs : List Int} (h : isPar xs = true) : ∀ k, k ≤ xs.length → blk xs k = (List.range (nx xs k).toNat).map fun v => rowE xs v k
  | 0, _ => by simp [blk, nx]
  | k + 1, hk => by
    have ih := blk_eq h k (by omega)
    have hx : xs[k]? = some (xs.getD k 0) := by rw [List.getD_eq_getElem?_getD, List.getElem?_eq_getElem (by omega)]; rfl
    obtain ⟨x0, _, x1⟩ := isPar_at h hx
    have hn0 := (nx_bd xs k).1
    by_cases he : nx xs k = xs.getD k 0
    · have hz : rowE xs (nx xs k).toNat k = [] := by
        rw [List.eq_nil_iff_forall_not_mem]
        intro x hm
        obtain ⟨j, hj, hv, _⟩ := mem_rowE.1 hm
        have := (lt_nx h hj (by omega)).2
        omega
      rw [blk_new hx he x0 (blk_len k (by omega)), nx_step hx, if_pos he.symm, show (nx xs k + 1).toNat = (nx xs k).toNat + 1 by omega, List.range_succ, List.map_append, ih]
      congr 1
      · refine List.map_congr_left fun v hv => ?_
        rw [rowE_succ, if_neg (by have := List.mem_range.1 hv; omega), List.append_nil]
      · rw [List.map_singleton, rowE_succ, hz, if_pos (by omega)]; rfl
    · rw [blk_old hx he, nx_step hx, if_neg (fun e => he e.symm), ih]
      apply List.ext_getElem?
      intro v
      rw [List.getElem?_set, List.getElem?_map, List.getElem?_map, List.length_map, List.length_range]
      by_cases hv : (xs.getD k 0).toNat = v
      · rw [if_pos hv]
        have hlt : v < (nx xs k).toNat := by omega
        rw [if_pos (by omega), List.getElem?_range hlt]
        subst hv
        rw [List.getD_eq_getElem?_getD (l := List.map _ _), List.getElem?_map, List.getElem?_range hlt]
        simp only [Option.map_some, Option.getD_some]
        rw [rowE_succ, if_pos (by omega)]
      · rw [if_neg hv]
        rcases hr : (List.range (nx xs k).toNat)[v]? with _ | v'
        · rfl
        · have hl := (List.getElem?_eq_some_iff.1 hr).1
          rw [List.length_range] at hl
          rw [List.getElem?_range hl] at hr
          injection hr with hr
          subst hr
          rw [Option.map_some, Option.map_some, rowE_succ, if_neg (by omega), List.append_nil]

/-- What the round over a block leaves. -/
structure MpOk (r : List Int) (out F : List Int) (K : Nat) : Prop where
  len : F.length = out.length
  fst : ∀ k, k < K → F[2 * (r.getD k 0).toNat + 1]? = some (2 * r.getD ((k + 1) % r.length) 0)
  snd : ∀ k, k < K → F[2 * (r.getD ((k + 1) % r.length) 0).toNat]? = some (2 * r.getD k 0 + 1)
  far : ∀ j : Nat, (∀ e ∈ r, j ≠ 2 * e.toNat + 1 ∧ j ≠ 2 * e.toNat) → F[j]? = out[j]?
theorem gD_mem {r : List Int} {k : Nat} (h : k < r.length) : r.getD k 0 ∈ r := by
  rw [List.getD_eq_getElem?_getD, List.getElem?_eq_getElem h]; exact List.getElem_mem h
theorem getD_inj {r : List Int} (hnd : r.Nodup) {j k : Nat} (hj : j < r.length) (hk : k < r.length) (h : r.getD j 0 = r.getD k 0) : j = k := by
  rw [List.getD_eq_getElem?_getD, List.getD_eq_getElem?_getD, List.getElem?_eq_getElem hj, List.getElem?_eq_getElem hk] at h
  exact (List.getElem_inj hnd).1 h
theorem succ_mod {k n : Nat} (h : k < n) : ((k + 1) % n = k + 1 ∧ k + 1 < n) ∨ ((k + 1) % n = 0 ∧ k + 1 = n) := by
  rcases Nat.lt_or_ge (k + 1) n with h1 | h1
  · exact Or.inl ⟨Nat.mod_eq_of_lt h1, h1⟩
  · obtain rfl : n = k + 1 := by omega
    exact Or.inr ⟨Nat.mod_self _, rfl⟩
theorem mpS_ok {r out : List Int} {n : Nat} (hnd : r.Nodup) (hr : ∀ e ∈ r, 0 ≤ e ∧ e < n) (ho : out.length = 2 * n) : ∀ K, K ≤ r.length → MpOk r out (mpS r out K) K
  | 0, _ => ⟨rfl, fun k hk => by omega, fun k hk => by omega, fun _ _ => rfl⟩
  | K + 1, hK => by
    have ih := mpS_ok hnd hr ho K (by omega)
    have hm1 : (K + 1) % r.length < r.length := Nat.mod_lt _ (by omega)
    have ha := hr _ (gD_mem (show K < r.length by omega))
    have hb := hr _ (gD_mem hm1)
    have hsm := succ_mod (show K < r.length by omega)
    have hl : (mpS r out K).length = 2 * n := by rw [ih.len, ho]
    rw [mpS]
    refine ⟨by simp [ih.len], fun k hk => ?_, fun k hk => ?_, fun j hj => ?_⟩
    · rcases Nat.lt_or_ge k K with h1 | h1
      · have hka := hr _ (gD_mem (show k < r.length by omega))
        have hne : r.getD k 0 ≠ r.getD K 0 := fun e => by have := getD_inj hnd (by omega) (by omega) e; omega
        rw [List.getElem?_set_ne (by omega), List.getElem?_set_ne (by omega)]
        exact ih.fst k h1
      · obtain rfl : k = K := by omega
        rw [List.getElem?_set_ne (by omega), List.getElem?_set_self (by omega)]
    · rcases Nat.lt_or_ge k K with h1 | h1
      · have hm2 : (k + 1) % r.length < r.length := Nat.mod_lt _ (by omega)
        have hkb := hr _ (gD_mem hm2)
        have hsk := succ_mod (show k < r.length by omega)
        have hne : r.getD ((k + 1) % r.length) 0 ≠ r.getD ((K + 1) % r.length) 0 := fun e => by have := getD_inj hnd hm2 hm1 e; omega
        rw [List.getElem?_set_ne (by omega), List.getElem?_set_ne (by omega)]
        exact ih.snd k h1
      · obtain rfl : k = K := by omega
        rw [List.getElem?_set_self (by rw [List.length_set]; omega)]
    · have h1 := hj _ (gD_mem (show K < r.length by omega))
      have h2 := hj _ (gD_mem hm1)
      rw [List.getElem?_set_ne (by omega), List.getElem?_set_ne (by omega)]
      exact ih.far j hj
theorem mpB_len (bs : List (List Int)) (out : List Int) : ∀ i, (mpB bs out i).length = out.length
  | 0 => rfl
  | i + 1 => by
    rw [mpB, ← mpB_len bs out i]
    generalize mpB bs out i = o
    have : ∀ (b : List Int) K, (mpS b o K).length = o.length := by
      intro b K
      induction K with
      | zero => rfl
      | succ K ih => rw [mpS]; simp [ih]
    exact this _ _
/-- Rows that share no element: each row's cells stay as it left them. -/
theorem mpB_ok {bs : List (List Int)} {out : List Int} {n : Nat} (hnd : ∀ r ∈ bs, r.Nodup) (hr : ∀ r ∈ bs, ∀ e ∈ r, 0 ≤ e ∧ e < n) (hd : ∀ a b : Nat, ∀ r s : List Int, bs[a]? = some r → bs[b]? = some s → a ≠ b → ∀ e ∈ r, e ∉ s) (ho : out.length = 2 * n) :
    ∀ I, I ≤ bs.length → ∀ a r, a < I → bs[a]? = some r → ∀ k, k < r.length → (mpB bs out I)[2 * (r.getD k 0).toNat + 1]? = some (2 * r.getD ((k + 1) % r.length) 0) ∧ (mpB bs out I)[2 * (r.getD ((k + 1) % r.length) 0).toNat]? = some (2 * r.getD k 0 + 1)
  | 0, _ => fun a r ha => by omega
  | I + 1, hI => by
    intro a r ha hra k hk
    have hs : bs[I]? = some (bs.getD I []) := by rw [List.getD_eq_getElem?_getD, List.getElem?_eq_getElem (by omega)]; rfl
    have hsm := List.mem_of_getElem? hs
    have ok := mpS_ok (hnd _ hsm) (hr _ hsm) (show (mpB bs out I).length = 2 * n by rw [mpB_len]; exact ho) (bs.getD I []).length (Nat.le_refl _)
    rw [mpB]
    by_cases hai : a = I
    · subst hai
      rw [hra] at hs
      injection hs with hs
      rw [← hs] at ok ⊢
      exact ⟨ok.fst k hk, ok.snd k hk⟩
    · have ih := mpB_ok hnd hr hd ho I (by omega) a r (by omega) hra k hk
      have hm2 : (k + 1) % r.length < r.length := Nat.mod_lt _ (by omega)
      have far : ∀ x ∈ r, ∀ e ∈ bs.getD I [], x.toNat ≠ e.toNat := fun x hx e he he2 => by
        have h1 := (hr r (List.mem_of_getElem? hra) x hx).1
        have h2 := (hr _ hsm e he).1
        have : x = e := by omega
        subst this
        exact hd a I r _ hra hs hai x hx he
      rw [ok.far _ (fun e he => by have := far _ (gD_mem hk) e he; omega), ok.far _ (fun e he => by have := far _ (gD_mem hm2) e he; omega)]
      exact ih
theorem mop_len (p : List Int) : (mop p).length = 2 * p.length := by unfold mop; rw [mpB_len, List.length_replicate]
theorem blocks_row {p : List Int} (h : isPar p = true) {a : Nat} {r : List Int} (ha : (blocksB p)[a]? = some r) : r = rowE p a p.length := by
  unfold blocksB at ha
  rw [if_pos h, blk_eq h _ (Nat.le_refl _), List.getElem?_map] at ha
  rcases hr : (List.range (nx p p.length).toNat)[a]? with _ | v
  · rw [hr] at ha; cases ha
  · have hl := (List.getElem?_eq_some_iff.1 hr).1
    rw [List.length_range] at hl
    rw [hr] at ha
    rw [List.getElem?_range hl] at hr
    injection hr with hr
    subst hr
    injection ha with ha
    exact ha.symm
theorem blocks_row' {p : List Int} (h : isPar p = true) {r : List Int} (hr : r ∈ blocksB p) : ∃ a, r = rowE p a p.length := by
  obtain ⟨a, ha, he⟩ := List.mem_iff_getElem.1 hr
  exact ⟨a, blocks_row h (List.getElem?_eq_some_iff.2 ⟨ha, he⟩)⟩
theorem blocks_el {p : List Int} (h : isPar p = true) {r : List Int} (hr : r ∈ blocksB p) {e : Int} (he : e ∈ r) : ∃ j : Nat, e = (j : Int) ∧ j < p.length := by
  obtain ⟨a, rfl⟩ := blocks_row' h hr
  obtain ⟨j, h1, _, h3⟩ := mem_rowE.1 he
  exact ⟨j, h3, h1⟩
/-- The cells of the matching, of each block. -/
theorem mop_at {p : List Int} (h : isPar p = true) {a : Nat} {r : List Int} (ha : (blocksB p)[a]? = some r) {k : Nat} (hk : k < r.length) : (mop p)[2 * (r.getD k 0).toNat + 1]? = some (2 * r.getD ((k + 1) % r.length) 0) ∧ (mop p)[2 * (r.getD ((k + 1) % r.length) 0).toNat]? = some (2 * r.getD k 0 + 1) := by
  refine mpB_ok (n := p.length) ?_ ?_ ?_ (by simp) _ (Nat.le_refl _) a r (List.getElem?_eq_some_iff.1 ha).1 ha k hk
  · intro r hr
    obtain ⟨a, rfl⟩ := blocks_row' h hr
    exact rowE_nodup _ _ _
  · intro r hr e he
    obtain ⟨j, rfl, hj⟩ := blocks_el h hr he
    omega
  · intro a b r s h1 h2 hab e he hs
    rw [blocks_row h h1] at he
    rw [blocks_row h h2] at hs
    obtain ⟨j, _, h3, h4⟩ := mem_rowE.1 he
    obtain ⟨j', _, h5, h6⟩ := mem_rowE.1 hs
    have : j = j' := by omega
    subst this
    omega
theorem mop_mat {p : List Int} (h : isPar p = true) : isMat (mop p) = true := by
  have h8 := (isPar_iff h).1
  have hlen := mop_len p
  unfold isMat
  rw [Bool.and_eq_true, decide_eq_true_eq, List.all_eq_true]
  refine ⟨by omega, fun j hj => ?_⟩
  rw [List.mem_range, hlen] at hj
  -- the element and its row
  have hp := lt_nx h (show j / 2 < p.length by omega) (Nat.le_refl _)
  have hb : (blocksB p)[(p.getD (j / 2) 0).toNat]? = some (rowE p (p.getD (j / 2) 0).toNat p.length) := by
    unfold blocksB
    rw [if_pos h, blk_eq h _ (Nat.le_refl _), List.getElem?_map, List.getElem?_range (by omega)]; rfl
  have hm : ((j / 2 : Nat) : Int) ∈ rowE p (p.getD (j / 2) 0).toNat p.length := mem_rowE.2 ⟨j / 2, by omega, by omega, rfl⟩
  obtain ⟨r, hr⟩ : ∃ r, r = rowE p (p.getD (j / 2) 0).toNat p.length := ⟨_, rfl⟩
  rw [← hr] at hb hm
  have hrm := List.mem_of_getElem? hb
  obtain ⟨k, hk, hke⟩ := List.mem_iff_getElem.1 hm
  have hkd : r.getD k 0 = ((j / 2 : Nat) : Int) := by rw [List.getD_eq_getElem?_getD, List.getElem?_eq_getElem hk]; exact hke
  have fin : ∀ x : Int, (mop p)[j]? = some x → 0 ≤ x → x < 2 * p.length → x ≠ j → (mop p)[x.toNat]? = some (j : Int) → matAt (mop p) j = true := by
    intro x h1 h2 h3 h4 h5
    have e1 : (mop p).getD j 0 = x := by rw [List.getD_eq_getElem?_getD, h1]; rfl
    have e2 : (mop p).getD x.toNat 0 = j := by rw [List.getD_eq_getElem?_getD, h5]; rfl
    unfold matAt
    rw [e1, e2, inB_true (by omega) (by rw [hlen]; omega), decide_eq_true h4]
    simp
  rcases Nat.mod_two_eq_zero_or_one j with h2 | h2
  · -- before the element
    obtain ⟨k', hk', hkk⟩ : ∃ k', k' < r.length ∧ (k' + 1) % r.length = k := by
      rcases Nat.eq_zero_or_pos k with h0 | h0
      · exact ⟨r.length - 1, by omega, by rw [show r.length - 1 + 1 = r.length by omega, Nat.mod_self, h0]⟩
      · exact ⟨k - 1, by omega, by rw [show k - 1 + 1 = k by omega, Nat.mod_eq_of_lt hk]⟩
    obtain ⟨a, b⟩ := mop_at h hb hk'
    rw [hkk, hkd] at a b
    obtain ⟨y, hy, hyl⟩ := blocks_el h hrm (gD_mem hk')
    rw [hy] at a b
    refine fin (2 * (y : Int) + 1) (by rw [← b]; congr 1; omega) (by omega) (by omega) (by omega) ?_
    rw [show (2 * (y : Int) + 1).toNat = 2 * ((y : Int)).toNat + 1 by omega, a]
    congr 1
    omega
  · obtain ⟨a, b⟩ := mop_at h hb hk
    rw [hkd] at a b
    obtain ⟨y, hy, hyl⟩ := blocks_el h hrm (gD_mem (show (k + 1) % r.length < r.length from Nat.mod_lt _ (by omega)))
    rw [hy] at a b
    refine fin (2 * (y : Int)) (by rw [← a]; congr 1; omega) (by omega) (by omega) (by omega) ?_
    rw [show (2 * (y : Int)).toNat = 2 * ((y : Int)).toNat by omega, b]
    congr 1
    omega

/-- The points turned by k, after i of them. -/
def tuS (m : List Int) (k : Int) : Nat → List Int
  | 0 => List.replicate m.length 0
  | i + 1 => (tuS m k i).set (((i : Int) - k + m.length) % m.length).toNat ((m.getD i 0 - k + m.length) % m.length)
theorem tuS_len (m : List Int) (k : Int) : ∀ i, (tuS m k i).length = m.length
  | 0 => by simp [tuS]
  | i + 1 => by simp [tuS, tuS_len m k i]
theorem tuS_bd {m : List Int} (h : 0 < m.length) (k : Int) : ∀ i, ∀ x ∈ tuS m k i, 0 ≤ x ∧ x < m.length
  | 0, x, hx => by rw [tuS] at hx; have := List.eq_of_mem_replicate hx; omega
  | i + 1, x, hx => by
    rw [tuS] at hx
    rcases List.mem_or_eq_of_mem_set hx with h1 | h1
    · exact tuS_bd h k i x h1
    · rw [h1]
      exact ⟨Int.emod_nonneg _ (by omega), Int.emod_lt_of_pos _ (by omega)⟩
def turnM (m : List Int) (k : Int) : List Int × Bool := if isMat m && inB k 0 (max 0 ((m.length : Int) - 1)) then (tuS m k m.length, true) else ([], false)
theorem isMat_len {m : List Int} (h : isMat m = true) : m.length ≤ 16 := by
  unfold isMat at h
  rw [Bool.and_eq_true, decide_eq_true_eq] at h
  exact h.1
theorem isMat_at {m : List Int} (h : isMat m = true) {i : Nat} (hi : i < m.length) : 0 ≤ m.getD i 0 ∧ m.getD i 0 < m.length := by
  unfold isMat at h
  rw [Bool.and_eq_true] at h
  have h1 := List.all_eq_true.1 h.2 i (List.mem_range.2 hi)
  unfold matAt at h1
  rw [Bool.and_eq_true, Bool.and_eq_true] at h1
  have := inB_iff.1 h1.1.1
  omega
theorem isMat_bad {m : List Int} {i : Nat} (hi : i < m.length) (h : matAt m i = false) : isMat m = false := by
  rcases hb : isMat m with _ | _
  · rfl
  · unfold isMat at hb
    rw [Bool.and_eq_true] at hb
    have := List.all_eq_true.1 hb.2 i (List.mem_range.2 hi)
    rw [h] at this; cases this
theorem isMat_ok {m : List Int} (h : ∀ i, i < m.length → matAt m i = true) : isMat m = decide (m.length ≤ 16) := by
  unfold isMat
  rw [show (List.range m.length).all (matAt m) = true from List.all_eq_true.2 fun i hi => h i (List.mem_range.1 hi), Bool.and_true]

/-- Round a cycle from k, the elements get the number i. -/
def cyF (x : List Int) (i : Int) : Nat → List Int → Int → List Int
  | 0, out, _ => out
  | f + 1, out, k => if out.getD k.toNat 0 < 0 then cyF x i f (out.set k.toNat i) (x.getD (2 * k + 1).toNat 0 / 2) else out
def cyA (x : List Int) (n : Nat) : Nat → List Int
  | 0 => List.replicate n (-1)
  | i + 1 => cyF x i (n + 1) (cyA x n i) i
def negs (out : List Int) : Nat := (out.filter fun v => decide (v < 0)).length
theorem negs_le (out : List Int) : negs out ≤ out.length := List.length_filter_le _ _
theorem negs_set : ∀ {out : List Int} {k : Nat} {v i : Int}, out[k]? = some v → v < 0 → 0 ≤ i → negs (out.set k i) + 1 = negs out
  | [], k, v, i, h, _, _ => by simp at h
  | a :: out, 0, v, i, h, hv, hi => by
    simp at h
    subst h
    unfold negs
    simp [hv, Int.not_lt.2 hi]
  | a :: out, k + 1, v, i, h, hv, hi => by
    simp at h
    have := negs_set h hv hi
    unfold negs at this ⊢
    rw [List.set_cons_succ]
    by_cases ha : a < 0
    · simp [ha]; omega
    · simp [ha]; omega
theorem cyF_len (x : List Int) (i : Int) : ∀ f out k, (cyF x i f out k).length = out.length
  | 0, _, _ => rfl
  | f + 1, out, k => by rw [cyF]; split; rw [cyF_len]; simp; rfl
theorem cyA_len (x : List Int) (n : Nat) : ∀ i, (cyA x n i).length = n
  | 0 => by simp [cyA]
  | i + 1 => by rw [cyA, cyF_len, cyA_len x n i]
/-- The complement. -/
def cmpP (p : List Int) : List Int × Bool := if nonc p then (renL (cyA (turnM (mop p) 1).1 p.length p.length), true) else ([], false)

end Go.Proofs.YtghfhkbncjgaeaaGreat

namespace Go.Proofs.YtghfhkbncjgaeaaGreat
set_option linter.unusedVariables false
open Go.RowKit

/-- The partner of the letter at i, as the list of partners has it. -/
def mtJ (l : List UInt8) (i : Nat) : Nat := ((prI l l.length).getD i 0).toNat
def mtAt (l : List UInt8) (i : Nat) : Bool :=
  decide ((prI l l.length).getD i 0 = (mtJ l i : Int)) && decide (mtJ l i < l.length) &&
  (if l[i]? = some 117 then decide (i < mtJ l i) && decide (hat l (mtJ l i + 1) = hat l i) && (List.range (mtJ l i)).all (fun k => decide (k < i) || decide (hat l (k + 1) ≠ hat l i))
   else decide (mtJ l i < i) && decide (hat l (mtJ l i) = hat l (i + 1)) && (List.range (i + 1)).all (fun k => decide (k ≤ mtJ l i) || decide (hat l k ≠ hat l (i + 1))))
def mtOk (l : List UInt8) : Bool := dyck l && (List.range l.length).all (mtAt l)
theorem mtOk_5 : ((List.range 6).all fun n => (paths n).all mtOk) = true := by decide +kernel
theorem mt_ok {n : Nat} (hn : n ≤ 5) {l : List UInt8} (h : l ∈ paths n) : mtOk l = true := by
  have := mtOk_5
  rw [List.all_eq_true] at this
  have := this n (List.mem_range.2 (by omega))
  rw [List.all_eq_true] at this
  exact this l h
theorem mt_dyck {l : List UInt8} (h : mtOk l = true) : dyck l = true := by
  unfold mtOk at h; rw [Bool.and_eq_true] at h; exact h.1
structure MtU (l : List UInt8) (i j : Nat) : Prop where
  lt : i < j
  jn : j < l.length
  eq : hat l (j + 1) = hat l i
  ne : ∀ k, i ≤ k → k < j → hat l (k + 1) ≠ hat l i
structure MtD (l : List UInt8) (i j : Nat) : Prop where
  lt : j < i
  eq : hat l j = hat l (i + 1)
  ne : ∀ k, j < k → k ≤ i → hat l k ≠ hat l (i + 1)
theorem mt_at {l : List UInt8} (h : mtOk l = true) {i : Nat} (hi : i < l.length) : (prI l l.length)[i]? = some (mtJ l i : Int) ∧ mtJ l i < l.length ∧ ((l[i]? = some 117 ∧ MtU l i (mtJ l i)) ∨ (l[i]? ≠ some 117 ∧ MtD l i (mtJ l i))) := by
  unfold mtOk at h
  rw [Bool.and_eq_true, List.all_eq_true] at h
  have h1 := h.2 i (List.mem_range.2 hi)
  unfold mtAt at h1
  rw [Bool.and_eq_true, Bool.and_eq_true, decide_eq_true_eq, decide_eq_true_eq] at h1
  obtain ⟨⟨h1, h2⟩, h3⟩ := h1
  have hl : (prI l l.length).length = l.length := prI_len l _
  refine ⟨?_, h2, ?_⟩
  · rw [List.getElem?_eq_getElem (by omega)]
    rw [List.getD_eq_getElem?_getD, List.getElem?_eq_getElem (by omega)] at h1
    rw [← h1]; rfl
  · split at h3
    · next hc =>
      left
      rw [Bool.and_eq_true, Bool.and_eq_true, decide_eq_true_eq, decide_eq_true_eq, List.all_eq_true] at h3
      refine ⟨hc, h3.1.1, h2, h3.1.2, fun k k1 k2 => ?_⟩
      have := h3.2 k (List.mem_range.2 k2)
      rw [Bool.or_eq_true, decide_eq_true_eq, decide_eq_true_eq] at this
      rcases this with h | h
      · omega
      · exact h
    · next hc =>
      right
      rw [Bool.and_eq_true, Bool.and_eq_true, decide_eq_true_eq, decide_eq_true_eq, List.all_eq_true] at h3
      refine ⟨hc, h3.1.1, h3.1.2, fun k k1 k2 => ?_⟩
      have := h3.2 k (List.mem_range.2 (by omega))
      rw [Bool.or_eq_true, decide_eq_true_eq, decide_eq_true_eq] at this
      rcases this with h | h
      · omega
      · exact h

end Go.Proofs.YtghfhkbncjgaeaaGreat
