/- Merged: ClosL. -/
import Derived.Test.YtghfhkbncjgaeaaGreatMg4

namespace Go.Proofs.YtghfhkbncjgaeaaGreat
open Go.RowKit

def mrg (l : List Int) (x y : Int) : List Int := l.map fun z => if z = y then x else z
theorem mrg_len (l : List Int) (x y : Int) : (mrg l x y).length = l.length := by simp [mrg]
def crs (l : List Int) (a b c d : Nat) : Bool := decide (l.getD a 0 = l.getD c 0) && decide (l.getD b 0 = l.getD d 0) && decide (l.getD a 0 ≠ l.getD b 0)
abbrev St := List Int × Bool
def stp (a b c d : Nat) (s : St) : St := if crs s.1 a b c d then (mrg s.1 (s.1.getD a 0) (s.1.getD b 0), true) else s
/-- k steps of f from lo on. -/
def lp {σ : Type} (f : Nat → σ → σ) (s : σ) (lo : Nat) : Nat → σ
  | 0 => s
  | k + 1 => f (lo + k) (lp f s lo k)
def swD (n a b c : Nat) (s : St) : St := lp (stp a b c) s (c + 1) (n - (c + 1))
def swC (n a b : Nat) (s : St) : St := lp (swD n a b) s (b + 1) (n - (b + 1))
def swB (n a : Nat) (s : St) : St := lp (swC n a) s (a + 1) (n - (a + 1))
def swA (n : Nat) (s : St) : St := lp (swB n) s 0 n
theorem lp_keep {σ : Type} {P : σ → Prop} {f : Nat → σ → σ} {s : σ} {lo : Nat} (h0 : P s) : ∀ k, (∀ i s, lo ≤ i → i < lo + k → P s → P (f i s)) → P (lp f s lo k)
  | 0, _ => h0
  | k + 1, hs => hs _ _ (by omega) (by omega) (lp_keep h0 k fun i s h1 h2 h3 => hs i s h1 (by omega) h3)
theorem lp_rel {σ τ : Type} {R : σ → τ → Prop} {f : Nat → σ → σ} {g : Nat → τ → τ} {s : σ} {t : τ} {lo : Nat} (h0 : R s t) : ∀ k, (∀ i s t, lo ≤ i → i < lo + k → R s t → R (f i s) (g i t)) → R (lp f s lo k) (lp g t lo k)
  | 0, _ => h0
  | k + 1, hs => hs _ _ _ (by omega) (by omega) (lp_rel h0 k fun i s t h1 h2 h3 => hs i s t h1 (by omega) h3)
theorem swA_keep {P : St → Prop} {n : Nat} {s : St} (h0 : P s) (hs : ∀ a b c d s, a < b → b < c → c < d → d < n → P s → P (stp a b c d s)) : P (swA n s) :=
  lp_keep h0 n fun a s _ h2 h => lp_keep h _ fun b s h3 h4 h => lp_keep h _ fun c s h5 h6 h => lp_keep h _ fun d s h7 h8 h => hs a b c d s (by omega) (by omega) (by omega) (by omega) h
theorem swA_rel {R : St → St → Prop} {n : Nat} {s t : St} (h0 : R s t) (hs : ∀ a b c d s t, a < b → b < c → c < d → d < n → R s t → R (stp a b c d s) (stp a b c d t)) : R (swA n s) (swA n t) :=
  lp_rel h0 n fun a s t _ h2 h => lp_rel h _ fun b s t h3 h4 h => lp_rel h _ fun c s t h5 h6 h => lp_rel h _ fun d s t h7 h8 h => hs a b c d s t (by omega) (by omega) (by omega) (by omega) h

theorem getD_mem {l : List Int} {k : Nat} (h : k < l.length) : l.getD k 0 ∈ l := by
  rw [List.getD_eq_getElem?_getD, List.getElem?_eq_getElem h]; exact List.getElem_mem h
theorem mem_mrg {l : List Int} {x y z : Int} (hx : x ∈ l) (h : z ∈ mrg l x y) : z ∈ l := by
  obtain ⟨u, hu, e⟩ := List.mem_map.1 h
  split at e
  · rw [← e]; exact hx
  · rw [← e]; exact hu
theorem not_mrg {l : List Int} {x y : Int} (hne : x ≠ y) : y ∉ mrg l x y := by
  intro h
  obtain ⟨u, hu, e⟩ := List.mem_map.1 h
  split at e
  · exact hne e
  · exact absurd e (by assumption)
/-- How many of U's numbers are among l's. -/
def dc (U l : List Int) : Nat := U.countP fun v => decide (v ∈ l)
theorem cnt_le {p q : Int → Bool} : ∀ L : List Int, (∀ v, q v = true → p v = true) → L.countP q ≤ L.countP p
  | [], _ => Nat.le_refl _
  | a :: L, h => by
    have := cnt_le L h
    rw [List.countP_cons, List.countP_cons]
    rcases hq : q a with _ | _
    · simp; omega
    · rw [h a hq]; simp; exact this
theorem cnt_lt {p q : Int → Bool} {y : Int} (hp : p y = true) (hq : q y = false) : ∀ L : List Int, (∀ v, q v = true → p v = true) → y ∈ L → L.countP q < L.countP p
  | a :: L, h, hm => by
    rw [List.countP_cons, List.countP_cons]
    rcases List.mem_cons.1 hm with e | e
    · have := cnt_le L h
      rw [← e, hp, hq]; simp; omega
    · have := cnt_lt hp hq L h e
      rcases hqa : q a with _ | _
      · simp; omega
      · rw [h a hqa]; simp; exact this
theorem dc_mrg {U l : List Int} {x y : Int} (hx : x ∈ l) (hy : y ∈ l) (hne : x ≠ y) (hU : y ∈ U) : dc U (mrg l x y) < dc U l :=
  cnt_lt (y := y) (by simpa using hy) (by simpa using not_mrg hne) U (fun v hv => by simp only [decide_eq_true_eq] at hv ⊢; exact mem_mrg hx hv) hU
theorem dc_le (U l : List Int) : dc U l ≤ U.length := List.countP_le_length

/-- What a sweep keeps. -/
def Kp (U l0 : List Int) (s : St) : Prop := s.1.length = l0.length ∧ (∀ z ∈ s.1, z ∈ l0) ∧ dc U s.1 + (if s.2 then 1 else 0) ≤ dc U l0 ∧ (s.2 = false → s.1 = l0)
theorem crs_iff {l : List Int} {a b c d : Nat} (h : crs l a b c d = true) : l.getD a 0 = l.getD c 0 ∧ l.getD b 0 = l.getD d 0 ∧ l.getD a 0 ≠ l.getD b 0 := by
  simpa [crs, and_assoc] using h
theorem sweep_keep {U l : List Int} (hU : ∀ z ∈ l, z ∈ U) : Kp U l (swA l.length (l, false)) := by
  apply swA_keep
  · exact ⟨rfl, fun _ h => h, by simp, fun _ => rfl⟩
  · rintro a b c d ⟨m, f⟩ h1 h2 h3 h4 ⟨k1, k2, k3, k4⟩
    unfold stp
    simp only at k1 k2 k3 k4 ⊢
    rcases hc : crs m a b c d with _ | _
    · exact ⟨k1, k2, k3, k4⟩
    · obtain ⟨_, _, e3⟩ := crs_iff hc
      have ha := getD_mem (show a < m.length by omega)
      have hb := getD_mem (show b < m.length by omega)
      refine ⟨by show (mrg _ _ _).length = _; rw [mrg_len]; exact k1, fun z hz => k2 z (mem_mrg ha hz), ?_, fun h => by cases h⟩
      have := dc_mrg (U := U) ha hb e3 (hU _ (k2 _ hb))
      show dc U (mrg _ _ _) + 1 ≤ _
      split at k3 <;> omega
/-- The sweeps, one behind the other. -/
def itS (n : Nat) (l : List Int) : Nat → List Int
  | 0 => l
  | k + 1 => (swA n (itS n l k, false)).1
theorem it_keep (l : List Int) : ∀ k, (itS l.length l k).length = l.length ∧ ∀ z ∈ itS l.length l k, z ∈ l
  | 0 => ⟨rfl, fun _ h => h⟩
  | k + 1 => by
    obtain ⟨h1, h2⟩ := it_keep l k
    have h3 := sweep_keep h2
    rw [h1] at h3
    exact ⟨h3.1.trans h1, fun z hz => h2 z (h3.2.1 z hz)⟩
theorem it_len (l : List Int) (k : Nat) : (itS l.length l k).length = l.length := (it_keep l k).1
/-- A sweep that puts blocks together leaves fewer. -/
theorem it_less {l : List Int} {k : Nat} (h : (swA l.length (itS l.length l k, false)).2 = true) : dc l (itS l.length l (k + 1)) < dc l (itS l.length l k) := by
  obtain ⟨h1, h2⟩ := it_keep l k
  have h3 := (sweep_keep (U := l) h2).2.2.1
  rw [h1, h] at h3
  exact h3
theorem it_stay {l : List Int} {k : Nat} (h : (swA l.length (itS l.length l k, false)).2 = false) : ∀ m, itS l.length l (k + m) = itS l.length l k
  | 0 => rfl
  | m + 1 => by
    obtain ⟨h1, h2⟩ := it_keep l k
    have h3 := (sweep_keep (U := l) h2).2.2.2
    rw [h1] at h3
    rw [← Nat.add_assoc, itS, it_stay h m, h3 h]
def closB (l : List Int) : List Int := itS l.length l (l.length + 1)
theorem clos_len (l : List Int) : (closB l).length = l.length := it_len _ _
theorem clos_stop {l : List Int} {k : Nat} (hk : k ≤ l.length) (h : (swA l.length (itS l.length l k, false)).2 = false) : closB l = itS l.length l k := by
  have := it_stay h (l.length + 1 - k)
  rw [show k + (l.length + 1 - k) = l.length + 1 by omega] at this
  exact this

/-- Other numbers for the same blocks. -/
def Inj (f : Int → Int) (l : List Int) : Prop := ∀ x ∈ l, ∀ y ∈ l, f x = f y → x = y
theorem mrg_map {f : Int → Int} {l : List Int} {x y : Int} (hf : Inj f l) (hy : y ∈ l) : mrg (l.map f) (f x) (f y) = (mrg l x y).map f := by
  unfold mrg
  rw [List.map_map, List.map_map]
  apply List.map_congr_left
  intro z hz
  simp only [Function.comp]
  by_cases h : z = y
  · rw [h, if_pos rfl, if_pos rfl]
  · rw [if_neg h, if_neg fun e => h (hf z hz y hy e)]
theorem crs_map {f : Int → Int} {l : List Int} {a b c d : Nat} (hf : Inj f l) (ha : a < l.length) (hb : b < l.length) (hc : c < l.length) (hd : d < l.length) : crs (l.map f) a b c d = crs l a b c d := by
  have h (i j : Nat) (hi : i < l.length) (hj : j < l.length) : (f (l.getD i 0) = f (l.getD j 0)) = (l.getD i 0 = l.getD j 0) :=
    propext ⟨fun e => hf _ (getD_mem hi) _ (getD_mem hj) e, fun e => by rw [e]⟩
  unfold crs
  rw [getD_map ha, getD_map hb, getD_map hc, getD_map hd]
  simp only [ne_eq, h a c ha hc, h b d hb hd, h a b ha hb]
theorem Inj.sub {f : Int → Int} {l m : List Int} (h : Inj f l) (hs : ∀ z ∈ m, z ∈ l) : Inj f m := fun x hx y hy => h x (hs x hx) y (hs y hy)
theorem sweep_map {f : Int → Int} {l : List Int} (hf : Inj f l) : (swA l.length (l.map f, false)).1 = (swA l.length (l, false)).1.map f := by
  have := swA_rel (n := l.length) (R := fun s t => t.1 = s.1.map f ∧ s.1.length = l.length ∧ ∀ z ∈ s.1, z ∈ l) (s := (l, false)) (t := (l.map f, false)) ⟨rfl, rfl, fun _ h => h⟩ (by
    rintro a b c d ⟨m, u⟩ ⟨m', u'⟩ h1 h2 h3 h4 ⟨k1, k2, k3⟩
    simp only at k1 k2 k3
    subst k1
    have hi := hf.sub k3
    unfold stp
    simp only
    rw [crs_map hi (by omega) (by omega) (by omega) (by omega)]
    rcases hc : crs m a b c d with _ | _
    · exact ⟨rfl, k2, k3⟩
    · refine ⟨?_, by show (mrg _ _ _).length = _; rw [mrg_len]; exact k2, fun z hz => k3 z (mem_mrg (getD_mem (by omega)) hz)⟩
      show mrg _ _ _ = (mrg _ _ _).map f
      rw [getD_map (by omega), getD_map (by omega), mrg_map hi (getD_mem (by omega))])
  exact this.1
theorem it_map {f : Int → Int} {l : List Int} (hf : Inj f l) : ∀ k, itS l.length (l.map f) k = (itS l.length l k).map f
  | 0 => rfl
  | k + 1 => by
    obtain ⟨h1, h2⟩ := it_keep l k
    have h3 := sweep_map (hf.sub h2)
    rw [h1] at h3
    rw [itS, it_map hf k, h3]; rfl
theorem clos_map {f : Int → Int} {l : List Int} (hf : Inj f l) : closB (l.map f) = (closB l).map f := by
  unfold closB
  rw [List.length_map, it_map hf]
theorem idxOf_inj {g : Int → Int} {l : List Int} (hg : Inj g l) {x : Int} (hx : x ∈ l) : ∀ L : List Int, (∀ z ∈ L, z ∈ l) → (L.map g).idxOf (g x) = L.idxOf x
  | [], _ => rfl
  | a :: L, hs => by
    rw [List.map_cons, List.idxOf_cons, List.idxOf_cons, idxOf_inj hg hx L fun z hz => hs z (List.mem_cons_of_mem _ hz)]
    by_cases h : a = x
    · subst h; rw [beq_self_eq_true, beq_self_eq_true]
    · have h2 : (a == x) = false := by simpa using h
      have h3 : (g a == g x) = false := by simpa using fun e => h (hg _ (hs a (List.mem_cons_self ..)) _ hx e)
      rw [h2, h3]
theorem renN_in {l : List Int} {k : Nat} (hk : k ≤ l.length) : ∀ z ∈ renN l k, z ∈ l := by
  intro z hz
  obtain ⟨j, hj, e⟩ := renN_sub l k z hz
  rw [← e]; exact getD_mem (by omega)
theorem renN_inj {g : Int → Int} {l : List Int} (hg : Inj g l) : ∀ k : Nat, k ≤ l.length → renN (l.map g) k = (renN l k).map g
  | 0, _ => rfl
  | k + 1, h => by
    have hm : g (l.getD k 0) ∈ (renN l k).map g ↔ l.getD k 0 ∈ renN l k := by
      constructor
      · intro h1
        obtain ⟨y, hy, e⟩ := List.mem_map.1 h1
        rw [← hg _ (renN_in (by omega) y hy) _ (getD_mem (by omega)) e]; exact hy
      · exact List.mem_map_of_mem
    rw [renN, renN, renN_inj hg k (by omega), getD_map (by omega)]
    by_cases h1 : l.getD k 0 ∈ renN l k
    · rw [if_pos h1, if_pos (hm.2 h1)]
    · rw [if_neg h1, if_neg (fun e => h1 (hm.1 e)), List.map_append]; rfl
theorem renO_inj {g : Int → Int} {l : List Int} (hg : Inj g l) : ∀ k : Nat, k ≤ l.length → renO (l.map g) k = renO l k
  | 0, _ => rfl
  | k + 1, h => by rw [renO, renO, renO_inj hg k (by omega), renN_inj hg k (by omega), getD_map (by omega), idxOf_inj hg (getD_mem (by omega)) _ (renN_in (by omega))]
theorem renL_inj {g : Int → Int} {l : List Int} (hg : Inj g l) : renL (l.map g) = renL l := by
  unfold renL
  rw [List.length_map, renO_inj hg _ (Nat.le_refl _)]
/-- The numbering itself gives other numbers to the same blocks. -/
def nmb (l : List Int) (x : Int) : Int := ((renN l l.length).idxOf x : Int)
theorem renL_len (l : List Int) : (renL l).length = l.length := renO_len l _
theorem renL_nmb (l : List Int) : renL l = l.map (nmb l) := by
  apply List.ext_getElem?
  intro k
  rcases Nat.lt_or_ge k l.length with h | h
  · unfold renL
    rw [renO_at l _ k h, List.getElem?_map, List.getElem?_eq_getElem h, List.getD_eq_getElem?_getD, List.getElem?_eq_getElem h]; rfl
  · rw [List.getElem?_eq_none (by rw [renL_len]; exact h), List.getElem?_eq_none (by rw [List.length_map]; exact h)]
theorem nmb_inj (l : List Int) : Inj (nmb l) l := by
  intro x hx y hy e
  have e2 : (renN l l.length).idxOf x = (renN l l.length).idxOf y := by unfold nmb at e; omega
  obtain ⟨i, hi, rfl⟩ := List.getElem_of_mem hx
  have hxm : l[i] ∈ renN l l.length := by
    have := renN_mem l l.length i hi
    rw [List.getD_eq_getElem?_getD, List.getElem?_eq_getElem hi] at this; exact this
  obtain ⟨j, hj, rfl⟩ := List.getElem_of_mem hy
  have hym : l[j] ∈ renN l l.length := by
    have := renN_mem l l.length j hj
    rw [List.getD_eq_getElem?_getD, List.getElem?_eq_getElem hj] at this; exact this
  have a1 := List.idxOf_lt_length_of_mem hxm
  have a2 := List.getElem_idxOf a1
  have b1 := List.idxOf_lt_length_of_mem hym
  have b2 := List.getElem_idxOf b1
  rw [← a2, ← b2]
  simp only [e2]
/-- Numbering ahead of the sweeps tells nothing behind them. -/
theorem ren_clos (l : List Int) : renL (closB (renL l)) = renL (closB l) := by
  rw [renL_nmb l, clos_map (nmb_inj l)]
  have hs := (it_keep l (l.length + 1)).2
  exact renL_inj ((nmb_inj l).sub hs)

end Go.Proofs.YtghfhkbncjgaeaaGreat
