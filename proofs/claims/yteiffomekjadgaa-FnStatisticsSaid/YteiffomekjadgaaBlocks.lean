/- BlocksOf of both sides; RankOfPartition. -/
import Derived.Test.YteiffomekjadgaaPart
import Derived.Test.YteiffomekjadgaaRows2
namespace Go.Proofs.Yteiffomekjadgaa
open Go.RowKit

/-- The blocks after the first k elements. -/
def blk (xs : List Int) : Nat → List (List Int)
  | 0 => []
  | k + 1 =>
    let r := if nx xs k = xs.getD k 0 then blk xs k ++ [[]] else blk xs k
    r.set (xs.getD k 0).toNat (r.getD (xs.getD k 0).toNat [] ++ [(k : Int)])
def blocksB (xs : List Int) : List (List Int) := if isPar xs then blk xs xs.length else []
theorem blk_len {xs : List Int} : ∀ k : Nat, k ≤ xs.length → ((blk xs k).length : Int) = nx xs k
  | 0, _ => rfl
  | k + 1, h => by
    have ih := blk_len (xs := xs) k (by omega)
    have hx : xs[k]? = some (xs.getD k 0) := by rw [List.getD_eq_getElem?_getD, List.getElem?_eq_getElem (by omega)]; rfl
    simp only [blk, List.length_set]
    rw [nx_step hx]
    by_cases he : nx xs k = xs.getD k 0
    · rw [if_pos he, if_pos he.symm]; simp; omega
    · rw [if_neg he, if_neg (fun e => he e.symm)]; exact ih
theorem blk_row_len {xs : List Int} : ∀ (k : Nat) (r : List Int), r ∈ blk xs k → r.length ≤ k
  | 0, r, h => by simp [blk] at h
  | k + 1, r, h => by
    simp only [blk] at h
    rcases List.mem_or_eq_of_mem_set h with h1 | h1
    · split at h1
      · rcases List.mem_append.1 h1 with h2 | h2
        · have := blk_row_len k r h2; omega
        · simp at h2; subst h2; simp
      · have := blk_row_len k r h1; omega
    · rw [h1, List.length_append, List.length_singleton]
      have : ∀ L : List (List Int), (∀ r ∈ L, r.length ≤ k) → (L.getD (xs.getD k 0).toNat []).length ≤ k := by
        intro L hL
        rw [List.getD_eq_getElem?_getD]
        rcases hg : L[(xs.getD k 0).toNat]? with _ | y
        · simp
        · exact hL y (List.mem_of_getElem? hg)
      have h2 := this (if nx xs k = xs.getD k 0 then blk xs k ++ [[]] else blk xs k) (by
        intro r hr
        split at hr
        · rcases List.mem_append.1 hr with h2 | h2
          · exact blk_row_len k r h2
          · simp at h2; subst h2; simp
        · exact blk_row_len k r hr)
      omega
def rankP (xs : List Int) : Int := if isPar xs then (xs.length : Int) - nx xs xs.length else -1

/-- append of one row to a slice of slices. -/
theorem appR (w : World) {ops : Array Oper} {rest : List Oper} {o : Oper} {a : Act} {Q : Exit → Act → World → Prop} (hgd : o.guard = none) (s x : Operand)
    (ho : o.op = .call { callee := .builtin .append, args := #[s, x], argTypes := #[39, 39] })
    (B : Nat) (A : Option Addr) (n c : Nat) (vs : List Value) (hs : a.eval s = .slice A n c) (hown : Own w 29 B A n c vs)
    (g : Nat) (y : Option Addr) (m d : Nat) (hx : a.eval x = .slice (some ⟨g, 0, none⟩) 1 1) (hy : w.cell? ⟨g, 0, none⟩ = some (.slice y m d)) (hn : n ≤ 1000000000) (hbase' : B ≤ g)
    (h : ∀ A' c' w', Own w' 29 B A' (n + 1) c' (vs ++ [.slice y m d]) → w.grownBy w' (Value.ownBlock (.slice A n c)) → Below B w w' → wpList Try.prog ops Q rest (a.put o.dst (.slice A' (n + 1) c')) w') : wpList Try.prog ops Q (o :: rest) a w :=
  app1 w hgd s x 39 ho 29 (.slice none 0 0) 24 Try.underlying39 info_ints rfl (by decide) B A n c vs hs hown g _ hx hy rfl hn hbase' h

/-- What a round leaves, in the words of the model. -/
theorem blk_new {xs : List Int} {k : Nat} {x : Int} (hx : xs[k]? = some x) (he : nx xs k = x) (h0 : 0 ≤ x) (hl : ((blk xs k).length : Int) = nx xs k) : blk xs (k + 1) = blk xs k ++ [[(k : Int)]] := by
  have hg : xs.getD k 0 = x := by rw [List.getD_eq_getElem?_getD, hx]; rfl
  have e : x.toNat = (blk xs k).length := by omega
  simp only [blk]
  rw [hg, if_pos he, e]
  simp [List.set_append_right, List.getD_eq_getElem?_getD]
theorem blk_old {xs : List Int} {k : Nat} {x : Int} (hx : xs[k]? = some x) (he : nx xs k ≠ x) : blk xs (k + 1) = (blk xs k).set x.toNat ((blk xs k).getD x.toNat [] ++ [(k : Int)]) := by
  have hg : xs.getD k 0 = x := by rw [List.getD_eq_getElem?_getD, hx]; rfl
  simp only [blk]
  rw [hg, if_neg he]

theorem isPar_nx {xs : List Int} {k : Nat} {x : Int} (h : isPar xs = true) (hx : xs[k]? = some x) : 0 ≤ x ∧ x ≤ nx xs k ∧ nx xs k ≤ 8 ∧ x ≤ 7 := by
  obtain ⟨a, b, c⟩ := isPar_at h hx
  have := (isPar_iff h).1
  have := (List.getElem?_eq_some_iff.1 hx).1
  have := nx_bd xs k
  omega

set_option maxHeartbeats 1000000 in
theorem specBlocksOf_any (A : Option Addr) (n c : Nat) (xs : List Int) (w : World) (h : Rd w A n (iv xs)) (hn : n ≤ 1000000000) :
    Calls Try.prog 71 #[.slice A n c] w fun e w' => ∃ A' n' c' vs, e = .returned (.slice A' n' c') ∧ O2 w' w.heap.size A' n' c' vs (blocksB xs) ∧ Below w.heap.size w w' := by
  have HR := Lib.hid h
  have HL := Lib.hid (show xs.length = n by have := h.len; rw [iv_len] at this; exact this)
  clear h
  rcases hp : isPar xs with _ | _
  · have HF := Lib.hid (show blocksB xs = [] by simp [blocksB, hp])
    have HP := Lib.hid hp
    clear hp
    by_cases h1 : 0 < n
    all_goals
      go_enter Try.func71, Try.ntmps71
      go_wp2_with fail
      refine wp_loop_rounds 1 ?_
      rw [rounds_succ]
      go_wp2_with (go_at_call 108; refine (specIsPartition_any _ _ _ _ _ (HR.out.alloc _) hn).mono ?_; rintro e w' ⟨rfl, rfl⟩; rw [HP.out])
      go_ret
      rw [HF.out]
      exact ⟨_, _, _, _, rfl, O2.empty w, (Below.refl _ _).alloc (Nat.le_refl _) _⟩
  · have h8 : n ≤ 8 := by have := (isPar_iff hp).1; have := HL.out; omega
    have HF := Lib.hid (show blocksB xs = blk xs n by simp [blocksB, hp, HL.out])
    have HP := Lib.hid hp
    clear hp
    go_enter Try.func71, Try.ntmps71
    go_wp2_with fail
    go_loopw [3, 4] (fun s i wr => ∃ (k m : Nat) (A1 : Option Addr) (c1 : Nat) (vs : List Value), k ≤ n ∧ i = .int .i64 k ∧ s = .slice A1 m c1 ∧ m ≤ 8 ∧ Hid ((m : Int) = nx xs k) ∧ O2 wr w.heap.size A1 m c1 vs (blk xs k) ∧ Below w.heap.size w wr) (fun _ i _ => n - (intOf i).toNat)
    case atStart => exact ⟨0, 0, _, _, _, Nat.zero_le _, rfl, rfl, by omega, rfl, O2.empty w, (Below.refl _ _).alloc (Nat.le_refl _) _⟩
    case round =>
      obtain ⟨k, m, A1, c1, vs, hk, rfl, rfl, hm8, HM, ho2, hb⟩ := hrel
      have HO := Lib.hid ho2
      have hbs := hb.size
      clear ho2
      by_cases hlt : k < n
      · obtain ⟨b, off, x, rfl, hx, hcw⟩ := HR.out.ati hlt
        have hbl := World.block_lt_of_cell? _ _ hcw
        have hc := (hb.cell (p := ⟨b, off + k, none⟩) hbl).trans hcw
        obtain ⟨x0, x1, x2, x3⟩ := isPar_nx HP.out hx
        rw [← HM.out] at x1 x2
        obtain ⟨j, rfl⟩ := Int.eq_ofNat_of_zero_le x0
        have HX := Lib.hid hx
        have HC0 := Lib.hid hcw
        have hbl' : b < wr.heap.size := Nat.lt_of_lt_of_le hbl hbs
        clear hx x0 hcw
        have hjm : j ≤ m := by omega
        by_cases hjn : j = m
        · subst hjn
          have hjx : (blk xs k).length = j := HO.out.n_eq.symm
          have HE := Lib.hid (show blk xs (k + 1) = (blk xs k ++ [[]]).set j ([] ++ [(k : Int)]) by
            rw [blk_new HX.out HM.out.symm (by omega) (by rw [hjx]; exact HM.out), ← hjx]; simp)
          have HN := Lib.hid (show ((j + 1 : Nat) : Int) = nx xs (k + 1) by rw [nx_step HX.out, ← HM.out, if_pos rfl]; rfl)
          have HH := Lib.hid (show (blk xs k ++ [[]])[j]? = some [] by rw [← hjx]; simp)
          have HV := Lib.hid (show (vs ++ [Value.slice (some ⟨wr.heap.size, 0, none⟩) 0 0])[j]? = some (.slice (some ⟨wr.heap.size, 0, none⟩) ([] : List Int).length 0) by
            have := HO.out.outer.len; rw [← this]; simp)
          have hjj : (j : Int) < (j : Int) + 1 := by omega
          clear hjx hjm
          go_wp2_with fail
          refine (specIsPartition_any _ _ _ _ _ (HR.out.below hb) hn).mono ?_
          rintro e w' ⟨rfl, rfl⟩
          rw [HP.out]
          go_wp2_with (at_builtin; refine appR _ rfl _ _ rfl w.heap.size A1 j c1 _ rfl ((HO.out.outer.alloc _).alloc _) (wr.heap.size + 1) (some ⟨wr.heap.size, 0, none⟩) 0 0 rfl (by simp) (by omega) (by omega) ?_; intro A2 c2 w1 hown1 hg1 hb1; have HO1 := Lib.hid (HO.out.push0 hbs _ hg1 hown1); obtain ⟨g0, Aj, cj, hA2, hg0, hg1', hvj, hcj, hfj, hoj⟩ := HO1.out.head HH.out; subst hA2; rw [HV.out] at hvj; cases hvj; have HJ := Lib.hid hoj; have hbs1 : w.heap.size ≤ w1.heap.size := (by have := hb1.size; simp at this; omega); have HB1 := Lib.hid (((hb.alloc hbs _).alloc (by simp; omega) _).trans hb1); have hc1 := (HB1.out.cell (p := ⟨b, off + k, none⟩) hbl).trans HC0.out; clear hoj hb1 hown1 hg1)
          have hbl1 : b < w1.heap.size := Nat.lt_of_lt_of_le hbl hbs1
          have j1 : (j : Int) < ((j + 1 : Nat) : Int) := by omega
          go_region_law (refine stepIL _ (by rfl) _ _ (by rfl) w.heap.size (some ⟨wr.heap.size, 0, none⟩) 0 0 [] (by simp [Act.eval]) ((HJ.out.alloc _).drew) w1.heap.size (k : Int) (by simp [Act.eval]) (by simp) (by omega) hbs1 ?_; intro g' c' w' hown' hg' hb' hat'; obtain ⟨u0, hu1, hu2⟩ := ((HO1.out.alloc _).drew).ready HH.out HV.out hg'; have hc2 := (((HB1.out.alloc hbs1 _).drew.trans hb').cell (p := ⟨b, off + k, none⟩) hbl).trans HC0.out)
          all_goals
            clear hc2 hu1 hu2
            have HO' := Lib.hid ((((HO1.out.alloc _).drew).put1 (len := 0) rfl HH.out HV.out hg' hown' hat'))
            have hb3 := (((HB1.out.alloc hbs1 _).drew.trans hb').setCell (p := ⟨g0, j, none⟩) hg0 (.slice (some ⟨g', 0, none⟩) (0 + 1) c'))
            clear hg' hown' hat'
            go_wp2_with fail
            go_roundw
            case rel => exact ⟨k + 1, j + 1, _, _, _, by omega, by go_num, rfl, by have := nx_bd xs (k + 1); have := HN.out; have := isPar_nx HP.out HX.out; omega, HN.out, by rw [HE.out]; exact HO'.out, hb3⟩
            case measure => simp [intOf]; omega
        · have e1 : ((j : Int) == (m : Int)) = false := by simp; omega
          have hjlt : j < (blk xs k).length := by have := HO.out.n_eq; omega
          obtain ⟨old, hold⟩ : ∃ old, (blk xs k)[j]? = some old := ⟨_, List.getElem?_eq_getElem hjlt⟩
          obtain ⟨g0, Aj, cj, rfl, hg0, hg1, hvj, hcj, hfj, hoj⟩ := HO.out.head hold
          have hold8 : old.length ≤ 8 := by have := blk_row_len k old (List.mem_of_getElem? hold); omega
          have HE := Lib.hid (show blk xs (k + 1) = (blk xs k).set j (old ++ [(k : Int)]) by
            rw [blk_old HX.out (by rw [← HM.out]; simp; omega)]
            simp [List.getD_eq_getElem?_getD, hold])
          have HN := Lib.hid (show (m : Int) = nx xs (k + 1) by rw [nx_step HX.out, ← HM.out, if_neg (by omega)])
          have HV := Lib.hid hvj
          have HH := Lib.hid hold
          have HJ := Lib.hid hoj
          obtain ⟨len, hlen⟩ : ∃ len, len = old.length := ⟨_, rfl⟩
          rw [← hlen] at hcj hold8
          have HLEN := Lib.hid hlen
          have j1 : (j : Int) < (m : Int) := by omega
          have HJ' := Lib.hid (show Own (wr.alloc (.cells #[.int .i64 (k : Int)] 3)) 3 w.heap.size Aj len cj (iv old) by have := HJ.out.alloc (.cells #[.int .i64 (k : Int)] 3); rw [hlen]; exact this)
          clear hvj hold hoj hjn hlen
          have HJ2 := Lib.hid (show Own (wr.alloc (.cells #[.int .i64 (k : Int)] 3)).drew 3 w.heap.size Aj len cj (iv old) from HJ'.out.drew)
          go_wp2_with fail
          refine (specIsPartition_any _ _ _ _ _ (HR.out.below hb) hn).mono ?_
          rintro e w' ⟨rfl, rfl⟩
          rw [HP.out]
          go_wp2_with fail
          go_region_law (refine stepIL _ (by rfl) _ _ (by rfl) w.heap.size Aj len cj (iv old) (by simp [Act.eval]) HJ2.out wr.heap.size (k : Int) (by simp [Act.eval]) (by simp) (by omega) hbs ?_; intro g' c' w' hown' hg' hb' hat'; rw [show Value.ownBlock (.slice Aj len cj) = Value.ownBlock (.slice Aj old.length cj) by cases Aj <;> rfl] at hg' hat'; obtain ⟨u0, hu1, hu2⟩ := (((HO.out.alloc _).drew).ready HH.out HV.out hg'); have hc2 := (((hb.alloc hbs _).drew.trans hb').cell (p := ⟨b, off + k, none⟩) hbl).trans HC0.out)
          all_goals
            clear hc2 hu1 hu2
            have HO' := Lib.hid ((((HO.out.alloc _).drew).put1 HLEN.out HH.out HV.out hg' hown' hat'))
            have hb3 := (((hb.alloc hbs _).drew.trans hb').setCell (p := ⟨g0, j, none⟩) hg0 (.slice (some ⟨g', 0, none⟩) (len + 1) c'))
            clear hg' hown' hat'
            go_wp2_with fail
            go_roundw
            case rel => exact ⟨k + 1, m, _, _, _, by omega, by go_num, rfl, hm8, HN.out, by rw [HE.out]; exact HO'.out, hb3⟩
            case measure => simp [intOf]; omega
      · have hkn : k = n := by omega
        subst hkn
        go_wp2_with fail
        go_ret
        rw [HF.out]
        exact ⟨_, _, _, _, rfl, HO.out, hb⟩

set_option maxHeartbeats 1000000 in
theorem implBlocksOf_any (A : Option Addr) (n c : Nat) (xs : List Int) (w : World) (h : Rd w A n (iv xs)) (hn : n ≤ 1000000000) :
    Calls Try.prog 59 #[.slice A n c] w fun e w' => ∃ A' n' c' vs, e = .returned (.slice A' n' c') ∧ O2 w' w.heap.size A' n' c' vs (blocksB xs) ∧ Below w.heap.size w w' := by
  have HR := Lib.hid h
  have HL := Lib.hid (show xs.length = n by have := h.len; rw [iv_len] at this; exact this)
  clear h
  rcases hp : isPar xs with _ | _
  · have HF := Lib.hid (show blocksB xs = [] by simp [blocksB, hp])
    have HP := Lib.hid hp
    clear hp
    go_enter Try.func59, Try.ntmps59
    go_wp2_with fail
    refine (implIsPartition_any _ _ _ _ _ (HR.out.alloc _) hn).mono ?_
    rintro e w' ⟨rfl, rfl⟩
    rw [HP.out]
    go_wp2_with fail
    go_ret
    rw [HF.out]
    exact ⟨_, _, _, _, rfl, O2.empty w, (Below.refl _ _).alloc (Nat.le_refl _) _⟩
  · have h8 : n ≤ 8 := by have := (isPar_iff hp).1; have := HL.out; omega
    have HF := Lib.hid (show blocksB xs = blk xs n by simp [blocksB, hp, HL.out])
    have HP := Lib.hid hp
    clear hp
    go_enter Try.func59, Try.ntmps59
    go_wp2_with fail
    refine (implIsPartition_any _ _ _ _ _ (HR.out.alloc _) hn).mono ?_
    rintro e w' ⟨rfl, rfl⟩
    rw [HP.out]
    go_wp2_with fail
    go_loopw [3, 4, 5, 13] (fun s _ _ i wr => ∃ (k m : Nat) (A1 : Option Addr) (c1 : Nat) (vs : List Value), k ≤ n ∧ i = .int .i64 k ∧ s = .slice A1 m c1 ∧ m ≤ 8 ∧ Hid ((m : Int) = nx xs k) ∧ O2 wr w.heap.size A1 m c1 vs (blk xs k) ∧ Below w.heap.size w wr) (fun _ _ _ i _ => n - (intOf i).toNat)
    case atStart => exact ⟨0, 0, _, _, _, Nat.zero_le _, rfl, rfl, by omega, rfl, O2.empty w, (Below.refl _ _).alloc (Nat.le_refl _) _⟩
    case round =>
      obtain ⟨k, m, A1, c1, vs, hk, rfl, rfl, hm8, HM, ho2, hb⟩ := hrel
      have HO := Lib.hid ho2
      have hbs := hb.size
      clear ho2
      by_cases hlt : k < n
      · obtain ⟨b, off, x, rfl, hx, hcw⟩ := HR.out.ati hlt
        have hbl := World.block_lt_of_cell? _ _ hcw
        have hc := (hb.cell (p := ⟨b, off + k, none⟩) hbl).trans hcw
        obtain ⟨x0, x1, x2, x3⟩ := isPar_nx HP.out hx
        rw [← HM.out] at x1 x2
        obtain ⟨j, rfl⟩ := Int.eq_ofNat_of_zero_le x0
        have HX := Lib.hid hx
        have HC0 := Lib.hid hcw
        have hbl' : b < wr.heap.size := Nat.lt_of_lt_of_le hbl hbs
        clear hx x0 hcw
        have hjm : j ≤ m := by omega
        by_cases hjn : j = m
        · subst hjn
          have hjx : (blk xs k).length = j := HO.out.n_eq.symm
          have HE := Lib.hid (show blk xs (k + 1) = (blk xs k ++ [[]]).set j ([] ++ [(k : Int)]) by
            rw [blk_new HX.out HM.out.symm (by omega) (by rw [hjx]; exact HM.out), ← hjx]; simp)
          have HN := Lib.hid (show ((j + 1 : Nat) : Int) = nx xs (k + 1) by rw [nx_step HX.out, ← HM.out, if_pos rfl]; rfl)
          have HH := Lib.hid (show (blk xs k ++ [[]])[j]? = some [] by rw [← hjx]; simp)
          have HV := Lib.hid (show (vs ++ [Value.slice (some ⟨wr.heap.size, 0, none⟩) 0 0])[j]? = some (.slice (some ⟨wr.heap.size, 0, none⟩) ([] : List Int).length 0) by
            have := HO.out.outer.len; rw [← this]; simp)
          have hjj : (j : Int) < (j : Int) + 1 := by omega
          clear hjx hjm
          go_wp2_with (first
            | (at_builtin; go_loud (refine appR _ rfl _ _ rfl w.heap.size A1 j c1 _ rfl ((HO.out.outer.alloc _).alloc _) (wr.heap.size + 1) (some ⟨wr.heap.size, 0, none⟩) 0 0 rfl (by simp) (by omega) (by omega) ?_; intro A2 c2 w1 hown1 hg1 hb1; have HO1 := Lib.hid (HO.out.push0 hbs _ hg1 hown1); obtain ⟨g0, Aj, cj, hA2, hg0, hg1', hvj, hcj, hfj, hoj⟩ := HO1.out.head HH.out; subst hA2; rw [HV.out] at hvj; cases hvj; have HJ := Lib.hid hoj; have hbs1 : w.heap.size ≤ w1.heap.size := (by have := hb1.size; simp at this; omega); have HB1 := Lib.hid (((hb.alloc hbs _).alloc (by simp; omega) _).trans hb1); have hc1 := (HB1.out.cell (p := ⟨b, off + k, none⟩) hbl).trans HC0.out; clear hoj hb1 hown1 hg1))
            | (at_builtin; refine appIL _ rfl _ _ rfl w.heap.size _ 0 0 _ rfl (HJ.out.alloc _) w1.heap.size (k : Int) rfl (by simp) (by omega) hbs1 ?_; intro g' c' w' hown' hg' hb' hat'; obtain ⟨u0, hu1, hu2⟩ := (HO1.out.alloc _).ready HH.out HV.out hg'))
          exact ⟨⟨k + 1, j + 1, _, _, _, by omega, by go_num, rfl, by have := nx_bd xs (k + 1); have := HN.out; have := isPar_nx HP.out HX.out; omega, HN.out, by rw [HE.out]; exact (HO1.out.alloc _).put1 (len := 0) rfl HH.out HV.out hg' hown' hat', (((HB1.out.alloc hbs1 _).trans hb').setCell (p := ⟨g0, j, none⟩) hg0 _)⟩, by simp [intOf]; omega⟩
        · have e1 : ((j : Int) == (m : Int)) = false := by simp; omega
          have hjlt : j < (blk xs k).length := by have := HO.out.n_eq; omega
          obtain ⟨old, hold⟩ : ∃ old, (blk xs k)[j]? = some old := ⟨_, List.getElem?_eq_getElem hjlt⟩
          obtain ⟨g0, Aj, cj, rfl, hg0, hg1, hvj, hcj, hfj, hoj⟩ := HO.out.head hold
          have hold8 : old.length ≤ 8 := by have := blk_row_len k old (List.mem_of_getElem? hold); omega
          have HE := Lib.hid (show blk xs (k + 1) = (blk xs k).set j (old ++ [(k : Int)]) by
            rw [blk_old HX.out (by rw [← HM.out]; simp; omega)]
            simp [List.getD_eq_getElem?_getD, hold])
          have HN := Lib.hid (show (m : Int) = nx xs (k + 1) by rw [nx_step HX.out, ← HM.out, if_neg (by omega)])
          have HV := Lib.hid hvj
          have HH := Lib.hid hold
          have HJ := Lib.hid hoj
          obtain ⟨len, hlen⟩ : ∃ len, len = old.length := ⟨_, rfl⟩
          rw [← hlen] at hcj hold8
          have HLEN := Lib.hid hlen
          have j1 : (j : Int) < (m : Int) := by omega
          have HJ' := Lib.hid (show Own (wr.alloc (.cells #[.int .i64 (k : Int)] 3)) 3 w.heap.size Aj len cj (iv old) by have := HJ.out.alloc (.cells #[.int .i64 (k : Int)] 3); rw [hlen]; exact this)
          clear hvj hold hoj hjn hlen
          go_wp2_with (at_builtin; refine appIL _ rfl _ _ rfl w.heap.size Aj len cj _ rfl HJ'.out wr.heap.size (k : Int) rfl (by simp) (by omega) hbs ?_; intro g' c' w' hown' hg' hb' hat'; rw [show Value.ownBlock (.slice Aj len cj) = Value.ownBlock (.slice Aj old.length cj) by cases Aj <;> rfl] at hg' hat'; obtain ⟨u0, hu1, hu2⟩ := (HO.out.alloc _).ready HH.out HV.out hg')
          go_roundw
          case rel => exact ⟨k + 1, m, _, _, _, by omega, by go_num, rfl, hm8, HN.out, by rw [HE.out]; exact (HO.out.alloc _).put1 HLEN.out HH.out HV.out hg' hown' hat', (((hb.alloc hbs _).trans hb').setCell (p := ⟨g0, j, none⟩) hg0 _)⟩
          case measure => simp [intOf]; omega
      · have hkn : k = n := by omega
        subst hkn
        go_wp2_with fail
        go_ret
        rw [HF.out]
        exact ⟨_, _, _, _, rfl, HO.out, hb⟩

end Go.Proofs.Yteiffomekjadgaa
