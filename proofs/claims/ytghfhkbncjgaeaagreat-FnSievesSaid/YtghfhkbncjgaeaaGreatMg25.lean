/- Merged: TriL Put2 TurnP. -/
import Derived.Test.YtghfhkbncjgaeaaGreatMg18
import Derived.Test.YtghfhkbncjgaeaaGreatMg3
import Derived.Test.YtghfhkbncjgaeaaGreatMg7
import Derived.StillTailTactics

namespace Go.Proofs.YtghfhkbncjgaeaaGreat
set_option linter.unusedVariables false
open Go.RowKit

structure TriOk (n : Nat) (d : List (List Int)) : Prop where
  n2 : 2 ≤ n
  n10 : n ≤ 10
  len : d.length + 3 = max 3 n
  two : ∀ (i : Nat) (x : List Int), d[i]? = some x → x.length = 2
  lo : ∀ (i : Nat) (x : List Int), d[i]? = some x → inB (x.getD 0 0) 0 ((n : Int) - 1) = true
  hi : ∀ (i : Nat) (x : List Int), d[i]? = some x → inB (x.getD 1 0) (x.getD 0 0 + 2) ((n : Int) - 1) = true
  ne : ∀ (i : Nat) (x : List Int), d[i]? = some x → ¬ (x.getD 0 0 = 0 ∧ x.getD 1 0 = (n : Int) - 1)
  bef : ∀ (i : Nat) (x y : List Int), d[i]? = some x → d[i + 1]? = some y → befD x y = true
  crs : ∀ (i k : Nat) (x y : List Int), k < i → d[i]? = some x → d[k]? = some y → xsD y x = false
theorem gD_of {d : List (List Int)} {i : Nat} {x : List Int} (h : d[i]? = some x) : d.getD i [] = x := by rw [List.getD_eq_getElem?_getD, h]; rfl
theorem triOk {n : Nat} {d : List (List Int)} (h : triB n d = true) : TriOk n d := by
  unfold triB at h
  rw [Bool.and_eq_true, Bool.and_eq_true, decide_eq_true_eq, decide_eq_true_eq, List.all_eq_true] at h
  obtain ⟨h1, h2, h3⟩ := h
  have hx : ∀ (i : Nat) (x : List Int), d[i]? = some x → dgB n x = true ∧ (i = 0 ∨ befD (d.getD (i - 1) []) x = true) ∧ ∀ k, k < i → xsD (d.getD k []) x = false := by
    intro i x hx
    have hi := (List.getElem?_eq_some_iff.1 hx).1
    have h4 := h3 i (List.mem_range.2 hi)
    rw [gD_of hx, Bool.and_eq_true, Bool.and_eq_true, Bool.or_eq_true, decide_eq_true_eq, List.all_eq_true] at h4
    refine ⟨h4.1, h4.2.1, fun k hk => ?_⟩
    have := h4.2.2 k (List.mem_range.2 hk)
    simpa using this
  have hd : ∀ (i : Nat) (x : List Int), d[i]? = some x → x.length = 2 ∧ inB (x.getD 0 0) 0 ((n : Int) - 1) = true ∧ inB (x.getD 1 0) (x.getD 0 0 + 2) ((n : Int) - 1) = true ∧ ¬ (x.getD 0 0 = 0 ∧ x.getD 1 0 = (n : Int) - 1) := by
    intro i x h0
    have h4 := (hx i x h0).1
    unfold dgB at h4
    rw [Bool.and_eq_true, Bool.and_eq_true, Bool.and_eq_true, decide_eq_true_eq, Bool.not_eq_true', Bool.and_eq_false_iff] at h4
    refine ⟨h4.1, h4.2.1, h4.2.2.1, fun ⟨a1, a2⟩ => ?_⟩
    rcases h4.2.2.2 with a | a
    · rw [decide_eq_true a1] at a; cases a
    · rw [decide_eq_true a2] at a; cases a
  refine ⟨h1.1, h1.2, h2, fun i x h0 => (hd i x h0).1, fun i x h0 => (hd i x h0).2.1, fun i x h0 => (hd i x h0).2.2.1, fun i x h0 => (hd i x h0).2.2.2, ?_, ?_⟩
  · intro i x y h4 h5
    rcases (hx (i + 1) y h5).2.1 with a | a
    · omega
    · rw [Nat.add_sub_cancel, gD_of h4] at a; exact a
  · intro i k x y hk h4 h5
    have := (hx i x h4).2.2 k hk
    rw [gD_of h5] at this; exact this
theorem TriOk.len7 {n : Nat} {d : List (List Int)} (h : TriOk n d) : d.length ≤ 7 := by have := h.len; have := h.n10; omega
theorem TriOk.nums {n : Nat} {d : List (List Int)} (h : TriOk n d) {i : Nat} {x : List Int} (hx : d[i]? = some x) : 0 ≤ x.getD 0 0 ∧ x.getD 0 0 + 2 ≤ x.getD 1 0 ∧ x.getD 1 0 ≤ (n : Int) - 1 ∧ x.getD 1 0 ≤ 9 := by
  have h1 := inB_iff.1 (h.lo i x hx)
  have h2 := inB_iff.1 (h.hi i x hx)
  have h3 := h.n10
  omega

end Go.Proofs.YtghfhkbncjgaeaaGreat

namespace Go.Proofs.YtghfhkbncjgaeaaGreat
open Go.RowKit

theorem run_append_none' {P : Program} {w : World} (base : Nat) (t ty e : TypeId) (i : TypeInfo) (size : Nat) (ht : P.underlying t = some (.slice e)) (hi : P.info? e = some i)
    (v : Value) (n d : Nat) (xs : List Value) (hown : w.ownsRow base e size v n xs) :
    (Builtin.append_ #[t, t] ty #[v, .slice none 0 d]).run P w = .ok v w := by
  rcases hown.2 with ⟨rfl, rfl⟩ | ⟨g, cap, cur, rfl, _, _, hnc, _⟩
  · simp [Builtin.append_, run_underlying ht, sizeOf, typeInfo, hi, Builtin.lenOf, Builtin.firstCells]
  · simp [Builtin.append_, run_underlying ht, sizeOf, typeInfo, hi, Builtin.lenOf, Builtin.firstCells, hnc, storeCells]

theorem appAll' (w : World) {ops : Array Oper} {rest : List Oper} {o : Oper} {a : Act} {Q : Exit → Act → World → Prop} (hgd : o.guard = none) (s x : Operand)
    (ho : o.op = .call { callee := .builtin .append, args := #[s, x], argTypes := #[28, 28] })
    (B : Nat) (A : Option Addr) (n c : Nat) (vs : List Value) (hs : a.eval s = .slice A n c) (hown : Own w 3 B A n c vs)
    (X : Option Addr) (m d : Nat) (ys : List Int) (hx : a.eval x = .slice X m d) (hr : Rd w X m (iv ys)) (hn : n + m ≤ 1000000000) (hbase : B ≤ w.heap.size)
    (h : ∀ A' c' w', Own w' 3 B A' (n + m) c' (vs ++ iv ys) → w.grownBy w' (Value.ownBlock (.slice A n c)) → Below B w w' → wpList Tryz.prog ops Q rest (a.put o.dst (.slice A' (n + m) c')) w') : wpList Tryz.prog ops Q (o :: rest) a w := by
  rcases X with _ | ad
  · have hm0 : m = 0 := by
      rcases Nat.eq_zero_or_pos m with h0 | h0
      · exact h0
      · obtain ⟨b, off, he, _⟩ := hr.2 h0; cases he
    have hys : iv ys = [] := List.eq_nil_of_length_eq_zero (by have := hr.len; omega)
    subst hm0
    rw [hys] at h
    refine wpList_plain hgd fun K hK => ?_
    obtain ⟨i, hi, _⟩ := info_parts info_int
    have hrun := run_append_none' (P := Tryz.prog) (w := w) B 28 o.type 3 i 1 Tryz.underlying28 hi (.slice A n c) n d vs hown
    unfold Oper.wp
    simp [execOp, ho, resolve, invoke, builtin, hs, hx, hrun, Result.andThen]
    exact hK _ _ (h A c w (by simpa using hown) (World.grownBy.refl _ _) (Below.refl _ _))
  · exact appAll w hgd s x ho B A n c vs hs hown (some ad) m d ys hx (by simp) hr hn hbase h

theorem copyInts_any (A : Option Addr) (n c : Nat) (xs : List Int) (w : World) (h : Rd w A n (iv xs)) (hn : n ≤ 1000000000) :
    Calls Tryz.prog 86 #[.slice A n c] w (RetI w xs) := by
  have HR := Lib.hid h
  have HL := Lib.hid (show n = xs.length by have := h.len; rw [iv_len] at this; exact this.symm)
  clear h
  go_enter Tryz.func86, Tryz.ntmps86
  go_wp2_with (at_builtin; refine appAll' _ rfl _ _ rfl w.heap.size (some ⟨w.heap.size, 0, none⟩) 0 0 (iv []) rfl (own_empty w) A n c xs rfl (HR.out.alloc _) (by omega) (by simp) ?_; intro A' c' w' hown' hg' hb')
  have HO := Lib.hid hown'
  clear hown' hg'
  go_wp2_with fail
  go_ret
  exact ⟨A', n, c', HL.out, by simp, by simpa [iv] using HO.out, ((Below.refl _ _).alloc (Nat.le_refl _) _).trans hb'⟩

end Go.Proofs.YtghfhkbncjgaeaaGreat

namespace Go.Proofs.YtghfhkbncjgaeaaGreat
set_option linter.unusedVariables false
open Go.RowKit

theorem Rd.frontV {w : World} {A : Option Addr} {n m : Nat} {vs : List Value} (h : Rd w A n vs) (hm : m ≤ n) : Rd w A m (vs.take m) :=
  ⟨by rw [List.length_take, h.len]; omega, fun h0 => by
    obtain ⟨b, off, e, hc⟩ := h.2 (by omega)
    refine ⟨b, off, e, fun j u hj => hc j u ?_⟩
    rw [List.getElem?_take] at hj
    split at hj
    · exact hj
    · cases hj⟩
theorem stepAll (w : World) {ops : Array Oper} {o : Oper} {a : Act} {K : Act → World → Prop} {Q : Exit → Act → World → Prop} {E : Prop} (hgd : o.guard = none) (s x : Operand)
    (ho : o.op = .call { callee := .builtin .append, args := #[s, x], argTypes := #[28, 28] })
    (B : Nat) (A : Option Addr) (n c : Nat) (vs : List Value) (hs : a.eval s = .slice A n c) (hown : Own w 3 B A n c vs)
    (X : Option Addr) (m d : Nat) (ys : List Int) (hx : a.eval x = .slice X m d) (hX : X = none → d = 0) (hr : Rd w X m (iv ys)) (hn : n + m ≤ 1000000000) (hbase : B ≤ w.heap.size)
    (h : ∀ A' c' w', Own w' 3 B A' (n + m) c' (vs ++ iv ys) → w.grownBy w' (Value.ownBlock (.slice A n c)) → Below B w w' → K (a.put o.dst (.slice A' (n + m) c')) w') :
    if Region.wanted o (yielded ops a.tmps) = true then Oper.wp Tryz.prog o a w K Q else E := by
  have hw : Region.wanted o (yielded ops a.tmps) = true := by simp [Region.wanted, hgd]
  rw [if_pos hw]
  exact wp_appAll w s x 28 ho 3 (.int .i64 0) 8 Tryz.underlying28 info_int rfl (by decide) B A n c vs hs hown X m d (iv ys) hx hX hr iv_one hn hbase h
theorem turnP_len {p : List Int} (h : 0 < p.length) : (turnP p).length = p.length := by
  unfold turnP renL; rw [renO_len]; simp; omega
theorem implRenumberBlocks_8 (A : Option Addr) (n c : Nat) (xs : List Int) (w : World) (h : Rd w A n (iv xs)) (hn : n ≤ 8) (hc1 : n ≤ c) (hc2 : c ≤ maxLen) :
    Calls Tryz.prog 98 #[.slice A n c] w (RetIB w (renL xs) true) := by
  have hl := (show xs.length = n by have := h.len; rw [iv_len] at this; exact this)
  have := implRenumberBlocks_any A n c xs w h (by omega) hc1 hc2
  rwa [show renB xs = (renL xs, true) by unfold renB; rw [if_pos (by omega)]] at this
set_option maxRecDepth 20000 in
set_option maxHeartbeats 2000000 in
theorem specTurnPartition_any (A : Option Addr) (n c : Nat) (p : List Int) (w : World) (h : Rd w A n (iv p)) (hp : isPar p = true) (h0 : 0 < n) (hnc : n ≤ c) :
    Calls Tryz.prog 76 #[.slice A n c] w (RetIB w (turnP p) true) := by
  unfold RetIB
  have hl := (show p.length = n by have := h.len; rw [iv_len] at this; exact this)
  have h8 : n ≤ 8 := by have := (isPar_iff hp).1; omega
  have HR := Lib.hid h
  have HP := Lib.hid hp
  obtain ⟨b, off, x, rfl, hx, hc⟩ := h.ati (show n - 1 < n by omega)
  have HX := Lib.hid (show turnP p = renL (x :: p.take (n - 1)) by unfold turnP; rw [hl, getD_of' hx])
  have HF := Lib.hid (show Rd w (some ⟨b, off, none⟩) (n - 1) (iv (p.take (n - 1))) by rw [← iv_take]; exact h.frontV (by omega))
  have HN := Lib.hid (show n = (turnP p).length by rw [turnP_len (by omega)]; omega)
  have hwn : IntKind.i64.wrap ((n : Int) - 1) = (n : Int) - 1 := IntWalk.i64_in _ (by omega)
  have i0 : (0 : Int) ≤ (n : Int) - 1 := by omega
  have i1 : (n : Int) - 1 < (n : Int) := by omega
  have i1' : (1 : Int) ≤ (n : Int) := by omega
  have i2 : ((n : Int) - 1).toNat = n - 1 := by omega
  have n0 : ((n : Int) == 0) = false := by rw [beq_eq_false_iff_ne]; omega
  have n0' : ¬ n = 0 := by omega
  clear h hp hx hl
  go_enter Tryz.func76, Tryz.ntmps76
  go_wp2_with fail
  refine (specIsPartition_any _ _ _ _ _ HR.out (by omega)).mono ?_
  rintro e w' ⟨rfl, rfl⟩
  rw [HP.out]
  go_wp2_with fail
  have i3 : (n : Int) - 1 ≤ (c : Int) := by omega
  have hbl := World.block_lt_of_cell? _ _ hc
  go_region_held3 (fun w' => w'.cell? ⟨b, off + (n - 1), none⟩ = some (.int .i64 x)) (first | go_keep | assumption)
    (first | (refine stepAll _ (by rfl) _ _ (by rfl) w.heap.size (some ⟨w.heap.size, 0, none⟩) 1 1 (iv [x]) (by rfl) ((Own.lit w 3 #[.int .i64 x] 1 rfl (by decide)).drew) (some ⟨b, off, none⟩) (n - 1) c _ (by rfl) (by simp) ((HF.out.alloc _).drew) (by omega) (by simp) ?_; intro A' c' w2 hown' hg' hb'; rw [← iv_append] at hown'; have hb2 := (((Below.refl w.heap.size w).alloc (Nat.le_refl _) (.cells #[.int .i64 x] 3)).drew.trans hb'); have hc2 := (hb2.cell (p := ⟨b, off + (n - 1), none⟩) hbl).trans hc; have hs2 := hb2.size) | (go_at_call 113; refine (l8Renumber_any _ _ _ _ _ (by exact hown'.rd) (by omega)).mono ?_; rintro e w3 ⟨A3, n3, c3, hn3, rfl, ho3, hb3⟩; have HN3 := Lib.hid hn3; clear hn3; have hc3 := (hb3.cell (p := ⟨b, off + (n - 1), none⟩) (by omega)).trans hc2))
  have O3 := Lib.hid ho3
  have hbf := hb2.trans (hb3.mono hs2)
  clear ho3 hb3 hc2 hc3 hb2 hown' hg' hb'
  go_wp2_with fail
  go_ret2
  rw [HX.out]
  exact ⟨A3, n3, c3, HN3.out, rfl, O3.out.mono hs2, hbf⟩
set_option maxRecDepth 20000 in
set_option maxHeartbeats 2000000 in
theorem implTurnPartition_any (A : Option Addr) (n c : Nat) (p : List Int) (w : World) (h : Rd w A n (iv p)) (hp : isPar p = true) (h0 : 0 < n) (hnc : n ≤ c) :
    Calls Tryz.prog 65 #[.slice A n c] w (RetIB w (turnP p) true) := by
  unfold RetIB
  have hl := (show p.length = n by have := h.len; rw [iv_len] at this; exact this)
  have h8 : n ≤ 8 := by have := (isPar_iff hp).1; omega
  have HR := Lib.hid h
  have HP := Lib.hid hp
  obtain ⟨b, off, x, rfl, hx, hc⟩ := h.ati (show n - 1 < n by omega)
  have HX := Lib.hid (show turnP p = renL (x :: p.take (n - 1)) by unfold turnP; rw [hl, getD_of' hx])
  have HF := Lib.hid (show Rd w (some ⟨b, off, none⟩) (n - 1) (iv (p.take (n - 1))) by rw [← iv_take]; exact h.frontV (by omega))
  have HN := Lib.hid (show n = (turnP p).length by rw [turnP_len (by omega)]; omega)
  have hwn : IntKind.i64.wrap ((n : Int) - 1) = (n : Int) - 1 := IntWalk.i64_in _ (by omega)
  have i0 : (0 : Int) ≤ (n : Int) - 1 := by omega
  have i1 : (n : Int) - 1 < (n : Int) := by omega
  have i1' : (1 : Int) ≤ (n : Int) := by omega
  have i2 : ((n : Int) - 1).toNat = n - 1 := by omega
  have n0 : ((n : Int) == 0) = false := by rw [beq_eq_false_iff_ne]; omega
  have n0' : ¬ n = 0 := by omega
  clear h hp hx hl
  go_enter Tryz.func65, Tryz.ntmps65
  go_wp2_with fail
  refine (implIsPartition_any _ _ _ _ _ HR.out (by omega)).mono ?_
  rintro e w' ⟨rfl, rfl⟩
  rw [HP.out]
  go_wp2_with fail
  have i3 : (n : Int) - 1 ≤ (c : Int) := by omega
  have hbl := World.block_lt_of_cell? _ _ hc
  go_region_held3 (fun w' => w'.cell? ⟨b, off + (n - 1), none⟩ = some (.int .i64 x)) (first | go_keep | assumption)
    (first | (refine stepAll _ (by rfl) _ _ (by rfl) w.heap.size (some ⟨w.heap.size, 0, none⟩) 1 1 (iv [x]) (by rfl) ((Own.lit w 3 #[.int .i64 x] 1 rfl (by decide)).drew) (some ⟨b, off, none⟩) (n - 1) c _ (by rfl) (by simp) ((HF.out.alloc _).drew) (by omega) (by simp) ?_; intro A' c' w2 hown' hg' hb'; rw [← iv_append] at hown'; have hb2 := (((Below.refl w.heap.size w).alloc (Nat.le_refl _) (.cells #[.int .i64 x] 3)).drew.trans hb'); have hc2 := (hb2.cell (p := ⟨b, off + (n - 1), none⟩) hbl).trans hc; have hs2 := hb2.size) | (go_at_call 98; refine (implRenumberBlocks_8 _ _ _ _ _ (by exact hown'.rd) (by omega) (own_capT2 hown').1 (own_capT2 hown').2).mono ?_; rintro e w3 ⟨A3, n3, c3, hn3, rfl, ho3, hb3⟩; have HN3 := Lib.hid hn3; clear hn3; have hc3 := (hb3.cell (p := ⟨b, off + (n - 1), none⟩) (by omega)).trans hc2))
  have O3 := Lib.hid ho3
  have hbf := hb2.trans (hb3.mono hs2)
  clear ho3 hb3 hc2 hc3 hb2 hown' hg' hb'
  go_wp2_with fail
  go_ret2
  rw [HX.out]
  exact ⟨A3, n3, c3, HN3.out, rfl, O3.out.mono hs2, hbf⟩

end Go.Proofs.YtghfhkbncjgaeaaGreat
