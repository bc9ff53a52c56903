/- Merged: Ints PathDefs Num Part Put. -/
import Derived.Test.YtghfhkbncjgaeaaGreatProg
import Derived.Test.YtghfhkbncjgaeaaGreatMg2
import Derived.Test.YtghfhkbncjgaeaaGreatMg1
import Derived.Laws.AppendOwnNone
import Derived.OwnWalk

namespace Go.Proofs.YtghfhkbncjgaeaaGreat
open Go.RowKit

theorem info_int : (Tryz.prog.info? 3).map (fun i => (i.zero, i.size, i.bytes)) = some (some (.int .i64 0), 1, 8) := by kernel_rfl

/-- append of one int to a slice of the call's own. -/
theorem appI (w : World) {ops : Array Oper} {rest : List Oper} {o : Oper} {a : Act} {Q : Exit → Act → World → Prop} (hgd : o.guard = none) (s x : Operand)
    (ho : o.op = .call { callee := .builtin .append, args := #[s, x], argTypes := #[28, 28] })
    (B : Nat) (A : Option Addr) (n c : Nat) (vs : List Value) (hs : a.eval s = .slice A n c) (hown : Own w 3 B A n c vs)
    (g : Nat) (y : Int) (hx : a.eval x = .slice (some ⟨g, 0, none⟩) 1 1) (hy : w.cell? ⟨g, 0, none⟩ = some (.int .i64 y)) (hn : n ≤ 1000000000) (hbase' : B ≤ g)
    (h : ∀ A' c' w', Own w' 3 B A' (n + 1) c' (vs ++ [.int .i64 y]) → w.grownBy w' (Value.ownBlock (.slice A n c)) → Below B w w' → wpList Tryz.prog ops Q rest (a.put o.dst (.slice A' (n + 1) c')) w') : wpList Tryz.prog ops Q (o :: rest) a w :=
  app1 w hgd s x 28 ho 3 (.int .i64 0) 8 Tryz.underlying28 info_int rfl (by decide) B A n c vs hs hown g _ hx hy rfl hn hbase' h
theorem iv_snoc (xs : List Int) (x : Int) : iv (xs ++ [x]) = iv xs ++ [.int .i64 x] := by simp [iv]
theorem own_empty (w : World) : Own (w.alloc (.cells #[] 3)) 3 w.heap.size (some ⟨w.heap.size, 0, none⟩) 0 0 (iv []) := Own.lit w 3 #[] 0 rfl (by decide)
/-- make([]int, n). -/
theorem mkI (n : Nat) (hn : n ≤ 1000000000) (w : World) : (Instr.makeSlice 28 (.int .i64 (n : Int)) (.int .i64 (n : Int))).run Tryz.prog w = .ok (.slice (some ⟨w.heap.size, 0, none⟩) n n) (w.alloc (.cells (madeCells #[.int .i64 0] n) 3)) :=
  run_make_row' (P := Tryz.prog) 28 3 (.int .i64 0) 8 Tryz.underlying28 info_int rfl .i64 .i64 n (by omega) (by omega) w

/-- The call hands back a new slice of the ints xs, and a bool. -/
def RetIB (w : World) (xs : List Int) (b : Bool) (e : Ending) (w' : World) : Prop :=
  ∃ A n c, n = xs.length ∧ e = .returned (.tuple #[.slice A n c, .bool b]) ∧ Own w' 3 w.heap.size A n c (iv xs) ∧ Below w.heap.size w w'
/-- The call hands back a new slice of the ints xs. -/
def RetI (w : World) (xs : List Int) (e : Ending) (w' : World) : Prop :=
  ∃ A n c, n = xs.length ∧ e = .returned (.slice A n c) ∧ Own w' 3 w.heap.size A n c (iv xs) ∧ Below w.heap.size w w'

end Go.Proofs.YtghfhkbncjgaeaaGreat

namespace Go.Proofs.YtghfhkbncjgaeaaGreat
open Go.RowKit

/-- The height behind the first k letters. -/
def hat (l : List UInt8) : Nat → Int
  | 0 => 0
  | k + 1 => if l[k]? = some 117 then hat l k + 1 else hat l k - 1
/-- The first k letters are u and d, and never more d than u. -/
def okB (l : List UInt8) : Nat → Bool
  | 0 => true
  | k + 1 => okB l k && ((l[k]? == some 117) || (l[k]? == some 100)) && decide (0 ≤ hat l (k + 1))
def pathB (l : List UInt8) : Bool := okB l l.length && (hat l l.length == 0)
def dyck (l : List UInt8) : Bool := decide (l.length ≤ 16) && pathB l
def htsTo (l : List UInt8) (k : Nat) : List Int := (List.range k).map (hat l)
def hts (l : List UInt8) : List Int := htsTo l (l.length + 1)
theorem htsTo_len (l : List UInt8) (k : Nat) : (htsTo l k).length = k := by simp [htsTo]
theorem hts_len (l : List UInt8) : (hts l).length = l.length + 1 := htsTo_len _ _
theorem htsTo_succ (l : List UInt8) (k : Nat) : htsTo l (k + 1) = htsTo l k ++ [hat l k] := by simp [htsTo, List.range_succ]
theorem hts_at {l : List UInt8} {k : Nat} {x : Int} (h : (hts l)[k]? = some x) : x = hat l k ∧ k ≤ l.length := by
  unfold hts htsTo at h
  rw [List.getElem?_map, Option.map_eq_some_iff] at h
  obtain ⟨j, hj, rfl⟩ := h
  obtain ⟨h1, h2⟩ := List.getElem?_eq_some_iff.1 hj
  simp at h1 h2
  subst h2
  exact ⟨rfl, by omega⟩
theorem hat_bd (l : List UInt8) : ∀ k : Nat, -(k : Int) ≤ hat l k ∧ hat l k ≤ k
  | 0 => by simp [hat]
  | k + 1 => by
    have := hat_bd l k
    simp only [hat]
    split <;> omega
theorem okB_nn {l : List UInt8} {k : Nat} (h : okB l k = true) : 0 ≤ hat l k := by
  cases k with
  | zero => simp [hat]
  | succ k => simp only [okB, Bool.and_eq_true, decide_eq_true_eq] at h; exact h.2
theorem hat_u {l : List UInt8} {k : Nat} (h : l[k]? = some 117) : hat l (k + 1) = hat l k + 1 := by simp [hat, h]
theorem hat_d {l : List UInt8} {k : Nat} {c : UInt8} (h : l[k]? = some c) (hc : c ≠ 117) : hat l (k + 1) = hat l k - 1 := by
  rw [hat, h, if_neg]; simpa using hc
theorem okB_mono {l : List UInt8} {j k : Nat} (h : okB l k = true) (hj : j ≤ k) : okB l j = true := by
  induction k with
  | zero => obtain rfl : j = 0 := by omega
            exact h
  | succ k ih =>
    rcases Nat.lt_or_ge j (k + 1) with hlt | hge
    · simp only [okB, Bool.and_eq_true] at h
      exact ih h.1.1 (by omega)
    · obtain rfl : j = k + 1 := by omega
      exact h
theorem okB_false {l : List UInt8} {k n : Nat} (h : okB l k = false) (hk : k ≤ n) : okB l n = false := by
  rcases hb : okB l n with _ | _
  · rfl
  · rw [okB_mono hb hk] at h; exact h
theorem okB_u {l : List UInt8} {k : Nat} (h : okB l k = true) (hu : l[k]? = some 117) : okB l (k + 1) = true := by
  have h0 := okB_nn h
  simp only [okB, h, hu, hat_u hu, Bool.and_eq_true, decide_eq_true_eq]
  exact ⟨by decide, by omega⟩
theorem okB_d {l : List UInt8} {k : Nat} (h : okB l k = true) (hu : l[k]? = some 100) (hh : 1 ≤ hat l k) : okB l (k + 1) = true := by
  simp only [okB, h, hu, hat_d hu (by decide), Bool.and_eq_true, decide_eq_true_eq]
  exact ⟨by decide, by omega⟩
theorem okB_d' {l : List UInt8} {k : Nat} (hu : l[k]? = some 100) (hh : hat l k < 1) : okB l (k + 1) = false := by
  have : ¬ 0 ≤ hat l (k + 1) := by rw [hat_d hu (by decide)]; omega
  simp [okB, this]
theorem okB_x {l : List UInt8} {k : Nat} {c : UInt8} (hu : l[k]? = some c) (h1 : c ≠ 117) (h2 : c ≠ 100) : okB l (k + 1) = false := by
  simp [okB, hu, h1, h2]
theorem pathB_false {l : List UInt8} {k : Nat} (h : okB l k = false) (hk : k ≤ l.length) : pathB l = false := by
  simp [pathB, okB_false h hk]
theorem dyck_pathB {l : List UInt8} (h : dyck l = true) : l.length ≤ 16 ∧ okB l l.length = true ∧ hat l l.length = 0 := by
  simpa [dyck, pathB, and_assoc] using h
theorem u8_ne {c d : UInt8} (h : c ≠ d) : ((c.toNat : Int) == (d.toNat : Int)) = false := by
  simp only [beq_eq_false_iff_ne, ne_eq]
  intro he
  apply h
  have : c.toNat = d.toNat := by omega
  exact UInt8.toNat_inj.1 this

end Go.Proofs.YtghfhkbncjgaeaaGreat

namespace Go.Proofs.YtghfhkbncjgaeaaGreat
open Go.RowKit

theorem within_any (x lo hi : Int) (w : World) :
    Calls Tryz.prog 33 #[.int .i64 x, .int .i64 lo, .int .i64 hi] w fun e w' => e = .returned (.bool (inB x lo hi)) ∧ w = w' := by
  unfold inB
  go_enter Tryz.func33, Tryz.ntmps33
  go_wp2
  all_goals (go_ret; simp [*]; try omega)

theorem l1In_any (x lo hi : Int) (w : World) :
    Calls Tryz.prog 34 #[.int .i64 x, .int .i64 lo, .int .i64 hi] w fun e w' => e = .returned (.bool (inB x lo hi)) ∧ w = w' := by
  unfold inB
  go_enter Tryz.func34, Tryz.ntmps34
  go_wp2
  all_goals (go_ret; simp [*]; try omega)

end Go.Proofs.YtghfhkbncjgaeaaGreat

namespace Go.Proofs.YtghfhkbncjgaeaaGreat
open Go.RowKit

/-- The next new number behind the first k. -/
def nx (xs : List Int) : Nat → Int
  | 0 => 0
  | k + 1 => if xs[k]? = some (nx xs k) then nx xs k + 1 else nx xs k
def okP (xs : List Int) : Nat → Bool
  | 0 => true
  | k + 1 => okP xs k && inB (xs.getD k 0) 0 (nx xs k)
def isPar (xs : List Int) : Bool := decide (xs.length ≤ 8) && okP xs xs.length
theorem nx_bd (xs : List Int) : ∀ k : Nat, 0 ≤ nx xs k ∧ nx xs k ≤ k
  | 0 => by simp [nx]
  | k + 1 => by
    have := nx_bd xs k
    unfold nx
    split <;> omega
theorem okP_false {xs : List Int} {k n : Nat} (h : okP xs k = false) (hk : k ≤ n) : okP xs n = false := by
  induction n with
  | zero => obtain rfl : k = 0 := by omega
            exact h
  | succ n ih =>
    rcases Nat.lt_or_ge k (n + 1) with h1 | h1
    · simp [okP, ih (by omega)]
    · obtain rfl : k = n + 1 := by omega
      exact h
theorem okP_mono {xs : List Int} {k n : Nat} (h : okP xs n = true) (hk : k ≤ n) : okP xs k = true := by
  rcases hb : okP xs k with _ | _
  · rw [okP_false hb hk] at h; exact h
  · rfl
theorem okP_step {xs : List Int} {k : Nat} {x : Int} (hx : xs[k]? = some x) : okP xs (k + 1) = (okP xs k && inB x 0 (nx xs k)) := by
  rw [okP, List.getD_eq_getElem?_getD, hx]; rfl
theorem nx_step {xs : List Int} {k : Nat} {x : Int} (hx : xs[k]? = some x) : nx xs (k + 1) = if x = nx xs k then nx xs k + 1 else nx xs k := by
  rw [nx, hx]; simp only [Option.some.injEq]
theorem isPar_iff {xs : List Int} (h : isPar xs = true) : xs.length ≤ 8 ∧ okP xs xs.length = true := by
  simpa [isPar] using h
theorem isPar_at {xs : List Int} {k : Nat} {x : Int} (h : isPar xs = true) (hx : xs[k]? = some x) : 0 ≤ x ∧ x ≤ 7 ∧ x ≤ nx xs k := by
  obtain ⟨h1, h2⟩ := isPar_iff h
  have hk := (List.getElem?_eq_some_iff.1 hx).1
  have := okP_mono (k := k + 1) h2 (by omega)
  rw [okP_step hx, Bool.and_eq_true] at this
  have h3 := inB_iff.1 this.2
  have h4 := nx_bd xs k
  omega

set_option maxHeartbeats 400000 in
theorem specIsPartition_any (A : Option Addr) (n c : Nat) (xs : List Int) (w : World) (h : Rd w A n (iv xs)) (hn : n ≤ 1000000000) :
    Calls Tryz.prog 114 #[.slice A n c] w fun e w' => e = .returned (.bool (isPar xs)) ∧ w = w' := by
  have HR := Lib.hid h
  have HL := Lib.hid (show xs.length = n by have := h.len; rw [iv_len] at this; exact this)
  clear h
  go_enter Tryz.func114, Tryz.ntmps114
  go_wp2_with fail
  go_loop [3, 4] (fun t i => ∃ k : Nat, k ≤ n ∧ i = .int .i64 k ∧ t = .int .i64 (nx xs k) ∧ Hid (okP xs k = true)) (fun _ i => n - (intOf i).toNat)
  case atStart => exact ⟨0, Nat.zero_le _, rfl, rfl, rfl⟩
  case round =>
    obtain ⟨k, hk, rfl, rfl, HO⟩ := hrel
    obtain ⟨bd1, bd2⟩ := nx_bd xs k
    obtain ⟨X, hX⟩ : ∃ X, X = nx xs k := ⟨_, rfl⟩
    rw [← hX] at bd1 bd2 ⊢
    have HX := Lib.hid hX
    clear hX
    by_cases hlt : k < n
    · obtain ⟨b, off, x, rfl, hx, hc⟩ := HR.out.ati hlt
      have HS := Lib.hid (okP_step hx)
      have HN := Lib.hid (nx_step hx)
      clear hx
      rcases hin : inB x 0 X with _ | _
      · have HI := Lib.hid hin
        have HF := Lib.hid (show isPar xs = false by
          unfold isPar; rw [HL.out, okP_false (k := k + 1) (by rw [HS.out, ← HX.out, hin]; simp) hlt]; simp)
        clear hin
        go_wp2_with fail
        refine (l1In_any _ _ _ _).mono ?_
        rintro e w' ⟨rfl, rfl⟩
        rw [HI.out]
        go_wp2_with fail
        go_ret
        exact ⟨ret_bool (by rw [HF.out]), rfl⟩
      · have HI := Lib.hid hin
        have HO' := Lib.hid (show okP xs (k + 1) = true by rw [HS.out, ← HX.out, HO.out, hin]; rfl)
        clear hin
        by_cases he : x = X
        · have hb : (x == X) = true := by simpa using he
          have HN' := Lib.hid (show nx xs (k + 1) = X + 1 by rw [HN.out, ← HX.out, if_pos he])
          clear he
          go_wp2_with fail
          refine (l1In_any _ _ _ _).mono ?_
          rintro e w' ⟨rfl, rfl⟩
          rw [HI.out]
          go_wp2_with fail
          go_round
          case rel => exact ⟨k + 1, by omega, by go_num, by rw [HN'.out], HO'.out⟩
          case measure => simp [intOf]; omega
        · have hb : (x == X) = false := by simpa using he
          have HN' := Lib.hid (show nx xs (k + 1) = X by rw [HN.out, ← HX.out, if_neg he])
          clear he
          go_wp2_with fail
          refine (l1In_any _ _ _ _).mono ?_
          rintro e w' ⟨rfl, rfl⟩
          rw [HI.out]
          go_wp2_with fail
          go_round
          case rel => exact ⟨k + 1, by omega, by go_num, by rw [HN'.out], HO'.out⟩
          case measure => simp [intOf]; omega
    · have hkn : k = n := by omega
      have HF := Lib.hid (show isPar xs = decide (n ≤ 8) by unfold isPar; rw [HL.out, ← hkn, HO.out]; simp)
      clear hkn
      go_wp2_with fail
      go_ret
      exact ⟨ret_bool (by rw [HF.out]; simp; omega), rfl⟩
set_option maxHeartbeats 400000 in
theorem implIsPartition_any (A : Option Addr) (n c : Nat) (xs : List Int) (w : World) (h : Rd w A n (iv xs)) (hn : n ≤ 1000000000) :
    Calls Tryz.prog 99 #[.slice A n c] w fun e w' => e = .returned (.bool (isPar xs)) ∧ w = w' := by
  have HR := Lib.hid h
  have HL := Lib.hid (show xs.length = n by have := h.len; rw [iv_len] at this; exact this)
  clear h
  by_cases h8 : n ≤ 8
  · go_enter Tryz.func99, Tryz.ntmps99
    go_wp2_with fail
    go_loop [3, 5, 11] (fun t _ i => ∃ k : Nat, k ≤ n ∧ i = .int .i64 k ∧ t = .int .i64 (nx xs k) ∧ Hid (okP xs k = true)) (fun _ _ i => n - (intOf i).toNat)
    case atStart => exact ⟨0, Nat.zero_le _, rfl, rfl, rfl⟩
    case round =>
      obtain ⟨k, hk, rfl, rfl, HO⟩ := hrel
      obtain ⟨bd1, bd2⟩ := nx_bd xs k
      obtain ⟨X, hX⟩ : ∃ X, X = nx xs k := ⟨_, rfl⟩
      rw [← hX] at bd1 bd2 ⊢
      have HX := Lib.hid hX
      clear hX
      by_cases hlt : k < n
      · obtain ⟨b, off, x, rfl, hx, hc⟩ := HR.out.ati hlt
        have HS := Lib.hid (okP_step hx)
        have HN := Lib.hid (nx_step hx)
        clear hx
        rcases hin : inB x 0 X with _ | _
        · have HI := Lib.hid hin
          have HF := Lib.hid (show isPar xs = false by
            unfold isPar; rw [HL.out, okP_false (k := k + 1) (by rw [HS.out, ← HX.out, hin]; simp) hlt]; simp)
          clear hin
          go_wp2_with fail
          refine (within_any _ _ _ _).mono ?_
          rintro e w' ⟨rfl, rfl⟩
          rw [HI.out]
          go_wp2_with fail
          go_ret
          exact ⟨ret_bool (by rw [HF.out]), rfl⟩
        · have HI := Lib.hid hin
          obtain ⟨x0, x1⟩ := inB_iff.1 hin
          have HO' := Lib.hid (show okP xs (k + 1) = true by rw [HS.out, ← HX.out, HO.out, hin]; rfl)
          have HN' := Lib.hid (show nx xs (k + 1) = if X < x + 1 then x + 1 else X by rw [HN.out, ← HX.out]; split <;> split <;> omega)
          clear hin
          go_wp2_with fail
          refine (within_any _ _ _ _).mono ?_
          rintro e w' ⟨rfl, rfl⟩
          rw [HI.out]
          go_wp2_with fail
          all_goals
            go_round
            case rel => exact ⟨k + 1, by omega, by go_num, by rw [HN'.out] <;> first | rfl | (congr 1; split <;> omega) | (congr 1; omega), HO'.out⟩
            case measure => simp [intOf]; omega
      · have hkn : k = n := by omega
        have HF := Lib.hid (show isPar xs = true by unfold isPar; rw [HL.out, ← hkn, HO.out]; simp; omega)
        clear hkn
        go_wp2_with fail
        go_ret
        exact ⟨ret_bool (by rw [HF.out]), rfl⟩
  · have HF := Lib.hid (show isPar xs = false by unfold isPar; rw [HL.out]; simp [h8])
    go_enter Tryz.func99, Tryz.ntmps99
    go_wp2_with fail
    go_ret
    exact ⟨ret_bool (by rw [HF.out]), rfl⟩

end Go.Proofs.YtghfhkbncjgaeaaGreat

namespace Go.Proofs.YtghfhkbncjgaeaaGreat
open Go.RowKit

theorem iv_set (ys : List Int) (k : Nat) (x : Int) : (iv ys).set k (.int .i64 x) = iv (ys.set k x) := by simp [iv, List.map_set]
theorem iv_take (ys : List Int) (k : Nat) : (iv ys).take k = iv (ys.take k) := by simp [iv, List.map_take]
theorem iv_append (xs ys : List Int) : iv (xs ++ ys) = iv xs ++ iv ys := by simp [iv]
theorem iv_rep (n : Nat) : List.replicate n (Value.int .i64 0) = iv (List.replicate n 0) := by simp [iv]
section
variable {w w' : World} {e : TypeId} {B : Nat} {A : Option Addr} {n c k : Nat} {ys : List Int}
theorem Own.ati (h : Own w e B A n c (iv ys)) (hk : k < n) : ∃ g y, A = some ⟨g, 0, none⟩ ∧ B ≤ g ∧ g < w.heap.size ∧ ys[k]? = some y ∧ w.cell? ⟨g, k, none⟩ = some (.int .i64 y) ∧ w.frozen? ⟨g, k, none⟩ = false := by
  obtain ⟨g, u, e, h1, h2, hu, hc, hf⟩ := h.at_ hk
  unfold iv at hu
  rw [List.getElem?_map, Option.map_eq_some_iff] at hu
  obtain ⟨x, hx, rfl⟩ := hu
  exact ⟨g, x, e, h1, h2, hx, hc, hf⟩
theorem Own.puti {g : Nat} (h : Own w e B (some ⟨g, 0, none⟩) n c (iv ys)) (k : Nat) (x : Int) : Own (w.setCell ⟨g, k, none⟩ (.int .i64 x)) e B (some ⟨g, 0, none⟩) n c (iv (ys.set k x)) := by
  rw [← iv_set]; exact h.set_ k _
/-- Its front part is the call's own as well. -/
theorem Own.front {vs : List Value} {m : Nat} (h : Own w e B A n c vs) (hm : m ≤ n) : Own w e B A m c (vs.take m) := by
  have hl := h.len
  refine ⟨by simp; omega, ?_⟩
  rcases h.2 with ⟨h1, h2⟩ | ⟨g, cap, cur, h1, hg, hh, hn, hc, hs, ht⟩
  · injection h1 with h3 h4 h5
    subst h3 h4 h5
    exact Or.inl ⟨by rw [show m = 0 by omega], by omega⟩
  · injection h1 with h3 h4 h5
    subst h3 h5
    refine Or.inr ⟨g, c, cur, rfl, hg, hh, by omega, hc, hs, ?_⟩
    rw [← ht, List.take_take, Nat.min_eq_left (by omega), Nat.mul_one]
end

/-- append of a whole slice, which may be nil, to a slice of the call's own. -/
theorem wp_appAll {P : Program} (w : World) {o : Oper} {a : Act} {K : Act → World → Prop} {Q : Exit → Act → World → Prop} (s x : Operand) (t : TypeId)
    (ho : o.op = .call { callee := .builtin .append, args := #[s, x], argTypes := #[t, t] })
    (e : TypeId) (z : Value) (bytes : Nat) (ht : P.underlying t = some (.slice e)) (hinfo : (P.info? e).map (fun i => (i.zero, i.size, i.bytes)) = some (some z, 1, bytes)) (hzs : z.cells.size = 1) (hb16 : bytes ≤ 64)
    (B : Nat) (A : Option Addr) (n c : Nat) (vs : List Value) (hs : a.eval s = .slice A n c) (hown : Own w e B A n c vs)
    (X : Option Addr) (m d : Nat) (us : List Value) (hx : a.eval x = .slice X m d) (hd : X = none → d = 0) (hr : Rd w X m us) (h1 : ∀ u ∈ us, u.oneCell' = true) (hn : n + m ≤ 1000000000) (hbase : B ≤ w.heap.size)
    (h : ∀ A' c' w', Own w' e B A' (n + m) c' (vs ++ us) → w.grownBy w' (Value.ownBlock (.slice A n c)) → Below B w w' → K (a.put o.dst (.slice A' (n + m) c')) w') : o.wp P a w K Q := by
  obtain ⟨i, hi, hz0, hz1, hz2⟩ := info_parts hinfo
  have hm := hr.len
  rcases X with _ | ad
  · have hm0 : m = 0 := by
      rcases Nat.eq_zero_or_pos m with h0 | h0
      · exact h0
      · obtain ⟨b, off, he, _⟩ := hr.2 h0; cases he
    have hus : us = [] := List.eq_nil_of_length_eq_zero (by omega)
    obtain rfl := hd rfl
    subst hm0 hus
    have hrun := run_append_owned_none (P := P) (w := w) B t o.type e i 1 ht hi (.slice A n c) n vs hown
    unfold Oper.wp
    simp [execOp, ho, resolve, invoke, builtin, hs, hx, hrun, Result.andThen]
    exact h A c w (by simpa using hown) (World.grownBy.refl _ _) (Below.refl _ _)
  · refine wp_append_own w s x t ho B e i z 1 bytes ht hi hz0 hz1 hz2 hzs (by decide) _ n vs hs hown ad m d us hx (by omega) ?_ h1 (by unfold maxLen; omega) ?_ hbase ?_
    · intro j u hj
      have hj' := (List.getElem?_eq_some_iff.1 hj).1
      obtain ⟨b, off, he, hc⟩ := hr.2 (by omega)
      cases he
      have := hc j u hj
      rwa [show (⟨b, off, none⟩ : Addr).add j = ⟨b, off + j, none⟩ from by unfold Addr.add; split <;> simp_all]
    · have := Nat.mul_le_mul (show n + m ≤ 1000000000 by omega) hb16
      omega
    · intro v' w' hown' hg _
      obtain ⟨A', c', rfl, ho'⟩ := Own.of_row hown'
      exact h A' c' w' ho' hg ((Below.refl _ _).grown hg hbase fun k hk => (hown.blk k hk).1)
theorem iv_one {ys : List Int} : ∀ u ∈ iv ys, u.oneCell' = true := by
  intro u hu; simp [iv] at hu; obtain ⟨x, _, rfl⟩ := hu; rfl
/-- append of a whole slice of ints. -/
theorem appAll (w : World) {ops : Array Oper} {rest : List Oper} {o : Oper} {a : Act} {Q : Exit → Act → World → Prop} (hgd : o.guard = none) (s x : Operand)
    (ho : o.op = .call { callee := .builtin .append, args := #[s, x], argTypes := #[28, 28] })
    (B : Nat) (A : Option Addr) (n c : Nat) (vs : List Value) (hs : a.eval s = .slice A n c) (hown : Own w 3 B A n c vs)
    (X : Option Addr) (m d : Nat) (ys : List Int) (hx : a.eval x = .slice X m d) (hd : X = none → d = 0) (hr : Rd w X m (iv ys)) (hn : n + m ≤ 1000000000) (hbase : B ≤ w.heap.size)
    (h : ∀ A' c' w', Own w' 3 B A' (n + m) c' (vs ++ iv ys) → w.grownBy w' (Value.ownBlock (.slice A n c)) → Below B w w' → wpList Tryz.prog ops Q rest (a.put o.dst (.slice A' (n + m) c')) w') : wpList Tryz.prog ops Q (o :: rest) a w :=
  wpList_plain hgd fun _ hK => wp_appAll w s x 28 ho 3 (.int .i64 0) 8 Tryz.underlying28 info_int rfl (by decide) B A n c vs hs hown X m d (iv ys) hx hd hr iv_one hn hbase fun A' c' w' a1 a2 a3 => hK _ _ (h A' c' w' a1 a2 a3)

end Go.Proofs.YtghfhkbncjgaeaaGreat
