/- Merged: Dg TriS. -/
import Derived.Test.YtghfhkbncjgaeaaGreatMg18
import Derived.Test.YtghfhkbncjgaeaaGreatMg25
import Derived.Test.YtghfhkbncjgaeaaGreatMg5
import Derived.Test.YtghfhkbncjgaeaaGreatMg20

namespace Go.Proofs.YtghfhkbncjgaeaaGreat
set_option linter.unusedVariables false
open Go.RowKit

/-- The values are slices of ints that are read. -/
structure Rows (w : World) (vs : List Value) (xss : List (List Int)) : Prop where
  len : vs.length = xss.length
  row : ∀ (j : Nat) (xs : List Int), xss[j]? = some xs → ∃ Aj cj, vs[j]? = some (Value.slice Aj xs.length cj) ∧ Rd w Aj xs.length (iv xs)
section
variable {w w' : World} {vs us : List Value} {xss yss : List (List Int)} {A : Option Addr} {n c : Nat}
theorem Rows.nil_ (w : World) : Rows w [] [] := ⟨rfl, fun j xs h => by simp at h⟩
theorem Rows.keep (h : Rows w vs xss) (hk : ∀ p : Addr, p.block < w.heap.size → w'.cell? p = w.cell? p) : Rows w' vs xss :=
  ⟨h.len, fun j xs hj => by obtain ⟨Aj, cj, h1, h2⟩ := h.row j xs hj; exact ⟨Aj, cj, h1, h2.keep hk⟩⟩
theorem Rows.below (h : Rows w vs xss) (hb : Below w.heap.size w w') : Rows w' vs xss := h.keep fun _ hp => hb.cell hp
theorem Rows.below' {B : Nat} (h : Rows w vs xss) (hb : Below B w w') (hB : w.heap.size ≤ B) : Rows w' vs xss := h.keep fun _ hp => hb.cell (Nat.lt_of_lt_of_le hp hB)
theorem Rows.app (h : Rows w vs xss) (h2 : Rows w us yss) : Rows w (vs ++ us) (xss ++ yss) :=
  ⟨by rw [List.length_append, List.length_append, h.len, h2.len], fun j xs hj => by
    rcases Nat.lt_or_ge j xss.length with hlt | hge
    · rw [List.getElem?_append_left hlt] at hj
      obtain ⟨Aj, cj, a1, a2⟩ := h.row j xs hj
      exact ⟨Aj, cj, by rw [List.getElem?_append_left (by rw [h.len]; exact hlt)]; exact a1, a2⟩
    · rw [List.getElem?_append_right hge] at hj
      obtain ⟨Aj, cj, a1, a2⟩ := h2.row _ xs hj
      exact ⟨Aj, cj, by rw [List.getElem?_append_right (by rw [h.len]; exact hge), h.len]; exact a1, a2⟩⟩
theorem Rows.take (h : Rows w vs xss) (k : Nat) : Rows w (vs.take k) (xss.take k) :=
  ⟨by rw [List.length_take, List.length_take, h.len], fun j xs hj => by
    rw [List.getElem?_take] at hj
    split at hj
    · next hlt =>
      obtain ⟨Aj, cj, a1, a2⟩ := h.row j xs hj
      exact ⟨Aj, cj, by rw [List.getElem?_take, if_pos hlt]; exact a1, a2⟩
    · cases hj⟩
theorem Rows.drop (h : Rows w vs xss) (k : Nat) : Rows w (vs.drop k) (xss.drop k) :=
  ⟨by rw [List.length_drop, List.length_drop, h.len], fun j xs hj => by
    rw [List.getElem?_drop] at hj
    obtain ⟨Aj, cj, a1, a2⟩ := h.row _ xs hj
    exact ⟨Aj, cj, by rw [List.getElem?_drop]; exact a1, a2⟩⟩
theorem Rows.one {Ax : Option Addr} {cx m : Nat} {x : List Int} (h : Rd w Ax m (iv x)) : Rows w [Value.slice Ax m cx] [x] := by
  have hl : m = x.length := by have := h.len; rw [iv_len] at this; exact this.symm
  subst hl
  exact ⟨rfl, fun j xs hj => by
    match j, hj with
    | 0, hj => simp at hj; subst hj; exact ⟨Ax, cx, rfl, h⟩
    | j + 1, hj => simp at hj⟩
theorem Rows.one_ (h : Rows w vs xss) : ∀ u ∈ vs, u.oneCell' = true := by
  intro u hu
  obtain ⟨j, hj, rfl⟩ := List.mem_iff_getElem.1 hu
  obtain ⟨Aj, cj, a1, _⟩ := h.row j _ (List.getElem?_eq_getElem (by rw [← h.len]; exact hj))
  rw [List.getElem?_eq_getElem hj] at a1
  injection a1 with a1
  rw [a1]; rfl

/-- The slice of slices at A reads as xss. -/
structure R2 (w : World) (A : Option Addr) (n : Nat) (vs : List Value) (xss : List (List Int)) : Prop where
  rd : Rd w A n vs
  rows : Rows w vs xss
theorem R2.n_eq (h : R2 w A n vs xss) : n = xss.length := h.rd.len.symm.trans h.rows.len
theorem R2.below (h : R2 w A n vs xss) (hb : Below w.heap.size w w') : R2 w' A n vs xss := ⟨h.rd.below hb, h.rows.below hb⟩
theorem R2.below' {B : Nat} (h : R2 w A n vs xss) (hb : Below B w w') (hB : w.heap.size ≤ B) : R2 w' A n vs xss := ⟨h.rd.below' hb hB, h.rows.below' hb hB⟩
theorem R2.drewN (h : R2 w A n vs xss) (q : Nat) : R2 (w.drewN q) A n vs xss := ⟨h.rd, ⟨h.rows.len, h.rows.row⟩⟩
theorem R2.drew (h : R2 w A n vs xss) : R2 w.drew A n vs xss := ⟨h.rd, ⟨h.rows.len, h.rows.row⟩⟩
theorem R2.alloc (h : R2 w A n vs xss) (o : Obj) : R2 (w.alloc o) A n vs xss := ⟨h.rd.alloc o, h.rows.keep fun _ hp => World.cell?_alloc_lt w o _ hp⟩
theorem R2.at_ {k : Nat} {xs : List Int} (h : R2 w A n vs xss) (hk : xss[k]? = some xs) : ∃ b off Aj cj, A = some ⟨b, off, none⟩ ∧ w.cell? ⟨b, off + k, none⟩ = some (.slice Aj xs.length cj) ∧ Rd w Aj xs.length (iv xs) := by
  obtain ⟨Aj, cj, h1, h2⟩ := h.rows.row k xs hk
  have hkl := (List.getElem?_eq_some_iff.1 hk).1
  obtain ⟨b, off, u, e, hu, hc⟩ := h.rd.at_ (k := k) (by have := h.n_eq; omega)
  rw [h1] at hu
  cases hu
  exact ⟨b, off, Aj, cj, e, hc, h2⟩
theorem O2.r2 {lo : Nat} (h : O2 w lo A n c vs xss) : R2 w A n vs xss :=
  ⟨h.outer.rd, h.len, fun j xs hj => by obtain ⟨Aj, cj, a1, a2⟩ := h.row j xs hj; exact ⟨Aj, cj, a1, a2.rd⟩⟩
end
/-- The call hands back new rows that are read. -/
def RetDg (w : World) (xss : List (List Int)) (e : Ending) (w' : World) : Prop :=
  ∃ g n c vs, n = xss.length ∧ n ≤ c ∧ c ≤ maxLen ∧ e = .returned (.slice (some ⟨g, 0, none⟩) n c) ∧ R2 w' (some ⟨g, 0, none⟩) n vs xss ∧ Below w.heap.size w w'
def RetDgB (w : World) (xss : List (List Int)) (b : Bool) (e : Ending) (w' : World) : Prop :=
  ∃ g n c vs, n = xss.length ∧ n ≤ c ∧ c ≤ maxLen ∧ e = .returned (.tuple #[.slice (some ⟨g, 0, none⟩) n c, .bool b]) ∧ R2 w' (some ⟨g, 0, none⟩) n vs xss ∧ Below w.heap.size w w'

theorem getD2 {w : World} {A : Option Addr} {a : List Int} (h : Rd w A 2 (iv a)) : ∃ b off, A = some ⟨b, off, none⟩ ∧ w.cell? ⟨b, off, none⟩ = some (.int .i64 (a.getD 0 0)) ∧ w.cell? ⟨b, off + 1, none⟩ = some (.int .i64 (a.getD 1 0)) := by
  obtain ⟨b, off, x, rfl, hx, hc⟩ := h.ati (show 0 < 2 by omega)
  obtain ⟨b', off', y, e, hy, hc'⟩ := h.ati (show 1 < 2 by omega)
  cases e
  refine ⟨b, off, rfl, ?_, ?_⟩
  · rw [getD_of' hx]; exact hc
  · rw [getD_of' hy]; exact hc'

set_option maxRecDepth 20000 in
set_option maxHeartbeats 1000000 in
theorem l7Before_any (A1 : Option Addr) (c1 : Nat) (a : List Int) (A2 : Option Addr) (c2 : Nat) (b : List Int) (t : Bool) (w : World) (ha : Rd w A1 2 (iv a)) (hb : Rd w A2 2 (iv b)) (ht : befD a b = t) :
    Calls Tryz.prog 136 #[.slice A1 2 c1, .slice A2 2 c2] w fun e w' => e = .returned (.bool t) ∧ ∃ q, w' = w.drewN q := by
  obtain ⟨b1, o1, rfl, p1, p2⟩ := getD2 ha
  obtain ⟨b2, o2, rfl, p3, p4⟩ := getD2 hb
  unfold befD at ht
  obtain ⟨x0, hx0⟩ : ∃ x, x = a.getD 0 0 := ⟨_, rfl⟩
  obtain ⟨x1, hx1⟩ : ∃ x, x = a.getD 1 0 := ⟨_, rfl⟩
  obtain ⟨y0, hy0⟩ : ∃ x, x = b.getD 0 0 := ⟨_, rfl⟩
  obtain ⟨y1, hy1⟩ : ∃ x, x = b.getD 1 0 := ⟨_, rfl⟩
  rw [← hx0, ← hx1, ← hy0, ← hy1] at ht
  rw [← hx0] at p1
  rw [← hx1] at p2
  rw [← hy0] at p3
  rw [← hy1] at p4
  clear ha hb hx0 hx1 hy0 hy1
  by_cases h1 : x0 < y0
  · have q1 : decide (x0 < y0) = true := decide_eq_true h1
    have HT := Lib.hid (show t = true by rw [← ht, q1]; rfl)
    clear ht
    go_enter Tryz.func136, Tryz.ntmps136
    go_wp2_with fail
    go_quiet (fail)
    go_wp2_with fail
    go_ret
    exact ⟨ret_bool HT.out.symm, _, rfl⟩
  have q1 : decide (x0 < y0) = false := decide_eq_false h1
  by_cases h2 : x0 = y0
  · have q2 : (x0 == y0) = true := by simp [h2]
    by_cases h3 : x1 < y1
    · have q3 : decide (x1 < y1) = true := decide_eq_true h3
      have HT := Lib.hid (show t = true by rw [← ht, q1, q3, decide_eq_true h2]; rfl)
      clear ht h2
      go_enter Tryz.func136, Tryz.ntmps136
      go_wp2_with fail
      go_quiet (fail)
      go_wp2_with fail
      go_ret
      exact ⟨ret_bool HT.out.symm, _, rfl⟩
    · have q3 : decide (x1 < y1) = false := decide_eq_false h3
      have HT := Lib.hid (show t = false by rw [← ht, q1, q3, decide_eq_true h2]; rfl)
      clear ht h2
      go_enter Tryz.func136, Tryz.ntmps136
      go_wp2_with fail
      go_quiet (fail)
      go_wp2_with fail
      go_ret
      exact ⟨ret_bool HT.out.symm, _, rfl⟩
  · have q2 : (x0 == y0) = false := by simp [h2]
    have HT := Lib.hid (show t = false by rw [← ht, q1, decide_eq_false h2]; rfl)
    clear ht h2
    go_enter Tryz.func136, Tryz.ntmps136
    go_wp2_with fail
    go_quiet (fail)
    go_wp2_with fail
    go_ret
    exact ⟨ret_bool HT.out.symm, _, rfl⟩

set_option maxRecDepth 20000 in
set_option maxHeartbeats 2000000 in
theorem l7Crosses_no (A1 : Option Addr) (c1 : Nat) (a : List Int) (A2 : Option Addr) (c2 : Nat) (b : List Int) (w : World) (ha : Rd w A1 2 (iv a)) (hb : Rd w A2 2 (iv b)) (ht : xsD a b = false) :
    Calls Tryz.prog 137 #[.slice A1 2 c1, .slice A2 2 c2] w fun e w' => e = .returned (.bool false) ∧ ∃ q, w' = w.drewN q := by
  obtain ⟨b1, o1, rfl, p1, p2⟩ := getD2 ha
  obtain ⟨b2, o2, rfl, p3, p4⟩ := getD2 hb
  unfold xsD at ht
  obtain ⟨x0, hx0⟩ : ∃ x, x = a.getD 0 0 := ⟨_, rfl⟩
  obtain ⟨x1, hx1⟩ : ∃ x, x = a.getD 1 0 := ⟨_, rfl⟩
  obtain ⟨y0, hy0⟩ : ∃ x, x = b.getD 0 0 := ⟨_, rfl⟩
  obtain ⟨y1, hy1⟩ : ∃ x, x = b.getD 1 0 := ⟨_, rfl⟩
  rw [← hx0, ← hx1, ← hy0, ← hy1] at ht
  rw [← hx0] at p1
  rw [← hx1] at p2
  rw [← hy0] at p3
  rw [← hy1] at p4
  clear ha hb hx0 hx1 hy0 hy1
  by_cases h1 : x0 < y0
  · have q1 : decide (x0 < y0) = true := decide_eq_true h1
    have q4 : decide (y0 < x0) = false := decide_eq_false (by omega)
    have h4 : ¬ y0 < x0 := by omega
    by_cases h2 : y0 < x1
    · have q2 : decide (y0 < x1) = true := decide_eq_true h2
      have h3 : ¬ x1 < y1 := by intro h; rw [q1, q2, decide_eq_true h] at ht; cases ht
      have q3 : decide (x1 < y1) = false := decide_eq_false h3
      clear ht
      go_enter Tryz.func137, Tryz.ntmps137
      go_wp2_with fail
      go_quiet (fail)
      go_wp2_with fail
      go_ret
      exact ⟨rfl, _, rfl⟩
    · have q2 : decide (y0 < x1) = false := decide_eq_false h2
      clear ht
      go_enter Tryz.func137, Tryz.ntmps137
      go_wp2_with fail
      go_quiet (fail)
      go_wp2_with fail
      go_ret
      exact ⟨rfl, _, rfl⟩
  · have q1 : decide (x0 < y0) = false := decide_eq_false h1
    by_cases h4 : y0 < x0
    · have q4 : decide (y0 < x0) = true := decide_eq_true h4
      by_cases h5 : x0 < y1
      · have q5 : decide (x0 < y1) = true := decide_eq_true h5
        have h6 : ¬ y1 < x1 := by intro h; rw [q4, q5, decide_eq_true h] at ht; simp at ht
        have q6 : decide (y1 < x1) = false := decide_eq_false h6
        clear ht
        go_enter Tryz.func137, Tryz.ntmps137
        go_wp2_with fail
        go_quiet (fail)
        go_wp2_with fail
        go_ret
        exact ⟨rfl, _, rfl⟩
      · have q5 : decide (x0 < y1) = false := decide_eq_false h5
        clear ht
        go_enter Tryz.func137, Tryz.ntmps137
        go_wp2_with fail
        go_quiet (fail)
        go_wp2_with fail
        go_ret
        exact ⟨rfl, _, rfl⟩
    · have q4 : decide (y0 < x0) = false := decide_eq_false h4
      clear ht
      go_enter Tryz.func137, Tryz.ntmps137
      go_wp2_with fail
      go_quiet (fail)
      go_wp2_with fail
      go_ret
      exact ⟨rfl, _, rfl⟩

end Go.Proofs.YtghfhkbncjgaeaaGreat

namespace Go.Proofs.YtghfhkbncjgaeaaGreat
set_option linter.unusedVariables false
open Go.RowKit

/-- A quiet call where draws went before. -/
theorem quietA {P : Program} {f : FuncId} {args : Array Value} {w : World} {j k : Nat} {v : Value} (c : ∀ W : World, W = w.drewN (j + k) → Calls P f args W fun e w' => e = .returned v ∧ ∃ q, w' = W.drewN q) :
    Calls P f args (w.drewN (j + k)) fun e w' => e = .returned v ∧ ∃ q, w' = w.drewN (j + q) := by
  refine (c _ rfl).mono ?_
  rintro e w' ⟨he, q, hq⟩
  exact ⟨he, k + q, by rw [hq, World.drewN_drewN, Nat.add_assoc]⟩

set_option maxRecDepth 20000 in
set_option maxHeartbeats 4000000 in
theorem specIsTriangulation_yes (A : Option Addr) (n m c : Nat) (vs : List Value) (d : List (List Int)) (w : World) (h : R2 w A m vs d) (ht : triB n d = true) :
    Calls Tryz.prog 121 #[.int .i64 n, .slice A m c] w fun e w' => e = .returned (.bool true) ∧ ∃ q, w' = w.drewN q := by
  have H := triOk ht
  have hml := h.n_eq
  have hm7 : m ≤ 7 := by rw [hml]; exact H.len7
  have hn2 := H.n2
  have hn10 := H.n10
  have hlen := H.len
  rw [← hml] at hlen
  have HT := Lib.hid H
  have HR := Lib.hid h
  have HM := Lib.hid hml
  have q1 : inB (n : Int) 2 10 = true := inB_true (by omega) (by omega)
  have u1 : IntKind.i64.wrap ((n : Int) - 3) = (n : Int) - 3 := IntWalk.i64_in _ (by omega)
  have u2 : IntKind.i64.wrap ((n : Int) - 1) = (n : Int) - 1 := IntWalk.i64_in _ (by omega)
  by_cases h3 : (0 : Int) < (n : Int) - 3
  case' pos => have q2 : ((m : Int) != (n : Int) - 3) = false := by simp; omega
  case' neg => have q2 : ((m : Int) != 0) = false := by simp; omega
  all_goals
    clear h ht H hml hlen
    go_enter Tryz.func121, Tryz.ntmps121
    go_wp2_with fail
    refine (l1In_any _ _ _ _).mono ?_
    rintro e w' ⟨rfl, rfl⟩
    rw [q1]
    go_wp2_with fail
    go_loopw [5, 6] (fun iv _ wr => ∃ i q : Nat, i ≤ m ∧ iv = .int .i64 i ∧ wr = w.drewN q) (fun i _ _ => m - (intOf i).toNat)
    case atStart => exact ⟨0, 0, Nat.zero_le _, rfl, rfl⟩
    case round =>
      obtain ⟨i, q, hi, rfl, rfl⟩ := hrel
      by_cases hlt : i < m
      · obtain ⟨x, hx⟩ : ∃ x, d[i]? = some x := ⟨_, List.getElem?_eq_getElem (by have := HM.out; omega)⟩
        have hx2 := HT.out.two i x hx
        obtain ⟨b, off, Ai, ci, rfl, hc, hrd⟩ := HR.out.at_ hx
        rw [hx2] at hc hrd
        have HRD := Lib.hid hrd
        obtain ⟨b1, o1, rfl, p1, p2⟩ := getD2 hrd
        have y1 := HT.out.lo i x hx
        have y2 := HT.out.hi i x hx
        have y3 := HT.out.ne i x hx
        have yb := HT.out.nums hx
        obtain ⟨X0, hX0⟩ : ∃ z, z = x.getD 0 0 := ⟨_, rfl⟩
        obtain ⟨X1, hX1⟩ : ∃ z, z = x.getD 1 0 := ⟨_, rfl⟩
        rw [← hX0] at p1 y1 y2 y3 yb
        rw [← hX1] at p2 y2 y3 yb
        have HX := Lib.hid hx
        have Y1 := Lib.hid y1
        have Y2 := Lib.hid y2
        have i0 : (0 : Int) ≤ (i : Int) := by omega
        have i1 : (i : Int) < (m : Int) := by omega
        have u3 : IntKind.i64.wrap (X0 + 2) = X0 + 2 := IntWalk.i64_in _ (by omega)
        have HBW : Hid (i = 0 ∨ ∃ y Ay cy, befD y x = true ∧ Rd w Ay 2 (iv y) ∧ 1 ≤ i ∧ w.cell? ⟨b, off + (i - 1), none⟩ = some (.slice Ay 2 cy)) := by
          refine Lib.hid ?_
          rcases Nat.eq_zero_or_pos i with h0 | h0
          · exact Or.inl h0
          · obtain ⟨y, hy⟩ : ∃ y, d[i - 1]? = some y := ⟨_, List.getElem?_eq_getElem (by have := HM.out; omega)⟩
            obtain ⟨b', off', Ay, cy, hA, hcy, hry⟩ := HR.out.at_ hy
            cases hA
            have hy2 := HT.out.two _ y hy
            rw [hy2] at hcy hry
            exact Or.inr ⟨y, Ay, cy, HT.out.bef (i - 1) y x hy (by rw [Nat.sub_add_cancel h0]; exact hx), hry, h0, hcy⟩
        have HXS : Hid (∀ k, k < i → ∃ y Ay cy, xsD y x = false ∧ Rd w Ay 2 (iv y) ∧ w.cell? ⟨b, off + k, none⟩ = some (.slice Ay 2 cy)) := by
          refine Lib.hid fun k hk => ?_
          obtain ⟨y, hy⟩ : ∃ y, d[k]? = some y := ⟨_, List.getElem?_eq_getElem (by have := HM.out; omega)⟩
          obtain ⟨b', off', Ay, cy, hA, hcy, hry⟩ := HR.out.at_ hy
          cases hA
          have hy2 := HT.out.two _ y hy
          rw [hy2] at hcy hry
          exact ⟨y, Ay, cy, HT.out.crs i k x y hk hx hy, hry, hcy⟩
        clear hx hx2 hrd hX0 hX1 y1 y2
        by_cases c1 : X0 = 0
        case' pos =>
          have c2 : (X0 == 0) = true := by simp [c1]
          have c3 : (X1 == (n : Int) - 1) = false := by rw [beq_eq_false_iff_ne]; intro hh; exact y3 ⟨c1, hh⟩
        case' neg =>
          have c2 : (X0 == 0) = false := by simp [c1]
        all_goals
          clear c1 y3
          go_wp2_with fail
          go_quiet (first | (go_at_call_of 34 (Value.int IntKind.i64 X0); exact quietA fun W _ => l1In_q _ _ _ true Y1.out W) | (go_at_call_of 34 (Value.int IntKind.i64 X1); exact quietA fun W _ => l1In_q _ _ _ true Y2.out W))
          rcases HBW.out with h0 | ⟨y, Ay, cy, hby, hry, h0, hcy⟩
          case' inl =>
            have z0 : ¬ (0 : Int) < (i : Int) := by omega
            have z5 : ¬ 0 < i := by omega
            have z6 : decide (0 < i) = false := decide_eq_false z5
            have z7 : decide ((0 : Int) < (i : Int)) = false := decide_eq_false z0
            clear HBW h0
            go_wp2_with fail
            go_quiet (fail)
          case' inr =>
            have z0 : (0 : Int) < (i : Int) := by omega
            have z5 : 0 < i := h0
            have z6 : decide (0 < i) = true := decide_eq_true h0
            have z7 : decide ((0 : Int) < (i : Int)) = true := decide_eq_true z0
            have z1 : (0 : Int) ≤ (i : Int) - 1 := by omega
            have z2 : (i : Int) - 1 < (m : Int) := by omega
            have z3 : ((i : Int) - 1).toNat = i - 1 := by omega
            have z4 : IntKind.i64.wrap ((i : Int) - 1) = (i : Int) - 1 := IntWalk.i64_in _ (by omega)
            have HBY := Lib.hid hby
            have HRY := Lib.hid hry
            clear HBW hby hry
            go_wp2_with fail
            go_quiet ((go_at_call 136; exact quietA fun W hW => l7Before_any _ _ _ _ _ _ _ _ (by rw [hW]; exact HRY.out) (by rw [hW]; exact HRD.out) HBY.out))
          all_goals
            go_wp2_with fail
            go_loopw [6] (fun kv wr => ∃ k q : Nat, k ≤ i ∧ kv = .int .i64 k ∧ wr = w.drewN q) (fun kv _ => i - (intOf kv).toNat)
            case atStart => exact ⟨0, _, Nat.zero_le _, rfl, by first | rfl | (rw [World.drewN_drewN, World.drewN_drewN]) | (rw [World.drewN_drewN])⟩
            case round =>
              obtain ⟨k, qk, hk, rfl, rfl⟩ := hrel
              by_cases hlk : k < i
              · obtain ⟨v, Av, cv, hxs, hrv, hcv⟩ := HXS.out k hlk
                have HXV := Lib.hid hxs
                have HRV := Lib.hid hrv
                have k0 : (0 : Int) ≤ (k : Int) := by omega
                have k1 : (k : Int) < (m : Int) := by omega
                have k2 : (k : Int) < (i : Int) := by omega
                clear hxs hrv
                go_wp2_with fail
                go_quiet ((go_at_call 137; exact quietA fun W hW => l7Crosses_no _ _ _ _ _ _ _ (by rw [hW]; exact HRV.out) (by rw [hW]; exact HRD.out) HXV.out))
                go_wp2_with fail
                go_roundw
                case rel => exact ⟨k + 1, _, by omega, by go_num, rfl⟩
                case measure => simp [intOf]; omega
              · go_wp2_with fail
                go_roundw
                case rel => exact ⟨i + 1, _, by omega, by go_num, rfl⟩
                case measure => simp [intOf]; omega
      · go_wp2_with fail
        go_ret
        exact ⟨rfl, _, rfl⟩

end Go.Proofs.YtghfhkbncjgaeaaGreat
