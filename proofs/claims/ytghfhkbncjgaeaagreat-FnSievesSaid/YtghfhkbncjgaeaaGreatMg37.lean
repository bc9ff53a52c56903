/- Merged: TgI. -/
import Derived.Test.YtghfhkbncjgaeaaGreatMg34
import Derived.Test.YtghfhkbncjgaeaaGreatMg36
import Derived.Test.YtghfhkbncjgaeaaGreatMg9

namespace Go.Proofs.YtghfhkbncjgaeaaGreat
set_option linter.unusedVariables false
open Go.RowKit Go.Deep

/-- append of a row, and where the new slice lies. -/
theorem appRowL (w : World) {ops : Array Oper} {rest : List Oper} {o : Oper} {a : Act} {Q : Exit → Act → World → Prop} (hgd : o.guard = none) (s x : Operand)
    (ho : o.op = .call { callee := .builtin .append, args := #[s, x], argTypes := #[75, 75] })
    (B : Nat) (A : Option Addr) (n c : Nat) (vs : List Value) (hs : a.eval s = .slice A n c) (hown : Own w 28 B A n c vs)
    (g : Nat) (y : Option Addr) (m d : Nat) (hx : a.eval x = .slice (some ⟨g, 0, none⟩) 1 1) (hy : w.cell? ⟨g, 0, none⟩ = some (.slice y m d)) (hn : n ≤ 1000000000) (hbase' : B ≤ g)
    (h : ∀ g' c' w', Own w' 28 B (some ⟨g', 0, none⟩) (n + 1) c' (vs ++ [.slice y m d]) → w.grownBy w' (Value.ownBlock (.slice A n c)) → Below B w w' → (Value.ownBlock (.slice A n c) = some g' ∨ g' = w.heap.size) → wpList Tryz.prog ops Q rest (a.put o.dst (.slice (some ⟨g', 0, none⟩) (n + 1) c')) w') : wpList Tryz.prog ops Q (o :: rest) a w :=
  app1L w hgd s x 75 ho 28 (.slice none 0 0) 24 Tryz.underlying75 info_ints rfl (by decide) B A n c vs hs hown g _ hx hy rfl hn hbase' h
/-- Two slices of rows of the call's own, side by side; of the first the rows are not asked. -/
structure TwR (lo : Nat) (w : World) (A1 : Option Addr) (n1 c1 : Nat) (vs1 : List Value) (A2 : Option Addr) (n2 c2 : Nat) (vs2 : List Value) (xss : List (List Int)) : Prop where
  co : Own w 28 lo A1 n1 c1 vs1
  si : O2 w lo A2 n2 c2 vs2 xss
  apart : ∀ g, A1 = some ⟨g, 0, none⟩ → A2 ≠ some ⟨g, 0, none⟩
section
variable {lo : Nat} {w w' : World} {A1 A2 : Option Addr} {n1 c1 n2 c2 : Nat} {vs1 vs2 : List Value} {xss : List (List Int)}
theorem own_block {e : TypeId} {B : Nat} {A : Option Addr} {n c : Nat} {vs : List Value} (h : Own w e B A n c vs) {g : Nat} (he : Value.ownBlock (.slice A n c) = some g) : A = some ⟨g, 0, none⟩ := by
  rcases h.form with ⟨rfl, _⟩ | ⟨g0, rfl, _⟩
  · cases he
  · have : g0 = g := by simpa [Value.ownBlock] using he
    rw [this]
theorem TwR.drewN (h : TwR lo w A1 n1 c1 vs1 A2 n2 c2 vs2 xss) (q : Nat) : TwR lo (w.drewN q) A1 n1 c1 vs1 A2 n2 c2 vs2 xss := ⟨h.co.drewN q, h.si.drewN q, h.apart⟩
theorem TwR.growC {o1 o2 : Obj} {g' c' : Nat} {u : Value} (h : TwR lo w A1 n1 c1 vs1 A2 n2 c2 vs2 xss) (ho : Own w' 28 lo (some ⟨g', 0, none⟩) (n1 + 1) c' (vs1 ++ [u])) (hg : ((w.alloc o1).alloc o2).grownBy w' (Value.ownBlock (.slice A1 n1 c1))) (hat : Value.ownBlock (.slice A1 n1 c1) = some g' ∨ g' = ((w.alloc o1).alloc o2).heap.size) :
    TwR lo w' (some ⟨g', 0, none⟩) (n1 + 1) c' (vs1 ++ [u]) A2 n2 c2 vs2 xss where
  co := ho
  si := by
    have hs := (h.si.alloc o1).alloc o2
    refine ⟨hs.outer.grown hg fun g hA he => h.apart g (own_block h.co he) hA, hs.len, fun j xs hj => ?_, hs.apart⟩
    obtain ⟨Aj, cj, e1, e2⟩ := hs.row j xs hj
    exact ⟨Aj, cj, e1, Own.otherN ((h.co.alloc o1).alloc o2) e2 (by decide) hg⟩
  apart g hA he := by
    cases hA
    rcases hat with hat | hat
    · exact h.apart _ (own_block h.co hat) he
    · have := (h.si.outer.blk g' (by rw [he]; rfl)).2
      simp at hat
      omega
theorem TwR.growS {o2 : Obj} {g' c' : Nat} (x y : Int) (h : TwR lo w A1 n1 c1 vs1 A2 n2 c2 vs2 xss) (hlo : lo ≤ w.heap.size) (ho : Own w' 28 lo (some ⟨g', 0, none⟩) (n2 + 1) c' (vs2 ++ [.slice (some ⟨w.heap.size, 0, none⟩) 2 2])) (hg : ((w.alloc (.cells #[.int .i64 x, .int .i64 y] 3)).alloc o2).grownBy w' (Value.ownBlock (.slice A2 n2 c2))) (hat : Value.ownBlock (.slice A2 n2 c2) = some g' ∨ g' = ((w.alloc (.cells #[.int .i64 x, .int .i64 y] 3)).alloc o2).heap.size) :
    TwR lo w' A1 n1 c1 vs1 (some ⟨g', 0, none⟩) (n2 + 1) c' (vs2 ++ [.slice (some ⟨w.heap.size, 0, none⟩) 2 2]) (xss ++ [[x, y]]) where
  co := ((h.co.alloc _).alloc o2).grown hg fun g hA he => h.apart g hA (own_block h.si.outer he)
  si := by
    refine O2.push (ys := [x, y]) ((h.si.alloc _).alloc o2) (((Own.lit w 3 #[.int .i64 x, .int .i64 y] 2 rfl (by decide)).mono hlo).alloc o2) ?_ hg ho
    intro g hgg j u hu he
    cases hgg
    have hjl : j < xss.length := by rw [← h.si.len]; exact (List.getElem?_eq_some_iff.1 hu).1
    obtain ⟨Aj, cj, e1, e2⟩ := h.si.row j xss[j] (List.getElem?_eq_getElem hjl)
    rw [hu] at e1
    cases e1
    have := (e2.blk _ he).2
    omega
  apart g hA he := by
    cases he
    rcases hat with hat | hat
    · exact h.apart _ hA (own_block h.si.outer hat)
    · have := (h.co.blk g' (by rw [hA]; rfl)).2
      simp at hat
      omega
end
/-- What a call of triangles hands back. -/
def RTri (lo n1 n2 m : Nat) (yss : List (List Int)) (w : World) (e : Ending) (w' : World) : Prop :=
  ∃ A1 c1 vs1 a2 n2' c2 vs2, e = .returned (.tuple #[.slice A1 (n1 + m) c1, .slice (some ⟨a2, 0, none⟩) n2' c2]) ∧ TwR lo w' A1 (n1 + m) c1 vs1 (some ⟨a2, 0, none⟩) n2' c2 vs2 yss ∧ Below lo w w' ∧ n2' ≤ n2 + 2 * m
theorem sdI_sh (t : Tr) : ∀ l r s, sdI (sh t) l r s = sdI t l r s := by
  induction t with
  | nil => intro l r s; rfl
  | node b o a L R ihL ihR =>
    intro l r s
    have e1 : ∀ x : Tr, lfB (sh x) = lfB x := fun x => by cases x <;> rfl
    show sdI (.node 0 0 () (sh L) (sh R)) l r s = _
    rw [sdI, sdI, nodes_sh, e1, e1, ihL, ihR]
theorem lf_ptr (t : Tr) {p : Option Addr} (h : t.ptr = .pointer p) : (lfB t = true ∧ p = none) ∨ (lfB t = false ∧ ∃ a, p = some a) := by
  cases t with
  | nil => injection h with h; exact Or.inl ⟨rfl, h.symm⟩
  | node b o a L R => injection h with h; exact Or.inr ⟨rfl, _, h.symm⟩

set_option maxRecDepth 20000 in
set_option maxHeartbeats 4000000 in
theorem triangles_any (lo : Nat) (w0 : World) (t : Tr) : ∀ (l r : Nat) (li ri : Int), li = l → ri = r → ∀ (w : World) (A1 : Option Addr) (n1 c1 : Nat) (vs1 : List Value) (a2 n2 c2 : Nat) (vs2 : List Value) (xss : List (List Int)), TwR lo w A1 n1 c1 vs1 (some ⟨a2, 0, none⟩) n2 c2 vs2 xss → n1 + nodes t ≤ 100 ∧ n2 + 2 * nodes t ≤ 200 → l + nodes t ≤ 100 ∧ r ≤ 200 → w0.heap.size ≤ lo → lo ≤ w.heap.size → Below lo w0 w → TIn w0 t → (∀ x ∈ blks t, x < w0.heap.size) →
    Calls Tryz.prog 104 #[t.ptr, .int .i64 li, .int .i64 ri, .slice A1 n1 c1, .slice (some ⟨a2, 0, none⟩) n2 c2] w (RTri lo n1 n2 (nodes t) (sdI t l r xss) w) := by
  induction t with
  | nil =>
    intro l r li ri hli hri w A1 n1 c1 vs1 a2 n2 c2 vs2 xss hT hn hlr hlo hls hb hI hB
    subst hli hri
    unfold RTri
    have T := Lib.hid hT
    clear hT hI hB
    show Calls _ _ #[.pointer none, _, _, _, _] _ _
    go_enter Tryz.func104, Tryz.ntmps104
    go_wp2_with fail
    go_ret2
    exact ⟨A1, c1, vs1, a2, n2, c2, vs2, rfl, T.out, Below.refl _ _, by omega⟩
  | node b o a L R ihL ihR =>
    intro l r li ri hli hri w A1 n1 c1 vs1 a2 n2 c2 vs2 xss hT hn hlr hlo hls hb hI hB
    subst hli hri
    unfold RTri at *
    have hnn : nodes (.node b o a L R) = nodes L + nodes R + 1 := rfl
    rw [hnn] at hn hlr
    have HNN := Lib.hid hnn
    have T := Lib.hid hT
    obtain ⟨h1, h2, hl, hr⟩ := hI
    have HTL := Lib.hid hl
    have HTR := Lib.hid hr
    have HBL := Lib.hid (fun x (hx : x ∈ blks L) => hB x (by rw [blks, List.mem_cons, List.mem_append]; exact Or.inr (Or.inl hx)))
    have HBR := Lib.hid (fun x (hx : x ∈ blks R) => hB x (by rw [blks, List.mem_cons, List.mem_append]; exact Or.inr (Or.inr hx)))
    have hbl : b < lo := Nat.lt_of_lt_of_le (hB b (by rw [blks]; exact List.mem_cons_self)) hlo
    have HIL := Lib.hid ihL
    have HIR := Lib.hid ihR
    obtain ⟨pl, hpl⟩ := ptr_ptr L
    obtain ⟨pr, hpr⟩ := ptr_ptr R
    have HSD := Lib.hid (show sdI (.node b o a L R) l r xss = sdI R (l + nodes L + 1) r (sdI L l (l + nodes L + 1) (xss ++ (if lfB L then [] else [[(l : Int), ((l : Int) + (nodes L : Int) + 1)]]) ++ (if lfB R then [] else [[((l : Int) + (nodes L : Int) + 1), (r : Int)]]))) by
      rw [sdI, show ((l + nodes L + 1 : Nat) : Int) = (l : Int) + (nodes L : Int) + 1 by omega])
    rw [hpl] at h1
    rw [hpr] at h2
    have H1 := Lib.hid h1
    have H2 := Lib.hid h2
    have HN := Lib.hid (fun w (h : TIn w L) => nodes_any L w h (by omega))
    rw [hpl] at HIL HN
    rw [hpr] at HIR
    have hcl := lf_ptr L hpl
    have hcr := lf_ptr R hpr
    have hTLw := Lib.hid (HTL.out.keep (w' := w) hlo fun p hp => hb.cell hp)
    have u1 : IntKind.i64.wrap ((l : Int) + (nodes L : Int)) = (l : Int) + (nodes L : Int) := IntWalk.i64_in _ (by omega)
    have u2 : IntKind.i64.wrap ((l : Int) + (nodes L : Int) + 1) = (l : Int) + (nodes L : Int) + 1 := IntWalk.i64_in _ (by omega)
    clear hT h1 h2 hl hr hB ihL ihR hpl hpr hnn
    have c1w : w.cell? ⟨b, o, none⟩ = some (.pointer pl) := (hb.cell (p := ⟨b, o, none⟩) hbl).trans H1.out
    have c2w : w.cell? ⟨b, o + 1, none⟩ = some (.pointer pr) := (hb.cell (p := ⟨b, o + 1, none⟩) hbl).trans H2.out
    show Calls _ _ #[.pointer (some ⟨b, o, none⟩), _, _, _, _] _ _
    rcases hcl with ⟨hl1, rfl⟩ | ⟨hl1, al, rfl⟩ <;> rcases hcr with ⟨hr1, rfl⟩ | ⟨hr1, ar, rfl⟩
    · have HL1 := Lib.hid hl1
      have HR1 := Lib.hid hr1
      have HSE := Lib.hid (show sdI (.node b o a L R) l r xss = sdI R (l + nodes L + 1) r (sdI L l (l + nodes L + 1) (xss)) by rw [HSD.out, HL1.out, HR1.out]; simp)
      clear hl1 hr1
      go_enter Tryz.func104, Tryz.ntmps104
      go_wp2_with fail
      refine (HN.out _ hTLw.out).mono ?_
      rintro e w1 ⟨rfl, q, hw1⟩
      have T1 := Lib.hid (show TwR lo w1 A1 n1 c1 vs1 (some ⟨a2, 0, none⟩) n2 c2 vs2 xss by rw [hw1]; exact T.out.drewN q)
      have B1 : Below lo w0 w1 := by rw [hw1]; exact below_drewN' hb q
      have S1 : lo ≤ w1.heap.size := by rw [hw1]; exact hls
      have B1w : Below lo w w1 := by rw [hw1]; exact below_drewN' (Below.refl _ _) q
      clear hw1 c1w c2w
      have c1w1 : w1.cell? ⟨b, o, none⟩ = some (.pointer none) := (B1.cell (p := ⟨b, o, none⟩) hbl).trans H1.out
      have c2w1 : w1.cell? ⟨b, o + 1, none⟩ = some (.pointer none) := (B1.cell (p := ⟨b, o + 1, none⟩) hbl).trans H2.out
      go_wp2_with (first | (at_builtin; refine appRowL (o := ⟨some 31, _, _, _, _, _⟩) _ rfl _ _ rfl lo A1 n1 c1 vs1 rfl ((T1.out.co.alloc (.cells #[.int .i64 (l : Int), .int .i64 ((l : Int) + (nodes L : Int) + 1), .int .i64 (r : Int)] 3)).alloc _) (w1.heap.size + 1) (some ⟨w1.heap.size, 0, none⟩) 3 3 rfl (by simp) (by omega) (by omega) ?_; intro g2 k2 w2 hown2 hgr2 hb2 hat2; have S2 : lo ≤ w2.heap.size := (by have := hb2.size; simp at this; omega); have B2 : Below lo w0 w2 := ((B1.alloc (by omega) _).alloc (by simp; omega) _).trans hb2; have c1w2 : w2.cell? ⟨b, o, none⟩ = some (.pointer none) := (B2.cell (p := ⟨b, o, none⟩) hbl).trans H1.out; have c2w2 : w2.cell? ⟨b, o + 1, none⟩ = some (.pointer none) := (B2.cell (p := ⟨b, o + 1, none⟩) hbl).trans H2.out; have T2 := Lib.hid (T1.out.growC hown2 hgr2 hat2); have B2_w : Below lo w w2 := ((B1w.alloc (by omega) _).alloc (by simp; omega) _).trans hb2; clear hown2 hgr2 hat2))
      refine (HIL.out l (l + nodes L + 1) (l : Int) ((l : Int) + (nodes L : Int) + 1) rfl (by omega) w2 (some ⟨g2, 0, none⟩) (n1 + 1) k2 _ a2 n2 c2 vs2 xss T2.out (by omega) (by omega) hlo S2 B2 HTL.out HBL.out).mono ?_
      rintro e w8 ⟨A8, c8, vs8, A9, n9, c9, vs9, rfl, t8, hb8, hn9⟩
      have T8 := Lib.hid t8
      have B8 : Below lo w0 w8 := B2.trans hb8
      have S8 : lo ≤ w8.heap.size := by have := hb8.size; omega
      clear t8 c1w2 c2w2
      have c1w8 : w8.cell? ⟨b, o, none⟩ = some (.pointer none) := (B8.cell (p := ⟨b, o, none⟩) hbl).trans H1.out
      have c2w8 : w8.cell? ⟨b, o + 1, none⟩ = some (.pointer none) := (B8.cell (p := ⟨b, o + 1, none⟩) hbl).trans H2.out
      go_wp2_with fail
      refine (HIR.out (l + nodes L + 1) r ((l : Int) + (nodes L : Int) + 1) (r : Int) (by omega) rfl w8 A8 ((n1 + 1) + nodes L) c8 vs8 A9 n9 c9 vs9 _ T8.out (by omega) (by omega) hlo S8 B8 HTR.out HBR.out).mono ?_
      rintro e w9 ⟨Aa, ca, vsa, Ab, nb, cb, vsb, rfl, ta, hba, hnb⟩
      have TA := Lib.hid ta
      have BA : Below lo w w9 := B2_w.trans (hb8.trans hba)
      clear ta
      go_wp2_with fail
      go_ret2
      rw [HSE.out, HNN.out, show n1 + (nodes L + nodes R + 1) = (n1 + 1) + nodes L + nodes R by omega]
      exact ⟨Aa, ca, vsa, Ab, nb, cb, vsb, rfl, TA.out, BA, by omega⟩
    · have HL1 := Lib.hid hl1
      have HR1 := Lib.hid hr1
      have HSE := Lib.hid (show sdI (.node b o a L R) l r xss = sdI R (l + nodes L + 1) r (sdI L l (l + nodes L + 1) (xss ++ [[((l : Int) + (nodes L : Int) + 1), (r : Int)]])) by rw [HSD.out, HL1.out, HR1.out]; simp)
      clear hl1 hr1
      go_enter Tryz.func104, Tryz.ntmps104
      go_wp2_with fail
      refine (HN.out _ hTLw.out).mono ?_
      rintro e w1 ⟨rfl, q, hw1⟩
      have T1 := Lib.hid (show TwR lo w1 A1 n1 c1 vs1 (some ⟨a2, 0, none⟩) n2 c2 vs2 xss by rw [hw1]; exact T.out.drewN q)
      have B1 : Below lo w0 w1 := by rw [hw1]; exact below_drewN' hb q
      have S1 : lo ≤ w1.heap.size := by rw [hw1]; exact hls
      have B1w : Below lo w w1 := by rw [hw1]; exact below_drewN' (Below.refl _ _) q
      clear hw1 c1w c2w
      have c1w1 : w1.cell? ⟨b, o, none⟩ = some (.pointer none) := (B1.cell (p := ⟨b, o, none⟩) hbl).trans H1.out
      have c2w1 : w1.cell? ⟨b, o + 1, none⟩ = some (.pointer (some ar)) := (B1.cell (p := ⟨b, o + 1, none⟩) hbl).trans H2.out
      go_wp2_with (first | (at_builtin; refine appRowL (o := ⟨some 31, _, _, _, _, _⟩) _ rfl _ _ rfl lo A1 n1 c1 vs1 rfl ((T1.out.co.alloc (.cells #[.int .i64 (l : Int), .int .i64 ((l : Int) + (nodes L : Int) + 1), .int .i64 (r : Int)] 3)).alloc _) (w1.heap.size + 1) (some ⟨w1.heap.size, 0, none⟩) 3 3 rfl (by simp) (by omega) (by omega) ?_; intro g2 k2 w2 hown2 hgr2 hb2 hat2; have S2 : lo ≤ w2.heap.size := (by have := hb2.size; simp at this; omega); have B2 : Below lo w0 w2 := ((B1.alloc (by omega) _).alloc (by simp; omega) _).trans hb2; have c1w2 : w2.cell? ⟨b, o, none⟩ = some (.pointer none) := (B2.cell (p := ⟨b, o, none⟩) hbl).trans H1.out; have c2w2 : w2.cell? ⟨b, o + 1, none⟩ = some (.pointer (some ar)) := (B2.cell (p := ⟨b, o + 1, none⟩) hbl).trans H2.out; have T2 := Lib.hid (T1.out.growC hown2 hgr2 hat2); have B2_w : Below lo w w2 := ((B1w.alloc (by omega) _).alloc (by simp; omega) _).trans hb2; clear hown2 hgr2 hat2) | (at_builtin; refine appRowL (o := ⟨some 53, _, _, _, _, _⟩) _ rfl _ _ rfl lo (some ⟨a2, 0, none⟩) n2 c2 _ rfl ((T2.out.si.outer.alloc (.cells #[.int .i64 ((l : Int) + (nodes L : Int) + 1), .int .i64 (r : Int)] 3)).alloc _) (w2.heap.size + 1) (some ⟨w2.heap.size, 0, none⟩) 2 2 rfl (by simp) (by omega) (by omega) ?_; intro g4 k4 w4 hown4 hgr4 hb4 hat4; have S4 : lo ≤ w4.heap.size := (by have := hb4.size; simp at this; omega); have B4 : Below lo w0 w4 := ((B2.alloc (by omega) _).alloc (by simp; omega) _).trans hb4; have c1w4 : w4.cell? ⟨b, o, none⟩ = some (.pointer none) := (B4.cell (p := ⟨b, o, none⟩) hbl).trans H1.out; have c2w4 : w4.cell? ⟨b, o + 1, none⟩ = some (.pointer (some ar)) := (B4.cell (p := ⟨b, o + 1, none⟩) hbl).trans H2.out; have T4 := Lib.hid (T2.out.growS ((l : Int) + (nodes L : Int) + 1) (r : Int) (by omega) hown4 hgr4 hat4); have B4_w : Below lo w w4 := ((B2_w.alloc (by omega) _).alloc (by simp; omega) _).trans hb4; clear hown4 hgr4 hat4))
      refine (HIL.out l (l + nodes L + 1) (l : Int) ((l : Int) + (nodes L : Int) + 1) rfl (by omega) w4 (some ⟨g2, 0, none⟩) (n1 + 1) k2 _ g4 (n2 + 1) k4 _ _ T4.out (by omega) (by omega) hlo S4 B4 HTL.out HBL.out).mono ?_
      rintro e w8 ⟨A8, c8, vs8, A9, n9, c9, vs9, rfl, t8, hb8, hn9⟩
      have T8 := Lib.hid t8
      have B8 : Below lo w0 w8 := B4.trans hb8
      have S8 : lo ≤ w8.heap.size := by have := hb8.size; omega
      clear t8 c1w4 c2w4
      have c1w8 : w8.cell? ⟨b, o, none⟩ = some (.pointer none) := (B8.cell (p := ⟨b, o, none⟩) hbl).trans H1.out
      have c2w8 : w8.cell? ⟨b, o + 1, none⟩ = some (.pointer (some ar)) := (B8.cell (p := ⟨b, o + 1, none⟩) hbl).trans H2.out
      go_wp2_with fail
      refine (HIR.out (l + nodes L + 1) r ((l : Int) + (nodes L : Int) + 1) (r : Int) (by omega) rfl w8 A8 ((n1 + 1) + nodes L) c8 vs8 A9 n9 c9 vs9 _ T8.out (by omega) (by omega) hlo S8 B8 HTR.out HBR.out).mono ?_
      rintro e w9 ⟨Aa, ca, vsa, Ab, nb, cb, vsb, rfl, ta, hba, hnb⟩
      have TA := Lib.hid ta
      have BA : Below lo w w9 := B4_w.trans (hb8.trans hba)
      clear ta
      go_wp2_with fail
      go_ret2
      rw [HSE.out, HNN.out, show n1 + (nodes L + nodes R + 1) = (n1 + 1) + nodes L + nodes R by omega]
      exact ⟨Aa, ca, vsa, Ab, nb, cb, vsb, rfl, TA.out, BA, by omega⟩
    · have HL1 := Lib.hid hl1
      have HR1 := Lib.hid hr1
      have HSE := Lib.hid (show sdI (.node b o a L R) l r xss = sdI R (l + nodes L + 1) r (sdI L l (l + nodes L + 1) (xss ++ [[(l : Int), ((l : Int) + (nodes L : Int) + 1)]])) by rw [HSD.out, HL1.out, HR1.out]; simp)
      clear hl1 hr1
      go_enter Tryz.func104, Tryz.ntmps104
      go_wp2_with fail
      refine (HN.out _ hTLw.out).mono ?_
      rintro e w1 ⟨rfl, q, hw1⟩
      have T1 := Lib.hid (show TwR lo w1 A1 n1 c1 vs1 (some ⟨a2, 0, none⟩) n2 c2 vs2 xss by rw [hw1]; exact T.out.drewN q)
      have B1 : Below lo w0 w1 := by rw [hw1]; exact below_drewN' hb q
      have S1 : lo ≤ w1.heap.size := by rw [hw1]; exact hls
      have B1w : Below lo w w1 := by rw [hw1]; exact below_drewN' (Below.refl _ _) q
      clear hw1 c1w c2w
      have c1w1 : w1.cell? ⟨b, o, none⟩ = some (.pointer (some al)) := (B1.cell (p := ⟨b, o, none⟩) hbl).trans H1.out
      have c2w1 : w1.cell? ⟨b, o + 1, none⟩ = some (.pointer none) := (B1.cell (p := ⟨b, o + 1, none⟩) hbl).trans H2.out
      go_wp2_with (first | (at_builtin; refine appRowL (o := ⟨some 31, _, _, _, _, _⟩) _ rfl _ _ rfl lo A1 n1 c1 vs1 rfl ((T1.out.co.alloc (.cells #[.int .i64 (l : Int), .int .i64 ((l : Int) + (nodes L : Int) + 1), .int .i64 (r : Int)] 3)).alloc _) (w1.heap.size + 1) (some ⟨w1.heap.size, 0, none⟩) 3 3 rfl (by simp) (by omega) (by omega) ?_; intro g2 k2 w2 hown2 hgr2 hb2 hat2; have S2 : lo ≤ w2.heap.size := (by have := hb2.size; simp at this; omega); have B2 : Below lo w0 w2 := ((B1.alloc (by omega) _).alloc (by simp; omega) _).trans hb2; have c1w2 : w2.cell? ⟨b, o, none⟩ = some (.pointer (some al)) := (B2.cell (p := ⟨b, o, none⟩) hbl).trans H1.out; have c2w2 : w2.cell? ⟨b, o + 1, none⟩ = some (.pointer none) := (B2.cell (p := ⟨b, o + 1, none⟩) hbl).trans H2.out; have T2 := Lib.hid (T1.out.growC hown2 hgr2 hat2); have B2_w : Below lo w w2 := ((B1w.alloc (by omega) _).alloc (by simp; omega) _).trans hb2; clear hown2 hgr2 hat2) | (at_builtin; refine appRowL (o := ⟨some 42, _, _, _, _, _⟩) _ rfl _ _ rfl lo (some ⟨a2, 0, none⟩) n2 c2 _ rfl ((T2.out.si.outer.alloc (.cells #[.int .i64 (l : Int), .int .i64 ((l : Int) + (nodes L : Int) + 1)] 3)).alloc _) (w2.heap.size + 1) (some ⟨w2.heap.size, 0, none⟩) 2 2 rfl (by simp) (by omega) (by omega) ?_; intro g3 k3 w3 hown3 hgr3 hb3 hat3; have S3 : lo ≤ w3.heap.size := (by have := hb3.size; simp at this; omega); have B3 : Below lo w0 w3 := ((B2.alloc (by omega) _).alloc (by simp; omega) _).trans hb3; have c1w3 : w3.cell? ⟨b, o, none⟩ = some (.pointer (some al)) := (B3.cell (p := ⟨b, o, none⟩) hbl).trans H1.out; have c2w3 : w3.cell? ⟨b, o + 1, none⟩ = some (.pointer none) := (B3.cell (p := ⟨b, o + 1, none⟩) hbl).trans H2.out; have T3 := Lib.hid (T2.out.growS (l : Int) ((l : Int) + (nodes L : Int) + 1) (by omega) hown3 hgr3 hat3); have B3_w : Below lo w w3 := ((B2_w.alloc (by omega) _).alloc (by simp; omega) _).trans hb3; clear hown3 hgr3 hat3))
      refine (HIL.out l (l + nodes L + 1) (l : Int) ((l : Int) + (nodes L : Int) + 1) rfl (by omega) w3 (some ⟨g2, 0, none⟩) (n1 + 1) k2 _ g3 (n2 + 1) k3 _ _ T3.out (by omega) (by omega) hlo S3 B3 HTL.out HBL.out).mono ?_
      rintro e w8 ⟨A8, c8, vs8, A9, n9, c9, vs9, rfl, t8, hb8, hn9⟩
      have T8 := Lib.hid t8
      have B8 : Below lo w0 w8 := B3.trans hb8
      have S8 : lo ≤ w8.heap.size := by have := hb8.size; omega
      clear t8 c1w3 c2w3
      have c1w8 : w8.cell? ⟨b, o, none⟩ = some (.pointer (some al)) := (B8.cell (p := ⟨b, o, none⟩) hbl).trans H1.out
      have c2w8 : w8.cell? ⟨b, o + 1, none⟩ = some (.pointer none) := (B8.cell (p := ⟨b, o + 1, none⟩) hbl).trans H2.out
      go_wp2_with fail
      refine (HIR.out (l + nodes L + 1) r ((l : Int) + (nodes L : Int) + 1) (r : Int) (by omega) rfl w8 A8 ((n1 + 1) + nodes L) c8 vs8 A9 n9 c9 vs9 _ T8.out (by omega) (by omega) hlo S8 B8 HTR.out HBR.out).mono ?_
      rintro e w9 ⟨Aa, ca, vsa, Ab, nb, cb, vsb, rfl, ta, hba, hnb⟩
      have TA := Lib.hid ta
      have BA : Below lo w w9 := B3_w.trans (hb8.trans hba)
      clear ta
      go_wp2_with fail
      go_ret2
      rw [HSE.out, HNN.out, show n1 + (nodes L + nodes R + 1) = (n1 + 1) + nodes L + nodes R by omega]
      exact ⟨Aa, ca, vsa, Ab, nb, cb, vsb, rfl, TA.out, BA, by omega⟩
    · have HL1 := Lib.hid hl1
      have HR1 := Lib.hid hr1
      have HSE := Lib.hid (show sdI (.node b o a L R) l r xss = sdI R (l + nodes L + 1) r (sdI L l (l + nodes L + 1) (xss ++ [[(l : Int), ((l : Int) + (nodes L : Int) + 1)]] ++ [[((l : Int) + (nodes L : Int) + 1), (r : Int)]])) by rw [HSD.out, HL1.out, HR1.out]; simp)
      clear hl1 hr1
      go_enter Tryz.func104, Tryz.ntmps104
      go_wp2_with fail
      refine (HN.out _ hTLw.out).mono ?_
      rintro e w1 ⟨rfl, q, hw1⟩
      have T1 := Lib.hid (show TwR lo w1 A1 n1 c1 vs1 (some ⟨a2, 0, none⟩) n2 c2 vs2 xss by rw [hw1]; exact T.out.drewN q)
      have B1 : Below lo w0 w1 := by rw [hw1]; exact below_drewN' hb q
      have S1 : lo ≤ w1.heap.size := by rw [hw1]; exact hls
      have B1w : Below lo w w1 := by rw [hw1]; exact below_drewN' (Below.refl _ _) q
      clear hw1 c1w c2w
      have c1w1 : w1.cell? ⟨b, o, none⟩ = some (.pointer (some al)) := (B1.cell (p := ⟨b, o, none⟩) hbl).trans H1.out
      have c2w1 : w1.cell? ⟨b, o + 1, none⟩ = some (.pointer (some ar)) := (B1.cell (p := ⟨b, o + 1, none⟩) hbl).trans H2.out
      go_wp2_with (first | (at_builtin; refine appRowL (o := ⟨some 31, _, _, _, _, _⟩) _ rfl _ _ rfl lo A1 n1 c1 vs1 rfl ((T1.out.co.alloc (.cells #[.int .i64 (l : Int), .int .i64 ((l : Int) + (nodes L : Int) + 1), .int .i64 (r : Int)] 3)).alloc _) (w1.heap.size + 1) (some ⟨w1.heap.size, 0, none⟩) 3 3 rfl (by simp) (by omega) (by omega) ?_; intro g2 k2 w2 hown2 hgr2 hb2 hat2; have S2 : lo ≤ w2.heap.size := (by have := hb2.size; simp at this; omega); have B2 : Below lo w0 w2 := ((B1.alloc (by omega) _).alloc (by simp; omega) _).trans hb2; have c1w2 : w2.cell? ⟨b, o, none⟩ = some (.pointer (some al)) := (B2.cell (p := ⟨b, o, none⟩) hbl).trans H1.out; have c2w2 : w2.cell? ⟨b, o + 1, none⟩ = some (.pointer (some ar)) := (B2.cell (p := ⟨b, o + 1, none⟩) hbl).trans H2.out; have T2 := Lib.hid (T1.out.growC hown2 hgr2 hat2); have B2_w : Below lo w w2 := ((B1w.alloc (by omega) _).alloc (by simp; omega) _).trans hb2; clear hown2 hgr2 hat2) | (at_builtin; refine appRowL (o := ⟨some 42, _, _, _, _, _⟩) _ rfl _ _ rfl lo (some ⟨a2, 0, none⟩) n2 c2 _ rfl ((T2.out.si.outer.alloc (.cells #[.int .i64 (l : Int), .int .i64 ((l : Int) + (nodes L : Int) + 1)] 3)).alloc _) (w2.heap.size + 1) (some ⟨w2.heap.size, 0, none⟩) 2 2 rfl (by simp) (by omega) (by omega) ?_; intro g3 k3 w3 hown3 hgr3 hb3 hat3; have S3 : lo ≤ w3.heap.size := (by have := hb3.size; simp at this; omega); have B3 : Below lo w0 w3 := ((B2.alloc (by omega) _).alloc (by simp; omega) _).trans hb3; have c1w3 : w3.cell? ⟨b, o, none⟩ = some (.pointer (some al)) := (B3.cell (p := ⟨b, o, none⟩) hbl).trans H1.out; have c2w3 : w3.cell? ⟨b, o + 1, none⟩ = some (.pointer (some ar)) := (B3.cell (p := ⟨b, o + 1, none⟩) hbl).trans H2.out; have T3 := Lib.hid (T2.out.growS (l : Int) ((l : Int) + (nodes L : Int) + 1) (by omega) hown3 hgr3 hat3); have B3_w : Below lo w w3 := ((B2_w.alloc (by omega) _).alloc (by simp; omega) _).trans hb3; clear hown3 hgr3 hat3) | (at_builtin; refine appRowL (o := ⟨some 53, _, _, _, _, _⟩) _ rfl _ _ rfl lo (some ⟨g3, 0, none⟩) (n2 + 1) k3 _ rfl ((T3.out.si.outer.alloc (.cells #[.int .i64 ((l : Int) + (nodes L : Int) + 1), .int .i64 (r : Int)] 3)).alloc _) (w3.heap.size + 1) (some ⟨w3.heap.size, 0, none⟩) 2 2 rfl (by simp) (by omega) (by omega) ?_; intro g4 k4 w4 hown4 hgr4 hb4 hat4; have S4 : lo ≤ w4.heap.size := (by have := hb4.size; simp at this; omega); have B4 : Below lo w0 w4 := ((B3.alloc (by omega) _).alloc (by simp; omega) _).trans hb4; have c1w4 : w4.cell? ⟨b, o, none⟩ = some (.pointer (some al)) := (B4.cell (p := ⟨b, o, none⟩) hbl).trans H1.out; have c2w4 : w4.cell? ⟨b, o + 1, none⟩ = some (.pointer (some ar)) := (B4.cell (p := ⟨b, o + 1, none⟩) hbl).trans H2.out; have T4 := Lib.hid (T3.out.growS ((l : Int) + (nodes L : Int) + 1) (r : Int) (by omega) hown4 hgr4 hat4); have B4_w : Below lo w w4 := ((B3_w.alloc (by omega) _).alloc (by simp; omega) _).trans hb4; clear hown4 hgr4 hat4))
      refine (HIL.out l (l + nodes L + 1) (l : Int) ((l : Int) + (nodes L : Int) + 1) rfl (by omega) w4 (some ⟨g2, 0, none⟩) (n1 + 1) k2 _ g4 (n2 + 1 + 1) k4 _ _ T4.out (by omega) (by omega) hlo S4 B4 HTL.out HBL.out).mono ?_
      rintro e w8 ⟨A8, c8, vs8, A9, n9, c9, vs9, rfl, t8, hb8, hn9⟩
      have T8 := Lib.hid t8
      have B8 : Below lo w0 w8 := B4.trans hb8
      have S8 : lo ≤ w8.heap.size := by have := hb8.size; omega
      clear t8 c1w4 c2w4
      have c1w8 : w8.cell? ⟨b, o, none⟩ = some (.pointer (some al)) := (B8.cell (p := ⟨b, o, none⟩) hbl).trans H1.out
      have c2w8 : w8.cell? ⟨b, o + 1, none⟩ = some (.pointer (some ar)) := (B8.cell (p := ⟨b, o + 1, none⟩) hbl).trans H2.out
      go_wp2_with fail
      refine (HIR.out (l + nodes L + 1) r ((l : Int) + (nodes L : Int) + 1) (r : Int) (by omega) rfl w8 A8 ((n1 + 1) + nodes L) c8 vs8 A9 n9 c9 vs9 _ T8.out (by omega) (by omega) hlo S8 B8 HTR.out HBR.out).mono ?_
      rintro e w9 ⟨Aa, ca, vsa, Ab, nb, cb, vsb, rfl, ta, hba, hnb⟩
      have TA := Lib.hid ta
      have BA : Below lo w w9 := B4_w.trans (hb8.trans hba)
      clear ta
      go_wp2_with fail
      go_ret2
      rw [HSE.out, HNN.out, show n1 + (nodes L + nodes R + 1) = (n1 + 1) + nodes L + nodes R by omega]
      exact ⟨Aa, ca, vsa, Ab, nb, cb, vsb, rfl, TA.out, BA, by omega⟩

end Go.Proofs.YtghfhkbncjgaeaaGreat
