/- All noncrossing partitions of n elements, in the order of their paths (the program's list). -/
import Derived.Test.YtghfhkbncjgaeaaPartI
import Derived.Test.YtghfhkbncjgaeaaPathsI
namespace Go.Proofs.Ytghfhkbncjgaeaa
set_option linter.unusedVariables false
open Go.RowKit

def rowN (n : Nat) : List (List Int) := (paths n).map fun x => (parI x).1
/-- The call hands back new rows. -/
def RetR (w : World) (xss : List (List Int)) (e : Ending) (w' : World) : Prop :=
  ∃ A n c vs, n = xss.length ∧ e = .returned (.slice A n c) ∧ O2 w' w.heap.size A n c vs xss ∧ Below w.heap.size w w'
theorem Own.otherN {w w' : World} {e e' : TypeId} {B B' : Nat} {A A' : Option Addr} {n c n' c' : Nat} {vs vs' : List Value} (h : Own w e B A n c vs) (h' : Own w e' B' A' n' c' vs') (hne : e ≠ e') (hg : w.grownBy w' (Value.ownBlock (.slice A n c))) : Own w' e' B' A' n' c' vs' :=
  h'.grown hg (fun g hA he => by
    have h1 : A = some ⟨g, 0, none⟩ := by
      rcases h.form with ⟨rfl, _⟩ | ⟨g0, rfl, _⟩
      · cases he
      · have : g0 = g := by simpa [Value.ownBlock] using he
        rw [this]
    subst h1
    subst hA
    exact own_ne h h' hne rfl)
theorem appRowN (w : World) {ops : Array Oper} {rest : List Oper} {o : Oper} {a : Act} {Q : Exit → Act → World → Prop} (hgd : o.guard = none) (s x : Operand)
    (ho : o.op = .call { callee := .builtin .append, args := #[s, x], argTypes := #[39, 39] })
    (B : Nat) (A : Option Addr) (n c : Nat) (vs : List Value) (hs : a.eval s = .slice A n c) (hown : Own w 22 B A n c vs)
    (g : Nat) (y : Option Addr) (m d : Nat) (hx : a.eval x = .slice (some ⟨g, 0, none⟩) 1 1) (hy : w.cell? ⟨g, 0, none⟩ = some (.slice y m d)) (hn : n ≤ 1000000000) (hbase' : B ≤ g)
    (h : ∀ A' c' w', Own w' 22 B A' (n + 1) c' (vs ++ [.slice y m d]) → w.grownBy w' (Value.ownBlock (.slice A n c)) → Below B w w' → wpList Try.prog ops Q rest (a.put o.dst (.slice A' (n + 1) c')) w') : wpList Try.prog ops Q (o :: rest) a w :=
  app1 w hgd s x 39 ho 22 (.slice none 0 0) 24 Try.underlying39 info_ints rfl (by decide) B A n c vs hs hown g _ hx hy rfl hn hbase' h
theorem O2.pushR {w1 w2 w' : World} {lo : Nat} {A A' A1 : Option Addr} {n c c' q c1 : Nat} {vs : List Value} {xss : List (List Int)} {ys : List Int} (h : O2 w1 lo A n c vs xss) (hb : Below w1.heap.size w1 w2) (hr : Own w2 3 w1.heap.size A1 q c1 (iv ys)) (hlo : lo ≤ w1.heap.size) (hq : q = ys.length)
    (ow : Obj) (hgr : (w2.alloc ow).grownBy w' (Value.ownBlock (.slice A n c))) (ho : Own w' 22 lo A' (n + 1) c' (vs ++ [.slice A1 q c1])) : O2 w' lo A' (n + 1) c' (vs ++ [.slice A1 q c1]) (xss ++ [ys]) := by
  subst hq
  refine ((h.below hb).alloc ow).push ((hr.mono hlo).alloc ow) ?_ hgr ho
  intro g' hg' j u hu he
  subst hg'
  have h2 := (hr.blk g' rfl).1
  have hj : j < xss.length := by have := (List.getElem?_eq_some_iff.1 hu).1; rw [h.len] at this; exact this
  obtain ⟨Aj, cj, hv, hoj⟩ := h.row j _ (List.getElem?_eq_getElem hj)
  rw [hu] at hv
  cases hv
  have := (hoj.blk _ he).2
  omega
theorem take_map {f : List UInt8 → List Int} {l : List (List UInt8)} {j : Nat} {x : List UInt8} (h : l[j]? = some x) : (l.take (j + 1)).map f = (l.take j).map f ++ [f x] := by
  obtain ⟨h1, h2⟩ := List.getElem?_eq_some_iff.1 h
  rw [List.take_succ_eq_append_getElem h1, h2, List.map_append]; rfl

set_option maxRecDepth 20000 in
set_option maxHeartbeats 2000000 in
theorem noncrossing_any (n : Nat) (w : World) (hn : n ≤ 8) : Calls Try.prog 30 #[.int .i64 n] w (RetR w (rowN n)) := by
  unfold RetR
  have h6 := paths_len (n := n) hn
  have HX9 := Lib.hid (fun x (hx : x ∈ paths n) => (show x.length ≤ 1000000000 by have := paths_mem hx; omega))
  have HR := Lib.hid (show rowN n = (paths n).map (fun x => (parI x).1) from rfl)
  obtain ⟨WS, hWS⟩ : ∃ WS, WS = paths n := ⟨_, rfl⟩
  have HP := Lib.hid (show ∀ w, Calls Try.prog 49 #[.int .i64 (n : Int)] w (RetS w WS) from fun w => by rw [hWS]; exact allPaths_any n w hn)
  rw [← hWS] at HX9 HR h6
  clear hWS
  go_enter Try.func30, Try.ntmps30
  go_wp2_with fail
  refine (HP.out _).mono ?_
  rintro e w1 ⟨A, m, c, hm, rfl, ho, hb⟩
  have HS := Lib.hid ho.1
  have HM := Lib.hid hm
  have hm6 : m ≤ 65536 := by rw [hm]; exact h6
  have hbw : Below w.heap.size w w1 := ((Below.refl _ _).alloc (Nat.le_refl _) (.cells #[] 22)).trans (hb.mono (by simp))
  have HO0 := Lib.hid ((O2.empty w).below hb)
  have HS0 := Lib.hid (HS.out.mono (B' := w.heap.size) (by simp))
  clear ho hm hb HS
  go_wp2_with fail
  go_loopw [3, 5, 6, 7, 12] (fun s _ _ _ i wr => ∃ (j : Nat) (A1 : Option Addr) (c1 : Nat) (vs : List Value), j ≤ m ∧ i = .int .i64 j ∧ s = .slice A1 j c1 ∧ O2 wr w.heap.size A1 j c1 vs ((WS.take j).map (fun x => (parI x).1)) ∧ Own wr 9 w.heap.size A m c (sv WS) ∧ Below w.heap.size w wr) (fun _ _ _ _ i _ => m - (intOf i).toNat)
  case atStart => exact ⟨0, _, _, _, Nat.zero_le _, rfl, rfl, HO0.out, HS0.out, hbw⟩
  case round =>
    obtain ⟨j, A1, c1, vs, hj, rfl, rfl, ho, hso, hbl⟩ := hrel
    obtain ⟨w2, rfl⟩ : ∃ W, W = wr := ⟨wr, rfl⟩
    have O := Lib.hid ho
    have S := Lib.hid hso
    have hbs := hbl.size
    by_cases hlt : j < m
    · obtain ⟨bl, off, x, rfl, hx, hc⟩ := hso.rd.ats hlt
      have hxm := List.mem_of_getElem? hx
      have HX := Lib.hid (take_map (f := fun x => (parI x).1) hx)
      have HC := Lib.hid (fun w => implPartitionOf_any x w (HX9.out x hxm))
      clear hx hxm ho hso
      go_wp2_with fail
      refine (HC.out _).mono ?_
      rintro e w3 ⟨Ap, q, cp, hq, rfl, hop, hb3⟩
      have HOp := Lib.hid hop
      have HQ := Lib.hid hq
      have hs3 := hb3.size
      clear hop hq
      have S3 := Lib.hid (S.out.below hb3)
      go_wp2_with (at_builtin; refine appRowN _ rfl _ _ rfl w.heap.size A1 j c1 vs rfl ((O.out.below hb3).outer.alloc _) w3.heap.size Ap q cp rfl (by simp) (by omega) (by omega) ?_; intro A4 c4 w4 hown4 hgr4 hb4)
      have O4 := Lib.hid (O.out.pushR hb3 HOp.out hbs HQ.out _ hgr4 hown4)
      have S4 := Lib.hid (Own.otherN ((O.out.below hb3).outer.alloc _) (S3.out.alloc _) (by decide) hgr4)
      have hbf := ((hbl.trans (hb3.mono hbs)).alloc (by omega) _).trans hb4
      clear hown4 hgr4 hb4
      go_wp2_with fail
      go_roundw
      case rel => exact ⟨j + 1, A4, c4, _, by omega, by go_num, rfl, by rw [HX.out]; exact O4.out, S4.out, hbf⟩
      case measure => simp [intOf]; omega
    · have HE := Lib.hid (show WS.take j = WS by rw [List.take_of_length_le]; have := HM.out; omega)
      have HJ := Lib.hid (show j = ((WS.take j).map (fun x => (parI x).1)).length by have := O.out.n_eq; exact this)
      clear ho hso
      go_wp2_with fail
      go_ret
      rw [HR.out, ← HE.out]
      exact ⟨A1, j, c1, vs, HJ.out, rfl, O.out, hbl⟩

end Go.Proofs.Ytghfhkbncjgaeaa
