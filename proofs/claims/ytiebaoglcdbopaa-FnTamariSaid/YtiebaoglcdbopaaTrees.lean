/- The trees of all paths of a size; l17Trees and treesOf. -/
import Derived.Test.YtiebaoglcdbopaaWdS
import Derived.Test.YtiebaoglcdbopaaWdI
import Derived.Test.YtiebaoglcdbopaaPathsS
import Derived.Test.YtiebaoglcdbopaaPathsI
namespace Go.Proofs.Ytiebaoglcdbopaa
set_option linter.unusedVariables false
open Go.RowKit Go.Deep

/-- Each path of a size is that of its tree. -/
def pathsOk (n : Nat) : Bool := (paths n).all fun x => decide (wd (tw x) = x) && decide (nodes (tw x) = n)
theorem pathsOk_5 : ∀ n, n ≤ 5 → pathsOk n = true := by
  have h : (List.range 6).all pathsOk = true := by decide +kernel
  intro n hn
  exact List.all_eq_true.1 h n (List.mem_range.2 (by omega))
theorem paths_tw {n : Nat} (hn : n ≤ 5) {x : List UInt8} (hx : x ∈ paths n) : wd (tw x) = x ∧ nodes (tw x) = n := by
  have := List.all_eq_true.1 (pathsOk_5 n hn) x hx
  simpa using this
def treesB (n : Nat) : List (List UInt8) := (paths n).map fun x => tx (tw x)
theorem treesB_len {n : Nat} (h : n ≤ 8) : (treesB n).length ≤ 65536 := by unfold treesB; rw [List.length_map]; exact paths_len h
theorem treesB_mem {n : Nat} (hn : n ≤ 5) {x : List UInt8} (hx : x ∈ treesB n) : ∃ t, x = tx t ∧ nodes t = n ∧ sh t = t := by
  unfold treesB at hx
  obtain ⟨y, hy, rfl⟩ := List.mem_map.1 hx
  exact ⟨tw y, rfl, (paths_tw hn hy).2, tw_sh _ _⟩
theorem treesB_mlen {n : Nat} (hn : n ≤ 5) {x : List UInt8} (hx : x ∈ treesB n) : x.length ≤ 1000 := by
  obtain ⟨t, rfl, h, _⟩ := treesB_mem hn hx
  rw [tx_len]; omega
theorem treesB_snoc {n k : Nat} {x : List UInt8} (hx : (paths n)[k]? = some x) : (treesB n).take (k + 1) = (treesB n).take k ++ [tx (tw x)] := by
  have h1 : (treesB n)[k]? = some (tx (tw x)) := by unfold treesB; rw [List.getElem?_map, hx]; rfl
  obtain ⟨h2, h3⟩ := List.getElem?_eq_some_iff.1 h1
  rw [List.take_succ_eq_append_getElem h2, h3]

theorem grewT {w : World} {A1 A2 : Option Addr} {n1 c1 g' : Nat} (hd : ∀ g : Nat, A2 = some ⟨g, 0, none⟩ → Value.ownBlock (.slice A1 n1 c1) ≠ some g) (hlt : ∀ g : Nat, A2 = some ⟨g, 0, none⟩ → g < w.heap.size) (hat : Value.ownBlock (.slice A1 n1 c1) = some g' ∨ g' = w.heap.size) (n c : Nat) :
    ∀ g : Nat, A2 = some ⟨g, 0, none⟩ → Value.ownBlock (.slice (some ⟨g', 0, none⟩) n c) ≠ some g := by
  intro g hg he
  have e : g' = g := by simpa [Value.ownBlock] using he
  subst e
  rcases hat with h | h
  · exact hd g' hg h
  · have := hlt g' hg; omega
theorem Own.ltb {w : World} {e : TypeId} {B : Nat} {A : Option Addr} {n c : Nat} {vs : List Value} (h : Own w e B A n c vs) : ∀ g : Nat, A = some ⟨g, 0, none⟩ → g < w.heap.size := fun g hg => (h.blk g (by rw [hg]; rfl)).2
/-- Two lists of texts of the call's own, in two blocks: the one is read, the other grows. -/
structure TwoS (w0 wr : World) (A : Option Addr) (m c : Nat) (xs : List (List UInt8)) (A1 : Option Addr) (k c1 : Nat) (ys : List (List UInt8)) : Prop where
  out : Own wr 9 w0.heap.size A1 k c1 (sv ys)
  inp : Own wr 9 w0.heap.size A m c (sv xs)
  apart : ∀ g : Nat, A = some ⟨g, 0, none⟩ → Value.ownBlock (.slice A1 k c1) ≠ some g
  below : Below w0.heap.size w0 wr
theorem TwoS.start {w w1 : World} {A : Option Addr} {m c : Nat} {xs : List (List UInt8)} (ho : OSeg w1 9 (w.alloc (.cells #[] 9)).heap.size w1.heap.size A m c (sv xs)) (hb : Below (w.alloc (.cells #[] 9)).heap.size (w.alloc (.cells #[] 9)) w1) :
    TwoS w w1 A m c xs (some ⟨w.heap.size, 0, none⟩) 0 0 [] where
  out := (own_emptyS w).below hb
  inp := ho.1.mono (by simp)
  apart := by
    intro g hg he
    have h1 := (ho.1.blk g (by rw [hg]; rfl)).1
    simp [Value.ownBlock] at h1 he
    omega
  below := ((Below.refl _ _).alloc (Nat.le_refl _) _).trans (hb.mono (by simp))
theorem TwoS.drewN {w0 wr : World} {A : Option Addr} {m c : Nat} {xs : List (List UInt8)} {A1 : Option Addr} {k c1 : Nat} {ys : List (List UInt8)} (h : TwoS w0 wr A m c xs A1 k c1 ys) (n : Nat) : TwoS w0 (wr.drewN n) A m c xs A1 k c1 ys :=
  ⟨h.out.drewN n, h.inp.drewN n, h.apart, below_drewN' h.below n⟩
theorem TwoS.by_ {w0 wr w' : World} {A : Option Addr} {m c : Nat} {xs : List (List UInt8)} {A1 : Option Addr} {k c1 : Nat} {ys : List (List UInt8)} (h : TwoS w0 wr A m c xs A1 k c1 ys) (hb : Below wr.heap.size wr w') : TwoS w0 w' A m c xs A1 k c1 ys :=
  ⟨h.out.below hb, h.inp.below hb, h.apart, h.below.trans (hb.mono h.below.size)⟩
theorem TwoS.grow {w0 wr w' : World} {A : Option Addr} {m c : Nat} {xs : List (List UInt8)} {A1 : Option Addr} {k c1 : Nat} {ys : List (List UInt8)} {x : List UInt8} {g' c' : Nat} (h : TwoS w0 wr A m c xs A1 k c1 ys)
    (ho : Own w' 9 w0.heap.size (some ⟨g', 0, none⟩) (k + 1) c' (sv ys ++ [.string (bs x)])) (hg : (wr.alloc (.cells #[.string (bs x)] 9)).grownBy w' (Value.ownBlock (.slice A1 k c1))) (hb : Below w0.heap.size (wr.alloc (.cells #[.string (bs x)] 9)) w')
    (hat : Value.ownBlock (.slice A1 k c1) = some g' ∨ g' = (wr.alloc (.cells #[.string (bs x)] 9)).heap.size) : TwoS w0 w' A m c xs (some ⟨g', 0, none⟩) (k + 1) c' (ys ++ [x]) :=
  ⟨by rw [sv_snoc]; exact ho, (h.inp.alloc _).grown hg (fun g hA => h.apart g hA), grewT h.apart ((h.inp.alloc (.cells #[.string (bs x)] 9)).ltb) hat _ _, (h.below.alloc h.below.size _).trans hb⟩

set_option maxHeartbeats 1000000 in
theorem l17Trees_any (n : Nat) (w : World) (hn : n ≤ 5) : Calls Try.prog 74 #[.int .i64 n] w (RetS w (treesB n)) := by
  have HT := Lib.hid (fun (x : List UInt8) (hx : x ∈ paths n) => paths_tw hn hx)
  have h6 := paths_len (n := n) (by omega)
  have HTL := Lib.hid (show (treesB n).length = (paths n).length by unfold treesB; rw [List.length_map])
  go_enter Try.func74, Try.ntmps74
  go_wp2_with fail
  refine (specPathsOf_any n _ (by omega)).mono ?_
  rintro e w1 ⟨A, m, c, hm, rfl, ho, hb⟩
  have HS := Lib.hid (TwoS.start ho hb)
  have HM := Lib.hid hm
  have hm6 : m ≤ 65536 := by rw [hm]; exact h6
  clear ho hm h6 hb
  go_wp2_with fail
  go_loopw [3, 5] (fun s i wr => ∃ (k : Nat) (A1 : Option Addr) (c1 : Nat), k ≤ m ∧ i = .int .i64 k ∧ s = .slice A1 k c1 ∧ TwoS w wr A m c (paths n) A1 k c1 ((treesB n).take k)) (fun _ i _ => m - (intOf i).toNat)
  case atStart => exact ⟨0, _, _, Nat.zero_le _, rfl, rfl, HS.out⟩
  case round =>
    obtain ⟨k, A1, c1, hk, rfl, rfl, ht⟩ := hrel
    have HT2 := Lib.hid ht
    have hbs := ht.below.size
    by_cases hlt : k < m
    · obtain ⟨bl, off, x, rfl, hx, hc⟩ := ht.inp.rd.ats hlt
      have hxm := List.mem_of_getElem? hx
      have HC := Lib.hid (show ∀ w, Calls Try.prog 67 #[.string (bs x)] w fun e w' => e = .returned (.string (bs (tx (tw x)))) ∧ ∃ n, w' = w.drewN n by
        intro w
        have := l6Binary_any (tw x) w (by have := (HT.out x hxm).2; omega)
        rw [(HT.out x hxm).1] at this
        exact this)
      have HN := Lib.hid (treesB_snoc hx)
      have k0 : (0 : Int) ≤ (k : Int) := by omega
      have k1 : (k : Int) < (m : Int) := by omega
      clear hx hxm ht
      go_wp2_with fail
      refine (HC.out _).mono ?_
      rintro e w2 ⟨rfl, q, hw2⟩
      have HT3 := Lib.hid (show TwoS w w2 (some ⟨bl, off, none⟩) m c (paths n) A1 k c1 ((treesB n).take k) by rw [hw2]; exact HT2.out.drewN q)
      have hbs2 := HT3.out.below.size
      clear hw2 hc
      go_wp2_with (at_builtin; refine appSL _ rfl _ _ rfl w.heap.size A1 k c1 _ rfl (HT3.out.out.alloc _) w2.heap.size (bs (tx (tw x))) rfl (by simp) (by omega) hbs2 ?_; intro g' c' w' hown' hg' hb' hat')
      have HT4 := Lib.hid (HT3.out.grow hown' hg' hb' hat')
      rw [← HN.out] at HT4
      clear hown' hg' hb' hat'
      go_wp2_with fail
      go_roundw
      case rel => exact ⟨k + 1, _, c', by omega, by go_num, rfl, HT4.out⟩
      case measure => simp [intOf]; omega
    · have hkm : k = m := by omega
      have HF := Lib.hid (show (treesB n).take m = treesB n by rw [List.take_of_length_le]; rw [HTL.out, HM.out]; exact Nat.le_refl _)
      have HF2 := Lib.hid (show m = (treesB n).length by rw [HTL.out]; exact HM.out)
      subst hkm
      clear ht
      go_wp2_with fail
      go_ret
      have h := HT2.out
      rw [HF.out] at h
      exact RetS.mk HF2.out rfl h.out h.below

set_option maxHeartbeats 1000000 in
theorem treesOf_any (n : Nat) (w : World) (hn : n ≤ 5) : Calls Try.prog 73 #[.int .i64 n] w (RetS w (treesB n)) := by
  have HT := Lib.hid (fun (x : List UInt8) (hx : x ∈ paths n) => paths_tw hn hx)
  have h6 := paths_len (n := n) (by omega)
  have HTL := Lib.hid (show (treesB n).length = (paths n).length by unfold treesB; rw [List.length_map])
  go_enter Try.func73, Try.ntmps73
  go_wp2_with fail
  refine (allPaths_any n _ (by omega)).mono ?_
  rintro e w1 ⟨A, m, c, hm, rfl, ho, hb⟩
  have HS := Lib.hid (TwoS.start ho hb)
  have HM := Lib.hid hm
  have hm6 : m ≤ 65536 := by rw [hm]; exact h6
  clear ho hm h6 hb
  go_wp2_with fail
  go_loopw [3, 5, 10] (fun s _ i wr => ∃ (k : Nat) (A1 : Option Addr) (c1 : Nat), k ≤ m ∧ i = .int .i64 k ∧ s = .slice A1 k c1 ∧ TwoS w wr A m c (paths n) A1 k c1 ((treesB n).take k)) (fun _ _ i _ => m - (intOf i).toNat)
  case atStart => exact ⟨0, _, _, Nat.zero_le _, rfl, rfl, HS.out⟩
  case round =>
    obtain ⟨k, A1, c1, hk, rfl, rfl, ht⟩ := hrel
    have HT2 := Lib.hid ht
    have hbs := ht.below.size
    by_cases hlt : k < m
    · obtain ⟨bl, off, x, rfl, hx, hc⟩ := ht.inp.rd.ats hlt
      have hxm := List.mem_of_getElem? hx
      have hx5 : nodes (tw x) ≤ 5 := by rw [(HT.out x hxm).2]; exact hn
      have HC := Lib.hid (show ∀ w, Calls Try.prog 99 #[.string (bs x)] w fun e w' => ∃ M p, sh M = sh (tw x) ∧ M.ptr = .pointer p ∧ e = .returned (.pointer p) ∧ TIn w' M ∧ Below w.heap.size w w' by
        intro w
        have := treeOfPath_any (tw x) w (by omega)
        rw [(HT.out x hxm).1] at this
        exact this)
      have HN := Lib.hid (treesB_snoc hx)
      have k0 : (0 : Int) ≤ (k : Int) := by omega
      have k1 : (k : Int) < (m : Int) := by omega
      clear hx hxm ht
      go_wp2_with fail
      refine (HC.out _).mono ?_
      rintro e w2 ⟨M, p, hs, hq, rfl, ht2, hb2⟩
      have HT3 := Lib.hid (HT2.out.by_ hb2)
      have HTI := Lib.hid ht2
      have HX := Lib.hid (tx_of_sh hs)
      have HQ := Lib.hid hq
      have hn6 : nodes M ≤ 1000000 := by rw [nodes_of_sh hs]; omega
      clear hs hq ht2 hb2 hc
      go_wp2_with fail
      rw [← HQ.out]
      refine (text_any M _ HTI.out hn6).mono ?_
      rintro e w3 ⟨rfl, q, hw3⟩
      rw [HX.out]
      have HT5 := Lib.hid (show TwoS w w3 (some ⟨bl, off, none⟩) m c (paths n) A1 k c1 ((treesB n).take k) by rw [hw3]; exact HT3.out.drewN q)
      have hbs2 := HT5.out.below.size
      clear hw3
      go_wp2_with (at_builtin; refine appSL _ rfl _ _ rfl w.heap.size A1 k c1 _ rfl (HT5.out.out.alloc _) w3.heap.size (bs (tx (tw x))) rfl (by simp) (by omega) hbs2 ?_; intro g' c' w' hown' hg' hb' hat')
      have HT4 := Lib.hid (HT5.out.grow hown' hg' hb' hat')
      rw [← HN.out] at HT4
      clear hown' hg' hb' hat'
      go_wp2_with fail
      go_roundw
      case rel => exact ⟨k + 1, _, c', by omega, by go_num, rfl, HT4.out⟩
      case measure => simp [intOf]; omega
    · have hkm : k = m := by omega
      have HF := Lib.hid (show (treesB n).take m = treesB n by rw [List.take_of_length_le]; rw [HTL.out, HM.out]; exact Nat.le_refl _)
      have HF2 := Lib.hid (show m = (treesB n).length by rw [HTL.out]; exact HM.out)
      subst hkm
      clear ht
      go_wp2_with fail
      go_ret
      have h := HT2.out
      rw [HF.out] at h
      exact RetS.mk HF2.out rfl h.out h.below

end Go.Proofs.Ytiebaoglcdbopaa
