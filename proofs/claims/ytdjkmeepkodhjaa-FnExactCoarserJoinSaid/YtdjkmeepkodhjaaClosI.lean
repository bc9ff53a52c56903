/- merged and closure of the program. -/
import Derived.Test.YtdjkmeepkodhjaaClosL
import Derived.Test.YtdjkmeepkodhjaaPut
namespace Go.Proofs.Ytdjkmeepkodhjaa
open Go.RowKit

/-- The first k are put together. -/
def mrgTo (l : List Int) (x y : Int) (k : Nat) : List Int := mrg (l.take k) x y ++ l.drop k
theorem mrgTo_0 (l : List Int) (x y : Int) : mrgTo l x y 0 = l := rfl
theorem mrgTo_all {l : List Int} {x y : Int} {n : Nat} (h : l.length ≤ n) : mrgTo l x y n = mrg l x y := by
  unfold mrgTo
  rw [List.take_of_length_le h, List.drop_eq_nil_of_le h, List.append_nil]
theorem mrgTo_at {l : List Int} {x y : Int} {k : Nat} : (mrgTo l x y k)[k]? = l[k]? := by
  unfold mrgTo
  rcases Nat.lt_or_ge k l.length with h | h
  · have e : (mrg (l.take k) x y).length = k := by rw [mrg_len, List.length_take]; omega
    rw [List.getElem?_append_right (by omega), e, Nat.sub_self, List.getElem?_drop, Nat.add_zero]
  · rw [List.getElem?_eq_none h, List.getElem?_eq_none (by rw [List.length_append, mrg_len, List.length_take, List.length_drop]; omega)]
theorem mrgTo_set {l : List Int} {x y z : Int} {k : Nat} (h : l[k]? = some z) : (mrgTo l x y k).set k (if z = y then x else z) = mrgTo l x y (k + 1) := by
  obtain ⟨h1, h2⟩ := List.getElem?_eq_some_iff.1 h
  have e : (mrg (l.take k) x y).length = k := by rw [mrg_len, List.length_take]; omega
  unfold mrgTo
  rw [List.set_append_right _ _ (by omega), e, Nat.sub_self, List.drop_eq_getElem_cons h1, List.set_cons_zero, List.take_succ_eq_append_getElem h1]
  unfold mrg
  rw [List.map_append, List.append_assoc, h2]
  rfl
theorem mrgTo_step {l : List Int} {x y z : Int} {k : Nat} (h : l[k]? = some z) (hz : z ≠ y) : mrgTo l x y (k + 1) = mrgTo l x y k := by
  rw [← mrgTo_set h, if_neg hz]
  apply List.ext_getElem?
  intro i
  rw [List.getElem?_set]
  split
  · rename_i hi
    subst hi
    have := mrgTo_at (l := l) (x := x) (y := y) (k := k)
    rw [this, h]
    rw [h] at this
    rw [if_pos (List.getElem?_eq_some_iff.1 this).1]
  · rfl

set_option maxHeartbeats 1000000 in
theorem merged_any (g n c a b B H : Nat) (l : List Int) (x y : Int) (w : World) (h : Own w 3 B (some ⟨g, 0, none⟩) n c (iv l)) (hn : n ≤ 1000000) (hB : H ≤ B) (hx : l[a]? = some x) (hy : l[b]? = some y) :
    Calls Try.prog 72 #[.slice (some ⟨g, 0, none⟩) n c, .int .i64 a, .int .i64 b] w fun e w' => e = .returned (.tuple #[]) ∧ Own w' 3 B (some ⟨g, 0, none⟩) n c (iv (mrg l x y)) ∧ Below H w w' := by
  have hl : l.length = n := by have := h.len; rw [iv_len] at this; exact this
  have han : a < n := by rw [← hl]; exact (List.getElem?_eq_some_iff.1 hx).1
  have hbn : b < n := by rw [← hl]; exact (List.getElem?_eq_some_iff.1 hy).1
  obtain ⟨g1, x', e1, hg1, _, hx', hcx, hfx⟩ := h.ati han
  obtain ⟨g2, y', e2, _, _, hy', hcy, hfy⟩ := h.ati hbn
  cases e1
  cases e2
  rw [hx] at hx'
  rw [hy] at hy'
  cases hx'
  cases hy'
  have HL := Lib.hid hl
  have HO := Lib.hid h
  have hlo : H ≤ g := by omega
  have a0 : (0 : Int) ≤ (a : Int) := by omega
  have a1 : (a : Int) < (n : Int) := by omega
  have b0 : (0 : Int) ≤ (b : Int) := by omega
  have b1 : (b : Int) < (n : Int) := by omega
  clear h hx hy hl
  go_enter Try.func72, Try.ntmps72
  go_wp2_with fail
  go_quiet (fail)
  go_wp2_with fail
  go_loopw [8, 19] (fun _ i wr => ∃ k : Nat, k ≤ n ∧ i = .int .i64 k ∧ Own wr 3 B (some ⟨g, 0, none⟩) n c (iv (mrgTo l x y k)) ∧ Below H w wr) (fun _ i _ => n - (intOf i).toNat)
  case atStart => exact ⟨0, Nat.zero_le _, rfl, HO.out.drewN _, below_drewN' (Below.refl _ _) _⟩
  case round =>
    obtain ⟨k, hk, rfl, ho, hbl⟩ := hrel
    by_cases hlt : k < n
    · obtain ⟨g1, z, hA1, _, _, hz, hcz, hfz⟩ := ho.ati hlt
      cases hA1
      rw [mrgTo_at] at hz
      have k0 : (0 : Int) ≤ (k : Int) := by omega
      have k1 : (k : Int) < (n : Int) := by omega
      have P1 := Lib.hid ho
      clear ho
      by_cases hzy : z = y
      · have HS := Lib.hid (show (mrgTo l x y k).set k x = mrgTo l x y (k + 1) by have := mrgTo_set (x := x) (y := y) hz; rw [if_pos hzy] at this; exact this)
        have hzb : (z == y) = true := by simp [hzy]
        clear hz hzy
        go_wp2_with fail
        go_roundw
        case rel => exact ⟨k + 1, by omega, by go_num, by rw [← HS.out]; exact P1.out.puti k x, hbl.setCell (p := ⟨g, k, none⟩) hlo _⟩
        case measure => simp [intOf]; omega
      · have HS := Lib.hid (mrgTo_step (x := x) hz hzy)
        have hzb : (z == y) = false := by simp [hzy]
        clear hz hzy
        go_wp2_with fail
        go_roundw
        case rel => exact ⟨k + 1, by omega, by go_num, by rw [HS.out]; exact P1.out, hbl⟩
        case measure => simp [intOf]; omega
    · have hkn : k = n := by omega
      have HF := Lib.hid (show Own wr 3 B (some ⟨g, 0, none⟩) n c (iv (mrg l x y)) by
        rw [hkn, mrgTo_all (by rw [HL.out]; exact Nat.le_refl _)] at ho; exact ho)
      clear ho hkn
      go_wp2_with fail
      go_end0
      exact ⟨rfl, HF.out, hbl⟩

end Go.Proofs.Ytdjkmeepkodhjaa
