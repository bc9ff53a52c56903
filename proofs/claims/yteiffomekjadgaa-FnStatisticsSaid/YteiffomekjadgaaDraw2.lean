/- Words that are drawn. -/
import Derived.Test.YteiffomekjadgaaDraw
import Derived.Test.YteiffomekjadgaaPathDefs
import Derived.Test.YteiffomekjadgaaStrs
import Derived.Test.YteiffomekjadgaaPathsL
namespace Go.Proofs.Yteiffomekjadgaa
set_option linter.unusedVariables false
open Go.RowKit

theorem hat_apD {x y : List UInt8} : ∀ k, k ≤ x.length → hat (x ++ y) k = hat x k
  | 0, _ => rfl
  | k + 1, h => by rw [hat, hat, hat_apD k (by omega), List.getElem?_append_left (by omega)]
theorem okB_apD {x y : List UInt8} : ∀ k, k ≤ x.length → okB (x ++ y) k = okB x k
  | 0, _ => rfl
  | k + 1, h => by rw [okB, okB, okB_apD k (by omega), List.getElem?_append_left (by omega), hat_apD (k + 1) h]
/-- A word on the way: u letters u, d letters d. -/
structure WdP (l : List UInt8) (u d : Nat) : Prop where
  len : l.length = u + d
  ok : okB l l.length = true
  ht : hat l l.length = (u : Int) - d
theorem WdP.nil : WdP [] 0 0 := ⟨rfl, rfl, rfl⟩
theorem WdP.up {l : List UInt8} {u d : Nat} (h : WdP l u d) : WdP (l ++ [117]) (u + 1) d where
  len := by simp [h.len]; omega
  ok := by
    rw [List.length_append, List.length_singleton]
    exact okB_u (by rw [okB_apD _ (Nat.le_refl _)]; exact h.ok) (by rw [List.getElem?_append_right (Nat.le_refl _), Nat.sub_self]; rfl)
  ht := by
    rw [List.length_append, List.length_singleton, hat_u (by rw [List.getElem?_append_right (Nat.le_refl _), Nat.sub_self]; rfl), hat_apD _ (Nat.le_refl _), h.ht]
    omega
theorem WdP.down {l : List UInt8} {u d : Nat} (h : WdP l u d) (hlt : d < u) : WdP (l ++ [100]) u (d + 1) where
  len := by simp [h.len]; omega
  ok := by
    rw [List.length_append, List.length_singleton]
    exact okB_d (by rw [okB_apD _ (Nat.le_refl _)]; exact h.ok) (by rw [List.getElem?_append_right (Nat.le_refl _), Nat.sub_self]; rfl) (by rw [hat_apD _ (Nat.le_refl _), h.ht]; omega)
  ht := by
    rw [List.length_append, List.length_singleton, hat_d (by rw [List.getElem?_append_right (Nat.le_refl _), Nat.sub_self]; rfl) (by decide), hat_apD _ (Nat.le_refl _), h.ht]
    omega
theorem WdP.dyck {l : List UInt8} {n : Nat} (h : WdP l n n) (hn : n ≤ 8) : dyck l = true := by
  unfold Go.Proofs.Yteiffomekjadgaa.dyck pathB
  rw [h.ok, h.ht, h.len]
  simp
  omega

/-- What goes on from here lies among all paths. -/
def SubP (m : Nat) (l : List UInt8) (u d : Nat) : Prop := ∀ y ∈ pth (2 * m - (u + d)) l (m - u) (m - d), y ∈ paths m
theorem SubP.nil (m : Nat) : SubP m [] 0 0 := fun y hy => hy
theorem SubP.up {m : Nat} {l : List UInt8} {u d : Nat} (h : SubP m l u d) (hu : u < m) (hd : d < m) : SubP m (l ++ [117]) (u + 1) d := fun y hy => by
  apply h
  rw [show 2 * m - (u + d) = (2 * m - (u + 1 + d)) + 1 by omega, pth_go (by omega), if_pos (by omega)]
  exact List.mem_append_left _ (by rw [show m - u - 1 = m - (u + 1) by omega]; exact hy)
theorem SubP.down {m : Nat} {l : List UInt8} {u d : Nat} (h : SubP m l u d) (hum : u ≤ m) (hlt : d < u) : SubP m (l ++ [100]) u (d + 1) := fun y hy => by
  apply h
  rw [show 2 * m - (u + d) = (2 * m - (u + (d + 1))) + 1 by omega, pth_go (by omega), if_pos (show m - u < m - d by omega)]
  exact List.mem_append_right _ (by rw [show m - d - 1 = m - (d + 1) by omega]; exact hy)
theorem SubP.fin {m : Nat} {l : List UInt8} (h : SubP m l m m) : l ∈ paths m := h l (by rw [Nat.sub_self, pth_done]; simp)

set_option maxRecDepth 20000 in
set_option maxHeartbeats 2000000 in
theorem l2Draw_any (m : Nat) (hm : m ≤ 8) (g : Nat) (A : Option Addr) (n c : Nat) (zs : List Int) (w : World) (h : Cur w g A n c zs) :
    Calls Try.prog 113 #[.pointer (some ⟨g, 0, none⟩), .int .i64 m] w (RetDS (fun l => dyck l = true ∧ l.length = 2 * m ∧ l ∈ paths m) g A n c zs w) := by
  have HC := Lib.hid h
  clear h
  go_enter Try.func113, Try.ntmps113
  go_wp2_with fail
  go_loopw [5, 6, 7] (fun s ux dx wr => ∃ (l : List UInt8) (u d : Nat), d ≤ u ∧ u ≤ m ∧ s = .string (bs l) ∧ ux = .int .i64 u ∧ dx = .int .i64 d ∧ Hid (WdP l u d ∧ SubP m l u d) ∧ Cur wr g A n c zs ∧ Only g (g + 1) w wr) (fun _ ux dx _ => 2 * m - (intOf ux).toNat - (intOf dx).toNat)
  case atStart => exact ⟨[], 0, 0, Nat.le_refl _, Nat.zero_le _, rfl, rfl, rfl, Lib.hid ⟨WdP.nil, SubP.nil m⟩, HC.out, Only.refl _ _ _⟩
  case round =>
    obtain ⟨l, u, d, hdu, hum, rfl, rfl, rfl, HW, hc, ho⟩ := hrel
    obtain ⟨w1, rfl⟩ : ∃ W, W = wr := ⟨wr, rfl⟩
    have C1 := Lib.hid hc
    have O1 := Lib.hid ho
    have hl : l.length ≤ 16 := by have := HW.out.1.len; omega
    have p1 : ¬ 9223372036854775807 < l.length + 1 := by omega
    clear hc ho
    by_cases hdm : d < m
    · have d1 : (d : Int) < (m : Int) := by omega
      by_cases hu : u < m
      · have u1 : (u : Int) < (m : Int) := by omega
        by_cases hud : u = d
        · have e1 : ((u : Int) == (d : Int)) = true := by rw [beq_iff_eq]; omega
          clear hud
          go_wp2_with fail
          go_roundw
          case rel => exact ⟨l ++ [117], u + 1, d, by omega, by omega, rfl, by go_num, rfl, Lib.hid ⟨HW.out.1.up, HW.out.2.up (by omega) (by omega)⟩, C1.out, O1.out⟩
          case measure => simp [intOf]; omega
        · have e1 : ((u : Int) == (d : Int)) = false := by rw [beq_eq_false_iff_ne]; omega
          have hlt : d < u := by omega
          clear hud
          go_wp2_with fail
          refine (l1Once_any 2 (by omega) (by omega) _ _ _ _ _ _ C1.out).mono ?_
          rintro e w2 ⟨b, rfl, hc, ho⟩
          have C2 := Lib.hid hc
          have O2 := Lib.hid (O1.out.trans ho)
          clear hc ho
          rcases b with _ | _
          · go_wp2_with fail
            go_roundw
            case rel => exact ⟨l ++ [100], u, d + 1, by omega, by omega, rfl, rfl, by go_num, Lib.hid ⟨HW.out.1.down hlt, HW.out.2.down (by omega) (by omega)⟩, C2.out, O2.out⟩
            case measure => simp [intOf]; omega
          · go_wp2_with fail
            go_roundw
            case rel => exact ⟨l ++ [117], u + 1, d, by omega, by omega, rfl, by go_num, rfl, Lib.hid ⟨HW.out.1.up, HW.out.2.up (by omega) (by omega)⟩, C2.out, O2.out⟩
            case measure => simp [intOf]; omega
      · have u1 : ¬ (u : Int) < (m : Int) := by omega
        go_wp2_with fail
        go_roundw
        case rel => exact ⟨l ++ [100], u, d + 1, by omega, by omega, rfl, rfl, by go_num, Lib.hid ⟨HW.out.1.down (by omega), HW.out.2.down (by omega) (by omega)⟩, C1.out, O1.out⟩
        case measure => simp [intOf]; omega
    · have d1 : ¬ (d : Int) < (m : Int) := by omega
      have HF := Lib.hid (show WdP l m m ∧ SubP m l m m by have := HW.out; rw [show d = m by omega, show u = m by omega] at this; exact this)
      go_wp2_with fail
      go_ret
      exact ⟨l, ⟨HF.out.1.dyck hm, by have := HF.out.1.len; omega, HF.out.2.fin⟩, rfl, C1.out, O1.out⟩

end Go.Proofs.Yteiffomekjadgaa
