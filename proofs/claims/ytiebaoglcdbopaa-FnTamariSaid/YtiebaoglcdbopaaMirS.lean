/- The reference's l6Mirror, MirrorBinary's like, LeftComb. -/
import Derived.Test.YtiebaoglcdbopaaTreeS
namespace Go.Proofs.Ytiebaoglcdbopaa
open Go.RowKit Go.Deep

set_option maxHeartbeats 1000000 in
theorem l6Mirror_any (t : Tr) : ∀ w : World, nodes t ≤ 1000000 →
    Calls Try.prog 63 #[.string (bs (tx t))] w fun e w' => e = .returned (.string (bs (tx (mir t)))) ∧ ∃ n, w' = w.drewN n := by
  induction t with
  | nil =>
    intro w _
    show Calls _ _ #[.string (bs [46])] _ _
    go_enter Try.func63, Try.ntmps63
    go_wp2_with fail
    go_ret
    exact ⟨rfl, 0, rfl⟩
  | node b o a l r ihl ihr =>
    intro w hn
    have hnn : nodes l + nodes r + 1 ≤ 1000000 := hn
    obtain ⟨L, x, hL, hc⟩ := cut_of b o a l r
    rw [← hL]
    have HC := Lib.hid hc
    have hlen := hc.len
    have hxn := hc.xn
    have hne := hc.ne
    have hL9 : L.length ≤ 1000000000 := by omega
    have hx1 : 1 ≤ x := by omega
    have hx2 : x ≤ L.length - 1 := by omega
    have hx3 : 1 ≤ L.length := by omega
    obtain ⟨X, hX⟩ : ∃ X, X = tx l := ⟨_, rfl⟩
    obtain ⟨Y, hY⟩ : ∃ Y, Y = tx r := ⟨_, rfl⟩
    have s1 : List.take (x - 1) L.tail = X := by rw [hX, ← List.drop_one]; exact hc.left
    have s1' : List.take (x - 1) (List.drop 1 L) = X := by rw [hX]; exact hc.left
    have s2 : List.take (L.length - 1 - x) (List.drop x L) = Y := by rw [hY]; exact hc.right
    have HX := Lib.hid hX
    have HY := Lib.hid hY
    have ml := tx_len (mir l)
    have mr := tx_len (mir r)
    rw [nodes_mir] at ml mr
    obtain ⟨P, hP⟩ : ∃ P, P = tx (mir l) := ⟨_, rfl⟩
    obtain ⟨Q, hQ⟩ : ∃ Q, Q = tx (mir r) := ⟨_, rfl⟩
    rw [← hP] at ml
    rw [← hQ] at mr
    have hP3 : P.length ≤ 3000001 := by omega
    have hQ3 : Q.length ≤ 3000001 := by omega
    have hil : ∀ w, Calls Try.prog 63 #[.string (bs X)] w fun e w' => e = .returned (.string (bs P)) ∧ ∃ n, w' = w.drewN n := by rw [hX, hP]; exact fun w => ihl w (by omega)
    have hir : ∀ w, Calls Try.prog 63 #[.string (bs Y)] w fun e w' => e = .returned (.string (bs Q)) ∧ ∃ n, w' = w.drewN n := by rw [hY, hQ]; exact fun w => ihr w (by omega)
    have HIL := Lib.hid hil
    have HIR := Lib.hid hir
    have HP := Lib.hid hP
    have HQ := Lib.hid hQ
    have HR := Lib.hid (show tx (mir (.node b o a l r)) = [40] ++ Q ++ P ++ [41] by rw [hP, hQ]; rfl)
    have e1 : IntKind.i64.wrap ((L.length : Int) - 1) = (L.length : Int) - 1 := IntWalk.i64_in _ (by omega)
    have e2 : ((L.length : Int) - 1).toNat = L.length - 1 := by omega
    have b1 : (0 : Int) ≤ (L.length : Int) - 1 := by omega
    have b2 : (x : Int) ≤ (L.length : Int) - 1 := by omega
    have b3 : (L.length : Int) - 1 ≤ (L.length : Int) := by omega
    have b4 : (0 : Int) ≤ (x : Int) := by omega
    have b5 : (1 : Int) ≤ (x : Int) := by omega
    have b6 : (x : Int) ≤ (L.length : Int) := by omega
    have f1 : x < L.length := by omega
    have f2 : 0 < L.length := by omega
    have f3 : ¬ L = [] := by intro h; rw [h] at f2; simp at f2
    have f5 : (x : Int) < (L.length : Int) := by omega
    have f6 : x ≤ L.length := by omega
    have f7 : (1 : Int) ≤ (L.length : Int) := by omega
    clear hil hir hX hY hc hL ihl ihr hlen hxn hn hnn hP hQ ml mr
    go_enter Try.func63, Try.ntmps63
    go_wp2_with fail
    refine (l6End_sub _ 1 x l _ _ hL9 HC.out.at1 HC.out.x_eq).mono ?_
    rintro e w' ⟨rfl, rfl⟩
    go_wp2_with fail
    go_quiet (first | (go_at_call_of 63 (Value.string (bs X)); exact Calls.quiet_of (HIL.out _)) | (go_at_call_of 63 (Value.string (bs Y)); exact Calls.quiet_of (HIR.out _)))
    go_wp2_with fail
    go_ret
    refine ⟨?_, _, rfl⟩
    rw [HR.out]
    show _ = _
    rw [bs_lit, bs_lit, bs_append, bs_append, bs_append]
    rfl

end Go.Proofs.Ytiebaoglcdbopaa
