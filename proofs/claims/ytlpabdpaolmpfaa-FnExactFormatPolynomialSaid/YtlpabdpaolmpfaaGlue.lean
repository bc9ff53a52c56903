/- glued: texts in a row with a text between them. -/
import Derived.Test.YtlpabdpaolmpfaaStrs
namespace Go.Proofs.Ytlpabdpaolmpfaa
open Go.RowKit

def gluTo (s : List UInt8) (ts : List (List UInt8)) : Nat → List UInt8
  | 0 => []
  | k + 1 => gluTo s ts k ++ (if 0 < k then s else []) ++ ts.getD k []
theorem gluTo_len {s : List UInt8} {ts : List (List UInt8)} {b : Nat} (h : ∀ t ∈ ts, t.length ≤ b) : ∀ k, (gluTo s ts k).length ≤ k * (b + s.length)
  | 0 => Nat.zero_le _
  | k + 1 => by
    have h1 := gluTo_len (s := s) h k
    rw [gluTo, List.length_append, List.length_append, Nat.add_mul, Nat.one_mul]
    have h2 : (if 0 < k then s else []).length ≤ s.length := by split <;> simp
    have h3 : (ts.getD k []).length ≤ b := by
      rw [List.getD_eq_getElem?_getD]
      rcases hg : ts[k]? with _ | t
      · simp
      · exact h t (List.mem_of_getElem? hg)
    omega
theorem getDs_of {ts : List (List UInt8)} {k : Nat} {x : List UInt8} (h : ts[k]? = some x) : ts.getD k [] = x := by
  rw [List.getD_eq_getElem?_getD, h]; rfl

set_option maxHeartbeats 1000000 in
theorem glued_any (A : Option Addr) (n c : Nat) (s : List UInt8) (ts : List (List UInt8)) (b : Nat) (w : World) (h : Rd w A n (sv ts)) (hb : ∀ t ∈ ts, t.length ≤ b) (hs : s.length ≤ 100) (hbb : b ≤ 1000) (hn : n ≤ 10000) :
    Calls Try.prog 49 #[.slice A n c, .string (bs s)] w fun e w' => e = .returned (.string (bs (gluTo s ts n))) ∧ w = w' := by
  have HR := Lib.hid h
  have HG := Lib.hid (gluTo_len (s := s) hb)
  have HB := Lib.hid hb
  have hs1 : (bs s).size ≤ 100 := by rw [size_bs]; exact hs
  clear h hb
  go_enter Try.func49, Try.ntmps49
  go_wp2_with fail
  go_loop [5, 6, 7, 10] (fun r _ _ i => ∃ k : Nat, k ≤ n ∧ i = .int .i64 k ∧ r = .string (bs (gluTo s ts k))) (fun _ _ _ i => n - (intOf i).toNat)
  case atStart => exact ⟨0, Nat.zero_le _, rfl, rfl⟩
  case round =>
    obtain ⟨k, hk, rfl, rfl⟩ := hrel
    by_cases hlt : k < n
    · obtain ⟨bl, off, x, rfl, hx, hc⟩ := HR.out.ats hlt
      have z1 : (gluTo s ts k).length ≤ 11000000 := by
        have h1 := HG.out k
        have h2 := Nat.mul_le_mul (show k ≤ 10000 by omega) (show b + s.length ≤ 1100 by omega)
        omega
      have z2 : x.length ≤ 1000 := by have := HB.out x (List.mem_of_getElem? hx); omega
      have z3 : (bs (gluTo s ts k)).size ≤ 11000000 := by rw [size_bs]; exact z1
      have z4 : (bs x).size ≤ 1000 := by rw [size_bs]; exact z2
      by_cases h0 : k = 0
      · subst h0
        have HS := Lib.hid (show gluTo s ts (0 + 1) = gluTo s ts 0 ++ x by show gluTo s ts 0 ++ (if 0 < 0 then s else []) ++ ts.getD 0 [] = _; rw [getDs_of hx]; simp)
        rw [Nat.add_zero] at hc
        clear hx
        go_wp2_with fail
        go_round
        case rel => exact ⟨0 + 1, by omega, by go_num, by rw [HS.out]⟩
        case measure => simp [intOf]; omega
      · have k1 : (0 : Int) < (k : Int) := by omega
        have k2 : 0 < k := by omega
        have HS := Lib.hid (show gluTo s ts (k + 1) = gluTo s ts k ++ s ++ x by rw [gluTo, getDs_of hx, if_pos k2])
        clear hx
        have z5 : (bs (gluTo s ts k ++ s)).size ≤ 11000100 := by rw [size_bs, List.length_append]; omega
        clear h0
        go_wp2_with fail
        go_round
        case rel => exact ⟨k + 1, by omega, by go_num, by rw [HS.out, List.append_assoc]⟩
        case measure => simp [intOf]; omega
    · have hkn : k = n := by omega
      have HK := Lib.hid hkn
      clear hkn
      go_wp2_with fail
      go_ret
      exact ⟨by rw [HK.out]; rfl, rfl⟩

end Go.Proofs.Ytlpabdpaolmpfaa
