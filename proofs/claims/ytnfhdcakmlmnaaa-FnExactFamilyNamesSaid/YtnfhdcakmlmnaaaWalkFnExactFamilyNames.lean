/- laws.FnExactFamilyNames returns true. -/
import Derived.Test.YtnfhdcakmlmnaaaCoreFnExactFamilyNames
namespace Go.Proofs.Ytnfhdcakmlmnaaa
open Go.RowKit

def fams : List (List UInt8) := [[109, 97, 116, 99, 104, 105, 110, 103, 115], [112, 97, 114, 116, 105, 116, 105, 111, 110, 115], [116, 114, 105, 97, 110, 103, 117, 108, 97, 116, 105, 111, 110, 115]]
theorem own_fams (w : World) : OSeg (w.alloc (.cells #[.string (bs [109, 97, 116, 99, 104, 105, 110, 103, 115]), .string (bs [112, 97, 114, 116, 105, 116, 105, 111, 110, 115]), .string (bs [116, 114, 105, 97, 110, 103, 117, 108, 97, 116, 105, 111, 110, 115])] 9)) 9 w.heap.size (w.heap.size + 1) (some ⟨w.heap.size, 0, none⟩) 3 3 (sv fams) := by
  have := OSeg.mk' (Own.lit w 9 #[.string (bs [109, 97, 116, 99, 104, 105, 110, 103, 115]), .string (bs [112, 97, 114, 116, 105, 116, 105, 111, 110, 115]), .string (bs [116, 114, 105, 97, 110, 103, 117, 108, 97, 116, 105, 111, 110, 115])] 3 rfl (by decide))
  rw [World.size_alloc] at this
  exact this
theorem specFamilyNames_any (w : World) : Calls Try.prog 19 #[] w fun e w' => ∃ R0 m0 d0, m0 = fams.length ∧ e = .returned (.slice R0 m0 d0) ∧ OSeg w' 9 w.heap.size w'.heap.size R0 m0 d0 (sv fams) ∧ Below w.heap.size w w' := by
  go_enter Try.func19, Try.ntmps19
  go_wp2_with fail
  go_ret
  refine ⟨_, 3, _, rfl, rfl, ?_, (Below.refl _ _).alloc (Nat.le_refl _) _⟩
  have := own_fams w
  rw [World.size_alloc]
  exact this
theorem implFamilyNames_any (w : World) : Calls Try.prog 20 #[] w fun e w' => ∃ R0 m0 d0, m0 = fams.length ∧ e = .returned (.slice R0 m0 d0) ∧ OSeg w' 9 w.heap.size w'.heap.size R0 m0 d0 (sv fams) ∧ Below w.heap.size w w' := by
  go_enter Try.func20, Try.ntmps20
  go_wp2_with fail
  go_ret
  refine ⟨_, 3, _, rfl, rfl, ?_, (Below.refl _ _).alloc (Nat.le_refl _) _⟩
  have := own_fams w
  rw [World.size_alloc]
  exact this
theorem walk_FnExactFamilyNames (w : World) : Calls Try.prog 7 #[] w fun e w' => e = .returned (.bool true) ∧ Below w.heap.size w w' :=
  core_FnExactFamilyNames fams w (by decide) specFamilyNames_any implFamilyNames_any

end Go.Proofs.Ytnfhdcakmlmnaaa
