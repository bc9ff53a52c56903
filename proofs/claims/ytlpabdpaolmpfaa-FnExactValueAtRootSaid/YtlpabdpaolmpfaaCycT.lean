/- The cyclotomic polynomials 1 to 16. No program is named here. -/
import Derived.Test.YtlpabdpaolmpfaaLib
namespace Go.Proofs.Ytlpabdpaolmpfaa

def cycT (d : Nat) : List Int :=
  ([[], [-1, 1], [1, 1], [1, 1, 1], [1, 0, 1], [1, 1, 1, 1, 1], [1, -1, 1], [1, 1, 1, 1, 1, 1, 1], [1, 0, 0, 0, 1], [1, 0, 0, 1, 0, 0, 1], [1, -1, 1, -1, 1],
    [1, 1, 1, 1, 1, 1, 1, 1, 1, 1, 1], [1, 0, -1, 0, 1], [1, 1, 1, 1, 1, 1, 1, 1, 1, 1, 1, 1, 1], [1, -1, 1, -1, 1, -1, 1], [1, -1, 0, 1, -1, 1, 0, -1, 1], [1, 0, 0, 0, 0, 0, 0, 0, 1]] : List (List Int)).getD d []

end Go.Proofs.Ytlpabdpaolmpfaa
