/- The walks over sums of two 64-bit numbers in packages num and davitref02: the sum, or that it does not fit. No condition but that the numbers are 64-bit ones. -/
import Derived.Test.YthieionajemjhaaDoorKit
namespace Go.Proofs.YthieionajemjhaaDoor
set_option linter.unusedVariables false
set_option linter.unusedSimpArgs false
open Go.RowKit

def In64 (n : Int) : Prop := -9223372036854775808 ≤ n ∧ n ≤ 9223372036854775807
instance (n : Int) : Decidable (In64 n) := by unfold In64; infer_instance
def addV (a b : Int) : Int := if In64 (a + b) then a + b else 0
def addE (a b : Int) : Int := if In64 (a + b) then 0 else 16


end Go.Proofs.YthieionajemjhaaDoor
