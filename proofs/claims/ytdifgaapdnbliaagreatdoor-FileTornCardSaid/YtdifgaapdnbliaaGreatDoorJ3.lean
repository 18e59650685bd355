/-
  AWAKE: the examples of the chapter are answered as the document says (a closed run).
-/
import Derived.Test.YtdifgaapdnbliaaGreatDoorJ2
set_option linter.unusedSimpArgs false
set_option linter.unusedVariables false
namespace Ab
open Go Go.RowKit Go.Proofs
set_option maxRecDepth 100000 in
theorem awake_calls : APure Tryz.prog 16 [] (.bool true) := APure.runG (F := stateF) (O := lawO) 300 mixed stateF_good lawO_good (by kernel_rfl)
end Ab
