/- Run: part of the proof (own work of this claim). -/
import Derived.Test.YtlhofngbhhdioaaGreatDoorTab
set_option linter.unusedVariables false
set_option linter.unusedSimpArgs false
set_option linter.deprecated false
/- The example of the law: the kernel runs it. -/
set_option maxRecDepth 1000000
namespace Go.Proofs
open Go
def isTrue (r : Option Go.Vai.CR) : Bool :=
  match r with
  | some (.ret (.b true) _) => true
  | _ => false
theorem Tryz.ex49 : isTrue (Go.Vai.run Tryz.venv (Go.Vai.drawV Tryz.venv) 100 7 [] ⟨0, .nil⟩) = true := by kernel_rfl
end Go.Proofs
