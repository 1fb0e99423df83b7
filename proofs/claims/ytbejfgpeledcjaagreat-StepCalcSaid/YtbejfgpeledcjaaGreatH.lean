/- head returns true. -/
import Derived.Test.YtbejfgpeledcjaaGreatC0
import Derived.Test.YtbejfgpeledcjaaGreatC1
set_option linter.unusedVariables false
set_option linter.unusedSimpArgs false
namespace Go.Proofs.YtbejfgpeledcjaaGreat.A
noncomputable section
open Go
set_option maxRecDepth 100000
def tChk : List Ent := [chk0, chk1]
def T1 : Tr (List Ent) := T0.put 120 tChk
theorem T1_ok : TabOk Tryz.prog T1 := T0_ok.put (allCons chk0_ok (allCons chk1_ok allNil))
theorem kSim1 (n : Nat) : KSim Tryz.prog (callH sys T1 n) := callH_sim mixed sysOk T1_ok n
theorem head_ok : HPure Tryz.prog 13 [] [] (.bool true) := HPure.of_runs (kSim1 100) (N := 0) (by kernel_rfl) (by kernel_rfl)
end
end Go.Proofs.YtbejfgpeledcjaaGreat.A
