/- what must come whatever the input is: 1 and 1 are 2, told as 2e0, read again. No statement is proved here. -/
import Derived.Test.YtopcajgknbmbcaaGreatDoorFn2
import Derived.KernelRfl
namespace Go.Proofs.YtopcajgknbmbcaaGreatDoor.Pure
open Go Go.RowKit Go.Proofs Go.Proofs.YtopcajgknbmbcaaGreatDoor.Eng Go.Proofs.YtopcajgknbmbcaaGreatDoor.Fns
set_option linter.unusedVariables false
set_option maxRecDepth 100000
theorem sure_true : fn_tillertop_sure 400 = some true := by kernel_rfl
end Go.Proofs.YtopcajgknbmbcaaGreatDoor.Pure
