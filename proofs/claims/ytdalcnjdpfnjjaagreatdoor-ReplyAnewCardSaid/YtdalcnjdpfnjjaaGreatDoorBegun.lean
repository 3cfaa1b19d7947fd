/- The closed call with which each law begins: the kernel runs the evaluator. -/
import Derived.Test.YtdalcnjdpfnjjaaGreatDoorEnv
namespace Go.Proofs.YtdalcnjdpfnjjaaGreatDoor
open Go Go.Ev
set_option maxRecDepth 100000 in
theorem begun_true : pcall E 100000 8 [] = some (.bool true) := by kernel_rfl
end Go.Proofs.YtdalcnjdpfnjjaaGreatDoor
