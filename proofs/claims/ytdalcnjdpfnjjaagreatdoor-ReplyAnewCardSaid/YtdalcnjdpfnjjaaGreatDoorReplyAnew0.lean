/- The runs of ReplyAnew with four draws at most, over all paths at once. -/
import Derived.Test.YtdalcnjdpfnjjaaGreatDoorKn
namespace Go.Proofs.YtdalcnjdpfnjjaaGreatDoor
open Go Go.Ev
set_option maxRecDepth 100000
theorem rep00 : lawQ S3 400 4 [v32 0, v32 1, .nils] sglob (thRep []) [] = true := by kernel_rfl
theorem rep01 : lawQ S3 400 4 [v32 0, v32 1, .sl 0 0 (.lit 0) 1 false] sglob (thRep []) [] = true := by kernel_rfl
theorem rep0 : lawQ S3 400 4 [v32 0, v32 1, .sl 3 0 (.lit 0) 1 false] (repH []) (thRep []) [] = true := by kernel_rfl
theorem rep1 : lawQ S3 400 4 [v32 0, v32 1, .sl 3 0 (.lit 1) 1 false] (repH [v32 10]) (thRep []) [] = true := by kernel_rfl
theorem rep2 : lawQ S3 400 4 [v32 0, v32 1, .sl 3 0 (.lit 2) 1 false] (repH [v32 10, v32 11]) (thRep []) [] = true := by kernel_rfl
theorem rep3 : lawQ S3 400 4 [v32 0, v32 1, .sl 3 0 (.lit 3) 1 false] (repH [v32 10, v32 11, v32 12]) (thRep []) [] = true := by kernel_rfl
theorem rep4 : lawQ S3 400 4 [v32 0, v32 1, .sl 3 0 (.lit 4) 1 false] (repH [v32 10, v32 11, v32 12, v32 13]) (thRep []) [] = true := by kernel_rfl
end Go.Proofs.YtdalcnjdpfnjjaaGreatDoor
