/- The chapter's rows come to true: a closed run. -/
import Derived.Test.YtbajjfdkkffamaaGreatDoorNn
namespace Go.Cn
set_option maxRecDepth 100000
theorem known_run' : ((hyb Go.Proofs.Tryz.prog KZ S2 dC dL 400).call 4 [] H0).map (·.1) = some (.bool true) := by kernel_rfl
theorem known_run : ((orcS Go.Proofs.Tryz.prog KZ S2 400).call 4 [] H0).map (·.1) = some (.bool true) := by
  rw [← hyb_call dC_ok dL_ok]; exact known_run'
end Go.Cn
