/- All groups that generators make lie in a catalogue: checks by the kernel. -/
import Derived.Test.YtnejjgolmikplaaCat
namespace Go.Proofs.Ytnejjgolmikplaa
open Go.RowKit Go.Proofs

set_option maxRecDepth 1000000
set_option maxHeartbeats 0
theorem catOk0 : allL okM ((catN.drop 0).take 10) = true := by decide +kernel
theorem catOk1 : allL okM ((catN.drop 10).take 10) = true := by decide +kernel
theorem catOk2 : allL okM ((catN.drop 20).take 10) = true := by decide +kernel
theorem catOk3 : allL okM ((catN.drop 30).take 10) = true := by decide +kernel

end Go.Proofs.Ytnejjgolmikplaa
