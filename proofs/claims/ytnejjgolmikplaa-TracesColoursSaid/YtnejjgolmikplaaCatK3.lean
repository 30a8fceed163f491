/- All groups that generators make lie in a catalogue: checks by the kernel. -/
import Derived.Test.YtnejjgolmikplaaCat
namespace Go.Proofs.Ytnejjgolmikplaa
open Go.RowKit Go.Proofs

set_option maxRecDepth 1000000
set_option maxHeartbeats 0
theorem catOk8 : allL okM ((catN.drop 80).take 10) = true := by decide +kernel
theorem catOk9 : allL okM ((catN.drop 90).take 10) = true := by decide +kernel
theorem catOk10 : allL okM ((catN.drop 100).take 10) = true := by decide +kernel
theorem catOk11 : allL okM ((catN.drop 110).take 10) = true := by decide +kernel

end Go.Proofs.Ytnejjgolmikplaa
