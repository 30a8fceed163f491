/- All groups that generators make lie in a catalogue: checks by the kernel. -/
import Derived.Test.YtnejjgolmikplaaCat
namespace Go.Proofs.Ytnejjgolmikplaa
open Go.RowKit Go.Proofs

set_option maxRecDepth 1000000
set_option maxHeartbeats 0
theorem catOk12 : allL okM ((catN.drop 120).take 10) = true := by decide +kernel
theorem catOk13 : allL okM ((catN.drop 130).take 10) = true := by decide +kernel
theorem catOk14 : allL okM ((catN.drop 140).take 10) = true := by decide +kernel
theorem catOk15 : allL okM ((catN.drop 150).take 10) = true := by decide +kernel

end Go.Proofs.Ytnejjgolmikplaa
