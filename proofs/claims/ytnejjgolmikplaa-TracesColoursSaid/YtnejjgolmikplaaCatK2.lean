/- All groups that generators make lie in a catalogue: checks by the kernel. -/
import Derived.Test.YtnejjgolmikplaaCat
namespace Go.Proofs.Ytnejjgolmikplaa
open Go.RowKit Go.Proofs

set_option maxRecDepth 1000000
set_option maxHeartbeats 0
theorem catOk4 : allL okM ((catN.drop 40).take 10) = true := by decide +kernel
theorem catOk5 : allL okM ((catN.drop 50).take 10) = true := by decide +kernel
theorem catOk6 : allL okM ((catN.drop 60).take 10) = true := by decide +kernel
theorem catOk7 : allL okM ((catN.drop 70).take 10) = true := by decide +kernel

end Go.Proofs.Ytnejjgolmikplaa
