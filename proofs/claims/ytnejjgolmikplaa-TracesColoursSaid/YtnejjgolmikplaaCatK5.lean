/- All groups that generators make lie in a catalogue: checks by the kernel. -/
import Derived.Test.YtnejjgolmikplaaCat
namespace Go.Proofs.Ytnejjgolmikplaa
open Go.RowKit Go.Proofs

set_option maxRecDepth 1000000
set_option maxHeartbeats 0
theorem recs_ok : recsN.all goodB = true := by decide +kernel
theorem recs_at : (catN.all fun x => recAt x 1 && (recAt x 2 && (recAt x 3 && (recAt x 4 && recAt x 5)))) = true := by decide +kernel
theorem perm1 : allLists 1 (permChk 1) 1 [] = true := by decide +kernel
theorem perm2 : allLists 2 (permChk 2) 2 [] = true := by decide +kernel
theorem perm3 : allLists 3 (permChk 3) 3 [] = true := by decide +kernel
theorem perm4 : allLists 4 (permChk 4) 4 [] = true := by decide +kernel
theorem perm5 : allLists 5 (permChk 5) 5 [] = true := by decide +kernel
theorem tab_ok : allTo tabOkAt 120 = true := by decide +kernel
theorem cl_ok : allL clM catN = true := by decide +kernel
theorem dcl_ok : (clM ([], degM 1) && (clM ([], degM 2) && (clM ([], degM 3) && (clM ([], degM 4) && clM ([], degM 5))))) = true := by decide +kernel
theorem okp_ok : allTo (fun i => Nat.blt (codeI i) 32768 && okDig (codeI i)) 120 = true := by decide +kernel
theorem inc_ok : allTo (fun i => Nat.blt (codeI i) (codeI (i + 1))) 119 = true := by decide +kernel
theorem one_ok : codeI 0 = idC := by decide +kernel
theorem triv_ok : (([], 1) : List Nat × Nat) ∈ catN := by decide +kernel
theorem cat_len : catN.length = 154 := by decide +kernel

end Go.Proofs.Ytnejjgolmikplaa
