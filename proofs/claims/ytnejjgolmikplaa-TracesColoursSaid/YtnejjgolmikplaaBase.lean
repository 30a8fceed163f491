/- Words that the walks of this seat share: permutations in memory, worlds that kept what they held. -/
import Derived.Test.YtnejjgolmikplaaProg
import Derived.WalkKit
import Derived.Tactics
import Derived.LoopTactic
import Derived.Laws.Pointers
import Derived.RegionTactic
import Derived.Deep.QuietTactic
import Derived.BigQuiet
import Derived.Lib.Hide
import Derived.Below
import Derived.Outline
import Derived.Lib.Bits
import Derived.Deep.RegionHeld3
import Derived.Deep.DeepFit
import Derived.Maps.AppendAt
import Derived.Deep.OwnRows
import Derived.KernelRfl
namespace Go.Proofs.Ytnejjgolmikplaa
open Go.RowKit Go.Proofs

/-- The i-th digit, from the front, of a code of five digits. -/
def dg (c i : Nat) : Nat := c / 8 ^ (4 - i) % 8
def mk5 (a b c d e : Nat) : Nat := (((a * 8 + b) * 8 + c) * 8 + d) * 8 + e
/-- The product: first q, then p. -/
def mulC (p q : Nat) : Nat := mk5 (dg p (dg q 0)) (dg p (dg q 1)) (dg p (dg q 2)) (dg p (dg q 3)) (dg p (dg q 4))
def cellsP (c : Nat) : Array Value := #[.int .i64 (dg c 0 : Nat), .int .i64 (dg c 1 : Nat), .int .i64 (dg c 2 : Nat), .int .i64 (dg c 3 : Nat), .int .i64 (dg c 4 : Nat)]
/-- All digits are places. -/
def okC (c : Nat) : Prop := ∀ i, i < 5 → dg c i < 5

theorem cellsP_get (c i : Nat) (h : i < 5) : (cellsP c)[i]? = some (.int .i64 (dg c i : Nat)) := by
  have : i = 0 ∨ i = 1 ∨ i = 2 ∨ i = 3 ∨ i = 4 := by omega
  rcases this with rfl | rfl | rfl | rfl | rfl <;> rfl

theorem dg_lt (c i : Nat) : dg c i < 8 := Nat.mod_lt _ (by omega)
theorem dg_mk5 (a b c d e : Nat) (ha : a < 8) (hb : b < 8) (hc : c < 8) (hd : d < 8) (he : e < 8) :
    dg (mk5 a b c d e) 0 = a ∧ dg (mk5 a b c d e) 1 = b ∧ dg (mk5 a b c d e) 2 = c ∧ dg (mk5 a b c d e) 3 = d ∧ dg (mk5 a b c d e) 4 = e := by
  unfold dg mk5
  simp only [Nat.sub_zero, Nat.reduceSub, Nat.reducePow]
  refine ⟨?_, ?_, ?_, ?_, ?_⟩ <;> omega

theorem dg_mulC (p q i : Nat) (h : i < 5) : dg (mulC p q) i = dg p (dg q i) := by
  obtain ⟨h0, h1, h2, h3, h4⟩ := dg_mk5 (dg p (dg q 0)) (dg p (dg q 1)) (dg p (dg q 2)) (dg p (dg q 3)) (dg p (dg q 4)) (dg_lt _ _) (dg_lt _ _) (dg_lt _ _) (dg_lt _ _) (dg_lt _ _)
  have : i = 0 ∨ i = 1 ∨ i = 2 ∨ i = 3 ∨ i = 4 := by omega
  rcases this with rfl | rfl | rfl | rfl | rfl
  · exact h0
  · exact h1
  · exact h2
  · exact h3
  · exact h4

theorem okC_mulC {p q : Nat} (hp : okC p) (hq : okC q) : okC (mulC p q) := fun i hi => by
  rw [dg_mulC p q i hi]; exact hp _ (hq i hi)

end Go.Proofs.Ytnejjgolmikplaa
