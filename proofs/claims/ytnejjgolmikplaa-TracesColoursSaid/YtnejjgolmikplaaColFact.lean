/- What holds of the cycles of each group of the catalogue. -/
import Derived.Test.YtnejjgolmikplaaCatAll
import Derived.Test.YtnejjgolmikplaaBouquets
import Derived.Test.YtnejjgolmikplaaElements
namespace Go.Proofs.Ytnejjgolmikplaa
open Go.RowKit Go.Proofs

/-- The law's way along one cycle, and over all places. -/
def lawIn (p : List Nat) : Nat → Nat → Nat → Option Nat
  | 0, _, _ => none
  | m + 1, s, j => if j < p.length ∧ s / 2 ^ j % 2 = 0 then lawIn p m (s ||| 2 ^ j) (p.getD j 0) else some s
def lawOut (p : List Nat) : Nat → Nat → Nat → Nat → Option Nat
  | 0, _, _, n => some n
  | m + 1, i, s, n => if s / 2 ^ i % 2 = 0 then (match lawIn p 9 s i with
      | none => none
      | some s' => lawOut p m (i + 1) s' (n + 1)) else lawOut p m (i + 1) s n

def colB (r : Rec) : Bool := (r.els.all fun c => decide (cycOut c r.d 0 0 0 = some (cycN r.d c)) && (decide (lawOut (rowOf r.d c) r.d 0 0 0 = some (cycN r.d c)) && (rowOf r.d c).all fun x => Nat.blt x r.d)) &&
  (allTo (fun k => Nat.beq (powSum r.d r.els k % r.els.length) 0) 9 && Nat.ble r.d 5)

set_option maxRecDepth 1000000 in
set_option maxHeartbeats 0 in
theorem col_ok : recsN.all colB = true := by decide +kernel

structure ColOK (r : Rec) : Prop where
  cyc : CycEnd r.d r.els
  law : ∀ c ∈ r.els, lawOut (rowOf r.d c) r.d 0 0 0 = some (cycN r.d c)
  row : ∀ c ∈ r.els, ∀ x ∈ rowOf r.d c, x < r.d
  div : ∀ k, k ≤ 8 → powSum r.d r.els k % r.els.length = 0
  d5 : r.d ≤ 5

theorem col_of {r : Rec} (h : r ∈ recsN) : ColOK r := by
  have := List.all_eq_true.1 col_ok r h
  simp only [colB, Bool.and_eq_true, List.all_eq_true, decide_eq_true_eq] at this
  obtain ⟨h1, h2, h3⟩ := this
  exact ⟨fun c hc => (h1 c hc).1, fun c hc => (h1 c hc).2.1, fun c hc x hx => by simpa [Nat.blt_eq] using (h1 c hc).2.2 x hx, fun k hk => Nat.eq_of_beq_eq_true (allTo_get h2 k (by omega)), Nat.le_of_ble_eq_true h3⟩

end Go.Proofs.Ytnejjgolmikplaa
