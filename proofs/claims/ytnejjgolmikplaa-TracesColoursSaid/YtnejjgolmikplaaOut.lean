/- Slices of slices of ints that a loop builds by append. -/
import Derived.Test.YtnejjgolmikplaaReadEnd
namespace Go.Proofs.Ytnejjgolmikplaa
open Go.RowKit Go.Proofs

/-- ov is a slice of slices of the call's own, laid from block B on; its rows hold rows. -/
def OutAt (w : World) (B TS : Nat) (ov : Value) (rows : List (List Nat)) : Prop :=
  ∃ vals, w.ownsRow B TS 1 ov rows.length vals ∧ RowsOwn w B vals rows (fun k => ov.ownBlock = some k)

theorem OutAt.nil (w : World) (B TS : Nat) : OutAt w B TS (.slice none 0 0) [] :=
  ⟨[], World.ownsRow_nil _ _ _ _, rfl, fun j hj => absurd hj (by simp)⟩

theorem OutAt.below {w w' : World} {B TS : Nat} {ov : Value} {rows : List (List Nat)} (h : OutAt w B TS ov rows) (hb : Below w.heap.size w w') : OutAt w' B TS ov rows := by
  obtain ⟨vals, h1, h2⟩ := h
  exact ⟨vals, ownsRow_below h1 hb, h2.keep hb.size (fun k _ hk _ => hb.block k hk) (fun _ _ e => e)⟩

/-- A row of ints of the call's own. -/
theorem row_of {w : World} {B T n : Nat} {la : Option Addr} {lc : Nat} {l : List Nat} (hown : w.ownsRow B T 1 (.slice la n lc) n (iv (ints l))) (hn : n = l.length) (hp : 0 < l.length) :
    ∃ rb, la = some ⟨rb, 0, none⟩ ∧ B ≤ rb ∧ rb < w.heap.size ∧ ∀ i, i < l.length → w.cell? ⟨rb, i, none⟩ = some (.int .i64 (l.getD i 0 : Nat)) := by
  obtain ⟨cg, ccap, hcv, hcB, hcl⟩ := hown.form (by omega)
  obtain ⟨rfl, rfl⟩ : la = some ⟨cg, 0, none⟩ ∧ lc = ccap := by simpa using hcv
  refine ⟨cg, rfl, hcB, hcl, fun i hi => ?_⟩
  rw [hown.cellAt i (by omega), iv_get _ _ (by rw [ints_length]; exact hi), ints_getD]

theorem OutAt.push {W w' : World} {B TS g cap lc : Nat} {ov : Value} {rows : List (List Nat)} {vals : List Value} {la : Option Addr} {l : List Nat} (hrows : RowsOwn W B vals rows (fun k => ov.ownBlock = some k))
    (hl : 0 < l.length → ∃ rb, la = some ⟨rb, 0, none⟩ ∧ B ≤ rb ∧ rb < W.heap.size ∧ ¬ ov.ownBlock = some rb ∧ ∀ i, i < l.length → W.cell? ⟨rb, i, none⟩ = some (.int .i64 (l.getD i 0 : Nat)))
    (hown' : w'.ownsRow B TS 1 (.slice (some ⟨g, 0, none⟩) (rows.length + 1) cap) (rows.length + 1) (vals ++ [.slice la l.length lc])) (hgrow : W.grownBy w' ov.ownBlock) (hat : ov.ownBlock = some g ∨ W.heap.size ≤ g) :
    OutAt w' B TS (.slice (some ⟨g, 0, none⟩) (rows.length + 1) cap) (rows ++ [l]) := by
  refine ⟨vals ++ [.slice la l.length lc], by rw [show (rows ++ [l]).length = rows.length + 1 from by simp]; exact hown', ?_⟩
  refine RowsOwn.snoc (RowsOwn.keep hrows hgrow.size (fun k _ hk hbad => hgrow.block k hk (fun e => hbad e.symm)) ?_) _ _ _ ?_
  · intro rb hrb e
    have e' : g = rb := by simpa [Value.ownBlock] using e
    rcases hat with h | h
    · rw [← e']; exact h
    · omega
  · intro hp
    obtain ⟨rb, rfl, h1, h2, h3, h4⟩ := hl hp
    refine ⟨rb, rfl, h1, Nat.lt_of_lt_of_le h2 hgrow.size, ?_, fun i hi => ?_⟩
    · intro e
      have e' : g = rb := by simpa [Value.ownBlock] using e
      rcases hat with h | h
      · exact h3 (by rw [← e']; exact h)
      · omega
    · rw [World.cell?_of_block (a := ⟨rb, i, none⟩) (hgrow.block rb h2 (fun e => h3 e.symm))]
      exact h4 i hi

/-- .. as a table. -/
theorem OutAt.rowsIn {w : World} {B TS : Nat} {ov : Value} {rows : List (List Nat)} (h : OutAt w B TS ov rows) (hB : 0 < B) : ∃ a c, ov = .slice a rows.length c ∧ RowsIn w a (rows.map ints) := by
  obtain ⟨vals, h1, h2⟩ := h
  obtain ⟨a, c, rfl, -, -⟩ := ownsRow_slice h1
  exact ⟨a, c, rfl, rowsIn_of (gb := 0) h1 (h2.keep (Nat.le_refl _) (fun _ _ _ _ => rfl) (fun _ _ e => e.elim)) rfl hB (fun _ _ _ => rfl) (Nat.le_refl _)⟩

end Go.Proofs.Ytnejjgolmikplaa
