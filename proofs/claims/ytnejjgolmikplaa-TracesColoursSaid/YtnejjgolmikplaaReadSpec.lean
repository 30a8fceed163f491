/- What traces.read computes, in lists; a group as it lies in memory behind it. -/
import Derived.Test.YtnejjgolmikplaaSort
namespace Go.Proofs.Ytnejjgolmikplaa
open Go.RowKit Go.Proofs

/-- The code of a permutation given by its first digits. -/
def permCode (l : List Int) : Nat :=
  mk5 (if 0 < l.length then (l.getD 0 0).toNat else 0) (if 1 < l.length then (l.getD 1 0).toNat else 1) (if 2 < l.length then (l.getD 2 0).toNat else 2) (if 3 < l.length then (l.getD 3 0).toNat else 3) (if 4 < l.length then (l.getD 4 0).toNat else 4)

/-- The products of the generators with one element, those that are new. -/
def bfsIn (e : Nat) : List Nat → List Nat → List Nat
  | [], E => E
  | p :: by_, E => if mulC p e ∈ E then bfsIn e by_ E else bfsIn e by_ (E ++ [mulC p e])

/-- All products, or none: there are more than 24. -/
def bfsF (by_ : List Nat) : Nat → Nat → List Nat → Option (Option (List Nat))
  | 0, _, _ => none
  | m + 1, k, E => if k < E.length then (if 24 < (bfsIn (E.getD k 0) by_ E).length then some none else bfsF by_ m (k + 1) (bfsIn (E.getD k 0) by_ E)) else some (some E)

def idC : Nat := mk5 0 1 2 3 4

/-- The cells of codes, one after the other. -/
def flat (E : List Nat) : List Value := E.flatMap fun c => (cellsP c).toList

theorem flat_length (E : List Nat) : (flat E).length = E.length * 5 := by
  induction E with
  | nil => rfl
  | cons c E ih => simp only [flat, List.flatMap_cons, List.length_append] at ih ⊢; rw [ih]; simp [cellsP]; omega

theorem flat_snoc (E : List Nat) (c : Nat) : flat (E ++ [c]) = flat E ++ (cellsP c).toList := by simp [flat]

theorem flat_get (E : List Nat) : ∀ (k i : Nat), k < E.length → i < 5 → (flat E)[k * 5 + i]? = some (.int .i64 (dg (E.getD k 0) i : Nat)) := by
  induction E with
  | nil => intro k i h; simp at h
  | cons c E ih =>
    intro k i hk hi
    have e : flat (c :: E) = (cellsP c).toList ++ flat E := by simp [flat]
    rw [e]
    cases k with
    | zero =>
      rw [List.getElem?_append_left (by simp [cellsP]; omega)]
      have := cellsP_get c i hi
      simpa using this
    | succ k =>
      rw [List.getElem?_append_right (by simp [cellsP]; omega)]
      have := ih k i (by simpa using hk) hi
      rw [show (k + 1) * 5 + i - (cellsP c).toList.length = k * 5 + i from by simp [cellsP]; omega]
      simpa using this

/-- A group in memory, whole. -/
structure GrpAt (w : World) (gb : Nat) (d : Nat) (els : List Nat) (q : Nat) : Prop where
  g : ∃ eb mb cap, GAt w gb eb mb cap els
  deg : w.cell? ⟨gb, 0, none⟩ = some (.int .i64 d)
  cls : ∃ a c, w.cell? ⟨gb, 3, none⟩ = some (.slice a (clsOf els).2.length c) ∧ RowsIn w a ((clsOf els).2.map ints)
  cl : ∃ kb, kb < w.heap.size ∧ w.cell? ⟨gb, 4, none⟩ = some (.slice (some ⟨kb, 0, none⟩) els.length els.length) ∧ ∀ j, j < els.length → w.cell? ⟨kb, j, none⟩ = some (.int .i64 ((clsOf els).1.getD j 0))
  back : ∃ a c, w.cell? ⟨gb, 5, none⟩ = some (.slice a (clsOf els).2.length c) ∧ IntsIn w a (backOf els (clsOf els).1 (clsOf els).2)
  prime : w.cell? ⟨gb, 6, none⟩ = some (.int .i64 q)
  lt : gb < w.heap.size

theorem GrpAt.below {w w' : World} {gb d q : Nat} {els : List Nat} (h : GrpAt w gb d els q) (hb : Below w.heap.size w w') : GrpAt w' gb d els q := by
  obtain ⟨⟨eb, mb, cap, hg⟩, hd, ⟨a, c, h3, h3'⟩, ⟨kb, hkl, h4, h4'⟩, ⟨a5, c5, h5, h5'⟩, h6, hl⟩ := h
  exact ⟨⟨eb, mb, cap, hg.below hb⟩, below_cell hb hl hd, ⟨a, c, below_cell hb hl h3, h3'.below hb⟩, ⟨kb, Nat.lt_of_lt_of_le hkl hb.size, below_cell hb hl h4, fun j hj => below_cell (p := ⟨kb, j, none⟩) hb hkl (h4' j hj)⟩, ⟨a5, c5, below_cell hb hl h5, h5'.below hb⟩, below_cell hb hl h6, Nat.lt_of_lt_of_le hl hb.size⟩

end Go.Proofs.Ytnejjgolmikplaa
