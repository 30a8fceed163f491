/- traces.read at any argument: plain words for what it answers. -/
import Derived.Test.YtnejjgolmikplaaReadErr
namespace Go.Proofs.Ytnejjgolmikplaa
open Go.RowKit Go.Proofs

/-- What traces.read makes of generators: none (they are bad), too great a group, or a group: degree, elements, prime. -/
inductive Grp where
  | bad
  | big
  | ok (d : Nat) (els : List Nat) (q : Nat)

def deg (gs : List (List Int)) : Nat := (gs.getD 0 []).length

def okGens (gs : List (List Int)) : Bool := decide (1 ≤ gs.length) && decide (gs.length ≤ 4) && decide (1 ≤ deg gs) && decide (deg gs ≤ 5) && gs.all fun l => isPermB l (deg gs)

/-- The orders of the classes' first elements. -/
def ordsOf (els : List Nat) : List Nat := (clsOf els).2.map fun l => (ordF els (l.getD 0 0) 30 (l.getD 0 0) 1).getD 0
def primeOf (d : Nat) (els : List Nat) : Nat := (chooseF (ordsOf els) 900 (max els.length d + 1)).getD 0

def grpOf (gs : List (List Int)) : Grp :=
  if okGens gs then
    match bfsF (gs.map permCode) 30 0 [idC] with
    | some (some E) => .ok (deg gs) (sortN E) (primeOf (deg gs) (sortN E))
    | _ => .big
  else .bad

theorem bfsIn_len (e : Nat) : ∀ (by_ E : List Nat), E.length ≤ (bfsIn e by_ E).length
  | [], E => Nat.le_refl _
  | p :: by_, E => by
    simp only [bfsIn]
    split
    · exact bfsIn_len e by_ E
    · have := bfsIn_len e by_ (E ++ [mulC p e]); simp at this; omega

theorem bfsF_ends (by_ : List Nat) : ∀ (m k : Nat) (E : List Nat), 25 ≤ m + k → E.length ≤ 24 → k ≤ E.length → ∃ fin, bfsF by_ m k E = some fin
  | 0, k, E, h, hE, hk => by omega
  | m + 1, k, E, h, hE, hk => by
    simp only [bfsF]
    split
    · have := bfsIn_len (E.getD k 0) by_ E
      split
      · exact ⟨none, rfl⟩
      · exact bfsF_ends by_ m (k + 1) _ (by omega) (by omega) (by omega)
    · exact ⟨some E, rfl⟩

/-- The plain law that all groups read are good. -/
def AllGood : Prop := ∀ gs : List (List Int), okGens gs = true → (∀ c ∈ gs.map permCode, c < 32768 ∧ okC c) ∧ ∀ E, bfsF (gs.map permCode) 30 0 [idC] = some (some E) → GoodG (deg gs) (sortN E) (primeOf (deg gs) (sortN E))

/-- What a call of traces.read leaves. -/
def ReadAll (w : World) (g : Grp) (e : Ending) (w' : World) : Prop :=
  Below w.heap.size w w' ∧ match g with
  | .bad => e = .returned (.tuple #[.pointer none, .int .i64 2])
  | .big => e = .returned (.tuple #[.pointer none, .int .i64 6])
  | .ok d els q => GoodG d els q ∧ d ≤ 5 ∧ 1 ≤ d ∧ ∃ gb, w.heap.size ≤ gb ∧ e = .returned (.tuple #[.pointer (some ⟨gb, 0, none⟩), .int .i64 0]) ∧ GrpAt w' gb d els q

theorem read_all (HG : AllGood) (ga : Option Addr) (gc : Nat) (gs : List (List Int)) (w : World) (hrows : RowsIn w ga gs) (hl : gs.length ≤ 1000) (hsm : ∀ j, j < gs.length → (gs.getD j []).length ≤ 1000) :
    Calls Try.prog 15 #[.slice ga gs.length gc] w fun e w' => ReadAll w (grpOf gs) e w' := by
  by_cases h : okGens gs = true
  · obtain ⟨hc, hgood⟩ := HG gs h
    have h' := h
    simp only [okGens, Bool.and_eq_true, decide_eq_true_eq, List.all_eq_true] at h'
    obtain ⟨⟨⟨⟨h1, h2⟩, h3⟩, h4⟩, h5⟩ := h'
    obtain ⟨fin, hfin⟩ := bfsF_ends (gs.map permCode) 30 0 [idC] (by omega) (by simp) (by simp)
    have hgo : ∀ E, fin = some E → GoodG (gs.getD 0 []).length (sortN E) (primeOf (deg gs) (sortN E)) := fun E hE => hgood E (by rw [hfin, hE])
    have hall : ∀ j, j < gs.length → isPermB (gs.getD j []) (gs.getD 0 []).length = true := fun j hj => by
      have : gs.getD j [] ∈ gs := by rw [List.getD_eq_getElem?_getD, List.getElem?_eq_getElem hj]; exact List.getElem_mem hj
      exact h5 _ this
    unfold grpOf
    rw [if_pos h, hfin]
    cases fin with
    | none =>
      refine (read_ok ga gc gs w hrows h1 h2 h3 h4 hall hsm 30 (by omega) none hfin hc 0 (fun E hE => by cases hE)).mono ?_
      rintro e w' ⟨hb, he⟩
      exact ⟨hb, he⟩
    | some E =>
      refine (read_ok ga gc gs w hrows h1 h2 h3 h4 hall hsm 30 (by omega) (some E) hfin hc (primeOf (deg gs) (sortN E)) (fun E' hE => by injection hE with hE; subst hE; exact hgo E rfl)).mono ?_
      rintro e w' ⟨hb, gb, hgb, he, hg⟩
      exact ⟨hb, hgo E rfl, h4, h3, gb, hgb, he, hg⟩
  · unfold grpOf
    rw [if_neg h]
    have hfin : ∀ e w', (e = Ending.returned (.tuple #[.pointer none, .int .i64 2]) ∧ Below w.heap.size w w') → ReadAll w .bad e w' := fun e w' ⟨h1, h2⟩ => ⟨h2, h1⟩
    by_cases hn : gs.length < 1 ∨ 4 < gs.length
    · exact (read_len ga gs.length gc w hl hn).mono hfin
    by_cases hd : (gs.getD 0 []).length < 1 ∨ 5 < (gs.getD 0 []).length
    · exact (read_deg ga gc gs w hrows (by omega) (by omega) (hsm 0 (by omega)) hd).mono hfin
    refine (read_bad ga gc gs w hrows (by omega) (by omega) (by omega) (by omega) hsm ?_).mono hfin
    apply Classical.byContradiction
    intro hno
    apply h
    simp only [okGens, Bool.and_eq_true, decide_eq_true_eq, List.all_eq_true]
    refine ⟨⟨⟨⟨by omega, by omega⟩, by unfold deg; omega⟩, by unfold deg; omega⟩, fun l hl' => ?_⟩
    obtain ⟨j, hj, rfl⟩ := List.mem_iff_getElem.1 hl'
    apply Classical.byContradiction
    intro hf
    apply hno
    refine ⟨j, hj, ?_⟩
    have hf' : isPermB gs[j] (deg gs) = false := by simpa using hf
    rw [show gs.getD j [] = gs[j] from by rw [List.getD_eq_getElem?_getD, List.getElem?_eq_getElem hj]; rfl]
    exact hf'

end Go.Proofs.Ytnejjgolmikplaa
