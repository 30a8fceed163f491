/- What the table of a group of the catalogue is: so that the kernel can reckon it. -/
import Derived.Test.YtnejjgolmikplaaTable
import Derived.Test.YtnejjgolmikplaaCatAll
namespace Go.Proofs.Ytnejjgolmikplaa
open Go.RowKit Go.Proofs

def constL (r : Rec) (c : Nat) : List (List Nat) := r.cls.map fun D => constRow r.els r.cl r.cls (r.cls.getD c []) D
def spacesL (q n : Nat) (mats : Nat → List (List Nat)) : Nat → Nat → List (List (List Nat)) → Option (List (List (List Nat)))
  | 0, _, sp => some sp
  | k + 1, c, sp => if okMatB n (mats c) then (match splitsF q n (mats c) sp [] with
    | none => none
    | some next => spacesL q n mats k (c + 1) next) else none
def backL (r : Rec) : List Int := r.cls.map fun l => r.cl.getD (inv r.els (l.getD 0 0)) 0
def tabL (r : Rec) : Option (List (List Nat)) :=
  match spacesL r.q r.cls.length (constL r) r.cls.length 0 [unitF r.cls.length] with
  | none => none
  | some sp => match funsF r.q r.cls.length r.els.length r.cls (backL r) sp [] with
    | none => none
    | some out => if (Nat.blt 0 out.length && Nat.ble out.length 24) && (nodupB out && out.all (okVecB r.cls.length)) then some out else none

theorem spacesL_eq {r : Rec} (g : GoodR r) (q n : Nat) : ∀ k c sp, spacesF q n r.els k c sp = spacesL q n (constL r) k c sp
  | 0, _, _ => rfl
  | k + 1, c, sp => by
    have e : constF r.els c = constL r c := by unfold constF constL; rw [g.cls]
    simp only [spacesF, spacesL, e]
    split
    · cases splitsF q n (constL r c) sp [] with
      | none => rfl
      | some next => exact spacesL_eq g q n k (c + 1) next
    · rfl

theorem tabL_eq {r : Rec} (g : GoodR r) : tableF r.els r.q = tabL r := by
  have e : backOf r.els r.cl r.cls = backL r := rfl
  unfold tableF tabRaw tabL
  simp only [g.cls, spacesL_eq g, e]
  rfl

/-- Rows in order, as the kernel can reckon it. -/
def insV (x : List Nat) : List (List Nat) → List (List Nat)
  | [] => [x]
  | y :: l => if ltL y x then y :: insV x l else x :: y :: l
def sortVS : List (List Nat) → List (List Nat)
  | [] => []
  | x :: l => insV x (sortVS l)
theorem insV_perm (x : List Nat) : ∀ l, (insV x l).Perm (x :: l)
  | [] => List.Perm.refl _
  | y :: l => by
    unfold insV
    split
    · exact ((insV_perm x l).cons y).trans (List.Perm.swap x y l)
    · exact List.Perm.refl _
theorem ltL_asymm {x y : List Nat} (h : ltL x y = true) : ltL y x = false := by
  cases h2 : ltL y x with
  | false => rfl
  | true => have := ltL_trans x y x h h2; rw [ltL_irrefl] at this; cases this
theorem insV_sorted (x : List Nat) : ∀ l, l.Pairwise (fun a b => (!ltL b a) = true) → (insV x l).Pairwise (fun a b => (!ltL b a) = true)
  | [], _ => by simp [insV]
  | y :: l, h => by
    unfold insV
    rw [List.pairwise_cons] at h
    split
    · rename_i hyx
      refine List.pairwise_cons.2 ⟨fun a ha => ?_, insV_sorted x l h.2⟩
      rcases List.mem_cons.1 ((insV_perm x l).mem_iff.1 ha) with rfl | ha
      · rw [ltL_asymm hyx]; rfl
      · exact h.1 a ha
    · rename_i hyx
      have hyx' : ltL y x = false := by simpa using hyx
      refine List.pairwise_cons.2 ⟨fun a ha => ?_, List.pairwise_cons.2 h⟩
      rcases List.mem_cons.1 ha with rfl | ha
      · rw [hyx']; rfl
      · have h1 := h.1 a ha
        have h1' : ltL a y = false := by simpa using h1
        rw [ltL_ntrans a y x h1' hyx']; rfl
theorem sortVS_perm : ∀ l, (sortVS l).Perm l
  | [] => List.Perm.refl _
  | x :: l => (insV_perm x _).trans ((sortVS_perm l).cons x)
theorem sortVS_sorted : ∀ l, (sortVS l).Pairwise (fun a b => (!ltL b a) = true)
  | [] => List.Pairwise.nil
  | x :: l => insV_sorted x _ (sortVS_sorted l)
theorem sortV_eq (l : List (List Nat)) : sortV l = sortVS l := by
  unfold sortV
  refine List.Perm.eq_of_pairwise (le := fun a b => (!ltL b a) = true) ?_ (List.pairwise_mergeSort ?_ ?_ l) (sortVS_sorted l) ((List.mergeSort_perm l _).trans (sortVS_perm l).symm)
  · intro a b _ _ h1 h2
    exact ltL_eq a b (by simpa using h2) (by simpa using h1)
  · intro a b c h1 h2
    have h1' : ltL b a = false := by simpa using h1
    have h2' : ltL c b = false := by simpa using h2
    rw [ltL_ntrans c b a h2' h1']; rfl
  · intro a b
    cases h : ltL b a with
    | false => rfl
    | true => rw [ltL_asymm h]; rfl

/-- All that the walk of the table asks of a group. -/
structure TabOK (els : List Nat) (q : Nat) (out : List (List Nat)) : Prop where
  cls : ClsOK els
  back : ∀ j, j < (clsOf els).2.length → 0 ≤ (backOf els (clsOf els).1 (clsOf els).2).getD j 0 ∧ (backOf els (clsOf els).1 (clsOf els).2).getD j 0 < ((clsOf els).2.length : Int)
  q1 : 1 ≤ q
  q2 : q ≤ 1000
  raw : ∃ raw, tableF els q = some raw ∧ sortV raw = out
  len : out.length ≤ 24

def clsB (r : Rec) : Bool :=
  ((Nat.ble r.cls.length 24 && Nat.blt 0 r.cls.length) && (r.cls.all fun l => (Nat.blt 0 l.length && Nat.ble l.length 24) && l.all fun x => Nat.blt x r.els.length)) &&
  ((Nat.ble r.els.length r.cl.length && r.cl.all fun x => decide (0 ≤ x ∧ x < (r.cls.length : Int))) && ((backL r).all (fun x => decide (0 ≤ x ∧ x < (r.cls.length : Int))) && (Nat.ble 1 r.q && Nat.ble r.q 1000)))
def tabB (r : Rec) (out : List (List Nat)) : Bool := match tabL r with
  | none => false
  | some raw => decide (sortVS raw = out)

theorem tab_of {r : Rec} {out : List (List Nat)} (g : GoodR r) (hc : clsB r = true) (ht : tabB r out = true) (hl : out.length ≤ 24) : TabOK r.els r.q out := by
  simp only [clsB, Bool.and_eq_true, List.all_eq_true, Nat.blt_eq, decide_eq_true_eq] at hc
  obtain ⟨⟨⟨h1, h2⟩, h3⟩, ⟨h4, h5⟩, h6, h7, h8⟩ := hc
  have hmem : ∀ j, j < r.cls.length → r.cls.getD j [] ∈ r.cls := fun j hj => getD_memL r.cls j hj
  refine ⟨⟨fun i hi => ?_, fun j hj i hi => ?_, fun j hj => ?_, ?_, ?_⟩, fun j hj => ?_, Nat.le_of_ble_eq_true h7, Nat.le_of_ble_eq_true h8, ?_, hl⟩
  · rw [g.cls]
    have hi' : i < r.cl.length := by have := Nat.le_of_ble_eq_true h4; omega
    have : r.cl.getD i 0 ∈ r.cl := by rw [List.getD_eq_getElem?_getD, List.getElem?_eq_getElem hi']; exact List.getElem_mem hi'
    exact h5 _ this
  · rw [g.cls] at hj hi ⊢
    have hx := h3 _ (hmem j hj)
    have : (r.cls.getD j []).getD i 0 ∈ r.cls.getD j [] := by
      rw [List.getD_eq_getElem?_getD (l := r.cls.getD j []), List.getElem?_eq_getElem hi]; exact List.getElem_mem hi
    exact hx.2 _ this
  · rw [g.cls] at hj ⊢
    have hx := h3 _ (hmem j hj)
    exact ⟨hx.1.1, Nat.le_of_ble_eq_true hx.1.2⟩
  · rw [g.cls]; exact Nat.le_of_ble_eq_true h1
  · rw [g.cls]; exact h2
  · have e : backOf r.els (clsOf r.els).1 (clsOf r.els).2 = backL r := by rw [g.cls]; rfl
    rw [e]
    rw [g.cls] at hj ⊢
    have hj' : j < (backL r).length := by simp [backL]; exact hj
    have : (backL r).getD j 0 ∈ backL r := by rw [List.getD_eq_getElem?_getD, List.getElem?_eq_getElem hj']; exact List.getElem_mem hj'
    exact h6 _ this
  · unfold tabB at ht
    cases hr : tabL r with
    | none => rw [hr] at ht; cases ht
    | some raw =>
      rw [hr] at ht
      exact ⟨raw, by rw [tabL_eq g, hr], by rw [sortV_eq]; simpa using ht⟩

end Go.Proofs.Ytnejjgolmikplaa
