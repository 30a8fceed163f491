/- What (*group).kernel computes, in lists; the cloning of a slice of vectors. -/
import Derived.Test.YtnejjgolmikplaaIdx
namespace Go.Proofs.Ytnejjgolmikplaa
open Go.RowKit Go.Proofs

/-- Vectors of n numbers that are not great. -/
structure VecsOK (n : Nat) (l : List (List Nat)) : Prop where
  len : ∀ j, j < l.length → (l.getD j default).length = n
  le : ∀ j, j < l.length → ∀ i, (l.getD j default).getD i 0 ≤ 1000

def swapL (l : List (List Nat)) (i j : Nat) : List (List Nat) := (l.set i (l.getD j default)).set j (l.getD i default)

def elimF (q c at_ by_ : Nat) : Nat → Nat → List (List Nat) → List (List Nat) → List (List Nat) × List (List Nat)
  | 0, _, b, im => (b, im)
  | m + 1, i, b, im => elimF q c at_ by_ m (i + 1) (b.set i (plusF q (b.getD i default) (-(((im.getD i default).getD c 0 : Nat) : Int) * (by_ : Int)) (b.getD at_ default)))
      (im.set i (plusF q (im.getD i default) (-(((im.getD i default).getD c 0 : Nat) : Int) * (by_ : Int)) (im.getD at_ default)))

def kerF (q : Nat) : Nat → Nat → Nat → List (List Nat) → List (List Nat) → Option (List (List Nat))
  | 0, _, at_, b, _ => some (b.drop at_)
  | k + 1, c, at_, b, im => match firstNZ c (im.drop at_) 0 with
    | none => kerF q k (c + 1) at_ b im
    | some j => match overF q ((((swapL im at_ (at_ + j)).getD at_ default).getD c 0 : Nat) : Int) 1000 1 with
      | none => none
      | some by_ => if at_ + 1 = b.length then some ((elimF q c at_ by_ (b.length - (at_ + 1)) (at_ + 1) (swapL b at_ (at_ + j)) (swapL im at_ (at_ + j))).1.drop (at_ + 1))
        else kerF q k (c + 1) (at_ + 1) (elimF q c at_ by_ (b.length - (at_ + 1)) (at_ + 1) (swapL b at_ (at_ + j)) (swapL im at_ (at_ + j))).1 (elimF q c at_ by_ (b.length - (at_ + 1)) (at_ + 1) (swapL b at_ (at_ + j)) (swapL im at_ (at_ + j))).2

theorem getD_set_list {α : Type} [Inhabited α] (l : List α) (i j : Nat) (x : α) : (l.set i x).getD j default = if i = j ∧ i < l.length then x else l.getD j default := by
  simp only [List.getD_eq_getElem?_getD, List.getElem?_set]
  by_cases h : i = j
  · subst h
    by_cases h2 : i < l.length
    · simp [h2]
    · simp [h2]
  · simp [h]

theorem VecsOK.set {n i : Nat} {l : List (List Nat)} {v : List Nat} (h : VecsOK n l) (h1 : v.length = n) (h2 : ∀ i, v.getD i 0 ≤ 1000) : VecsOK n (l.set i v) := by
  refine ⟨fun j hj => ?_, fun j hj => ?_⟩
  · rw [List.length_set] at hj
    rw [getD_set_list]
    split
    · exact h1
    · exact h.len j hj
  · rw [List.length_set] at hj
    rw [getD_set_list]
    split
    · exact h2
    · exact h.le j hj

theorem swapL_length (l : List (List Nat)) (i j : Nat) : (swapL l i j).length = l.length := by simp [swapL]
theorem VecsOK.swap {n i j : Nat} {l : List (List Nat)} (h : VecsOK n l) (hi : i < l.length) (hj : j < l.length) : VecsOK n (swapL l i j) :=
  (h.set (h.len j hj) (h.le j hj)).set (h.len i hi) (h.le i hi)

theorem plusF_le (q : Nat) (v : List Nat) (k : Int) (w : List Nat) (hq : 1 ≤ q) (hq2 : q ≤ 1000) (i : Nat) : (plusF q v k w).getD i 0 ≤ 1000 := by
  by_cases h : i < v.length
  · rw [plusF_get _ _ _ _ _ h]
    have := Int.emod_lt_of_pos ((v.getD i 0 : Int) + k * (w.getD i 0 : Int)) (b := (q : Int)) (by omega)
    omega
  · rw [List.getD_eq_getElem?_getD, List.getElem?_eq_none (by rw [plusF_length]; omega)]
    exact Nat.zero_le _

theorem firstNZ_lt (c : Nat) : ∀ (l : List (List Nat)) (i j : Nat), firstNZ c l i = some j → i ≤ j ∧ j < i + l.length ∧ (l.getD (j - i) default).getD c 0 ≠ 0
  | [], i, j, h => by simp [firstNZ] at h
  | r :: l, i, j, h => by
    simp only [firstNZ] at h
    by_cases h0 : r.getD c 0 = 0
    · rw [if_pos h0] at h
      obtain ⟨h1, h2, h3⟩ := firstNZ_lt c l (i + 1) j h
      refine ⟨by omega, by simp; omega, ?_⟩
      rw [show j - i = (j - (i + 1)) + 1 from by omega]
      exact h3
    · rw [if_neg h0] at h
      injection h with h
      subst h
      refine ⟨Nat.le_refl _, by simp, ?_⟩
      rw [Nat.sub_self]
      exact h0

/-- The values of a slice's cells. -/
def cellsOf (w : World) (b o n : Nat) : List Value := (List.range n).map fun j => (w.cell? ⟨b, o + j, none⟩).getD default

theorem cellsOf_length (w : World) (b o n : Nat) : (cellsOf w b o n).length = n := by simp [cellsOf]
theorem cellsOf_get (w : World) (b o n j : Nat) (h : j < n) (u : Value) (hu : w.cell? ⟨b, o + j, none⟩ = some u) : (cellsOf w b o n)[j]? = some u := by
  unfold cellsOf
  rw [List.getElem?_map, List.getElem?_range h]
  simp [hu]

theorem szV : ∀ w, (Go.sizeOf 51).run Try.prog w = .ok 1 w := fun _ => by kernel_rfl

theorem clone_vecs (v : Value) (l : List (List Nat)) (w : World) (bad : Nat → Prop) (hv : HRows w bad v l) (hp : 0 < l.length) (hl : l.length ≤ 1000) :
    Calls Try.prog 81 #[v] w fun e w' => ∃ g cap vals, e = .returned (.slice (some ⟨g, 0, none⟩) l.length cap) ∧ w.heap.size ≤ g ∧ OwnV HVec w' w.heap.size 51 (fun k => bad k ∨ w.heap.size ≤ k) (.slice (some ⟨g, 0, none⟩) l.length cap) vals l ∧ Below w.heap.size w w' := by
  obtain ⟨a, c, rfl, h⟩ := hv
  obtain ⟨b, o, rfl, hb, -, hc⟩ := h hp
  obtain ⟨i51, hi51⟩ := info_parts (by kernel_rfl : (Try.prog.info? 51).map (fun i => (i.zero, i.size, i.bytes)) = some (some (.slice none 0 0), 1, 24))
  have hclone := AnyE.slices_Clone Try.laysCloneW i51 (.slice none 0 0) 1 24 hi51.1 hi51.2.1 hi51.2.2.1 hi51.2.2.2 rfl (by omega) szV b o l.length c (cellsOf w b o l.length) w (by rw [cellsOf_length]; omega) (by unfold maxLen; omega) (by omega)
    (fun j u hj => by
      have hjl : j < l.length := by
        rcases Nat.lt_or_ge j l.length with h | h
        · exact h
        · rw [List.getElem?_eq_none (by rw [cellsOf_length]; exact h)] at hj; cases hj
      obtain ⟨u', hu', -⟩ := hc j hjl
      rw [cellsOf_get w b o l.length j hjl u' hu'] at hj
      injection hj with hj
      rw [← hj]; exact hu') (fun u hu => by
      obtain ⟨j, hj, rfl⟩ := List.mem_iff_getElem.1 hu
      rw [cellsOf_length] at hj
      obtain ⟨u', hu', hr⟩ := hc j hj
      have := cellsOf_get w b o l.length j hj u' hu'
      rw [List.getElem?_eq_getElem (by rw [cellsOf_length]; exact hj)] at this
      injection this with this
      rw [this]
      obtain ⟨a', c', rfl, -⟩ := hr
      rfl)
  change Calls Try.prog 81 _ _ _ at hclone
  refine hclone.mono ?_
  rintro e w' ⟨v', rfl, hown, -, hbel⟩
  obtain ⟨g, cap, rfl, hgB, hg⟩ := hown.form hp
  refine ⟨g, cap, _, rfl, hgB, ⟨hown, fun k hk => ?_, fun j hj => ?_⟩, hbel⟩
  · have : some g = some k := hk
    injection this with this
    exact .inr (by omega)
  · obtain ⟨u', hu', hr⟩ := hc j hj
    rw [List.getD_eq_getElem?_getD, cellsOf_get w b o l.length j hj u' hu']
    exact HVec.keeps w w' bad _ _ _ hbel.size (fun k hk _ => hbel.block k hk) (fun k hk h => h.elim id (fun h => absurd h (by omega))) hr

theorem elimF_length (q c at_ by_ : Nat) : ∀ (m i : Nat) (b im : List (List Nat)), (elimF q c at_ by_ m i b im).1.length = b.length ∧ (elimF q c at_ by_ m i b im).2.length = im.length
  | 0, _, _, _ => ⟨rfl, rfl⟩
  | m + 1, i, b, im => by
    have := elimF_length q c at_ by_ m (i + 1) (b.set i (plusF q (b.getD i default) (-(((im.getD i default).getD c 0 : Nat) : Int) * (by_ : Int)) (b.getD at_ default))) (im.set i (plusF q (im.getD i default) (-(((im.getD i default).getD c 0 : Nat) : Int) * (by_ : Int)) (im.getD at_ default)))
    simp only [List.length_set] at this
    exact this

end Go.Proofs.Ytnejjgolmikplaa
