/- slices.SortFunc at the elements of a group. -/
import Derived.Test.YtnejjgolmikplaaCompare
import Derived.Test.YtnejjgolmikplaaShelf2
namespace Go.Proofs.Ytnejjgolmikplaa
open Go.RowKit Go.Proofs Go.Sort

abbrev Code := Fin 32768
def toCode (c : Nat) : Code := ⟨c % 32768, Nat.mod_lt _ (by omega)⟩
def encP (x : Code) : List Value := (cellsP x.val).toList
def cfP (x y : Code) : Int := Lib.compareInt (x.val : Nat) (y.val : Nat)

theorem ltP (x y : Code) : ltOf cfP x y = decide (x.val < y.val) := by
  unfold ltOf cfP Lib.compareInt
  by_cases h1 : (x.val : Int) < (y.val : Int)
  · have : x.val < y.val := by omega
    simp [h1, this]
  · have h1' : ¬ x.val < y.val := by omega
    by_cases h2 : (x.val : Int) > (y.val : Int) <;> simp [h1, h2, h1']

theorem swoP : SWO (ltOf cfP) where
  irrefl x := by rw [ltP]; simp
  trans x y z h1 h2 := by rw [ltP] at *; simp at *; omega
  ntrans x y z h1 h2 := by rw [ltP] at *; simp at *; omega

theorem totP (x y : Code) (h1 : ltOf cfP x y = false) (h2 : ltOf cfP y x = false) : x = y := by
  rw [ltP] at h1 h2
  simp at h1 h2
  exact Fin.ext (by omega)

theorem lays_cmpP (blk off size : Nat) (w : World) : CmpLays Try.prog 28 #[] encP 5 cfP blk off size w := by
  intro m os dk hs x y
  have h := closure_cmp x.val y.val x.isLt y.isLt (sortWorldK encP 5 w blk off m dk os)
  have hs : cfP x y = Lib.compareInt (x.val : Nat) (y.val : Nat) := rfl
  rw [hs]
  simpa [encP] using h

theorem sort_codes (E : List Nat) (hlt : ∀ c ∈ E, c < 32768) : (E.map toCode).mergeSort (fun x y => !(ltOf cfP) y x) = (sortN E).map toCode := by
  unfold sortN
  rw [List.map_mergeSort]
  intro a ha b hb
  have h1 := hlt a ha
  have h2 := hlt b hb
  rw [ltP]
  have e1 : (toCode a).val = a := Nat.mod_eq_of_lt h1
  have e2 : (toCode b).val = b := Nat.mod_eq_of_lt h2
  rw [e1, e2, Bool.eq_iff_iff]
  simp

theorem grownBy_sorted_id {w : World} {g n : Nat} {os : Array Obj} (d : Array Value) : w.grownBy (grow (putRow id (Sort.ahead w n) g 0 d) os) (some g) := by
  refine ⟨rfl, rfl, rfl, by simp, fun k hk hne => ?_⟩
  rw [heap_grow_old _ _ (by simpa using hk)]
  have : g ≠ k := fun e => hne (by rw [e])
  simp [putRow, mapBlock, Sort.ahead, Array.getElem?_modify, this]

theorem code_getD (E : List Nat) (k : Nat) (hk : k < E.length) : (E.map toCode).toArray[k]! = toCode (E.getD k 0) := by
  simp [List.getD_eq_getElem?_getD, List.getElem?_eq_getElem hk, hk]

theorem enc_get (c i : Nat) (h : i < 5) : (cellsP c).toList[i]! = .int .i64 (dg c i : Nat) := by
  have : i = 0 ∨ i = 1 ∨ i = 2 ∨ i = 3 ∨ i = 4 := by omega
  rcases this with rfl | rfl | rfl | rfl | rfl <;> rfl

theorem aggP : ∀ w, (isAgg 46).run Try.prog w = .ok true w := fun _ => by kernel_rfl
theorem szP : ∀ w, (Go.sizeOf 46).run Try.prog w = .ok 5 w := fun _ => by kernel_rfl

set_option maxRecDepth 100000 in
theorem sort_els (w : World) (T eb cap base : Nat) (E : List Nat) (hlt : ∀ c ∈ E, c < 32768) (hlen : E.length ≤ 1000) (hp : 0 < E.length)
    (hown : w.ownsRow base T 5 (.slice (some ⟨eb, 0, none⟩) E.length cap) E.length (flat E)) :
    Calls Try.prog 27 #[.slice (some ⟨eb, 0, none⟩) E.length cap, .func (.func 28) #[] #[]] w fun e w' =>
      e = .returned (.tuple #[]) ∧ w.grownBy w' (some eb) ∧ ∀ k i, k < E.length → i < 5 → w'.cell? ⟨eb, k * 5 + i, none⟩ = some (.int .i64 (dg ((sortN E).getD k 0) i : Nat)) := by
  have eg : ∀ args w, (callFunc 28 args).run Try.prog w = .ok (.enter 28 args) w := enters_of Try.func28 (by kernel_rfl) rfl
  have hell : eb < w.heap.size := (hown.lt eb rfl).2
  have hfz : ∀ i, w.frozen? ⟨eb, i, none⟩ = false := by
    rcases hown.2 with ⟨h, _⟩ | ⟨g, cp, cur, hv, _, hg, _⟩
    · cases h
    · have : eb = g := by injection hv with hv; injection hv with hv; injection hv
      subst this
      intro i
      exact frozen_of_row w eb i _ _ hg
  have hH : HoldsK encP 5 w eb 0 (E.map toCode).toArray := by
    intro j hj
    rw [size_flatK] at hj
    have hj' : j < E.length * 5 := by simpa using hj
    refine ⟨?_, hfz _⟩
    rw [Nat.zero_add, hown.cellAt j (by omega), get_flatK _ _ _ j hj, code_getD E (j / 5) (by omega)]
    have := flat_get E (j / 5) (j % 5) (by omega) (by omega)
    rw [show j / 5 * 5 + j % 5 = j from by omega] at this
    rw [this]
    have hm : E.getD (j / 5) 0 < 32768 := hlt _ (getD_mem E _ (by omega))
    have e1 : (toCode (E.getD (j / 5) 0)).val = E.getD (j / 5) 0 := Nat.mod_eq_of_lt hm
    unfold encP
    rw [e1, enc_get _ _ (by omega)]
    rfl
  have hcon := AnyQ.slices_SortFunc_total Try.laysSortP 5 aggP szP encP (fun _ => rfl) (fun x v hv => by simp [encP, cellsP] at hv; rcases hv with rfl | rfl | rfl | rfl | rfl <;> rfl) cfP swoP 28 #[] eb 0 cap (E.map toCode).toArray w eg (lays_cmpP eb 0 _ w) hH hell (by simp; omega) totP
  change Calls Try.prog 27 _ _ _ at hcon
  have hsz : (E.map toCode).toArray.size = E.length := by simp
  rw [hsz] at hcon
  refine hcon.mono ?_
  rintro e w' ⟨rfl, n, os, rfl⟩
  refine ⟨rfl, grownBy_sorted_id _, fun k i hk hi => ?_⟩
  rw [show (E.map toCode).toArray.toList = E.map toCode from rfl, sort_codes E hlt]
  have hh := holdsK_sortWorldK_c encP 5 w eb 0 (E.map toCode).toArray ((sortN E).map toCode).toArray n os hH hell (by simp [sortN_length])
  have hk' : k < (sortN E).length := by rw [sortN_length]; exact hk
  have := (hh.cell (i := k) (c := i) (by simpa using hk') hi).1
  rw [Nat.zero_add] at this
  rw [this, code_getD _ k hk']
  have hmem : (sortN E).getD k 0 ∈ E := by
    have := getD_mem (sortN E) k hk'
    unfold sortN at this ⊢
    exact List.mem_mergeSort.1 this
  have e1 : (toCode ((sortN E).getD k 0)).val = (sortN E).getD k 0 := Nat.mod_eq_of_lt (hlt _ hmem)
  unfold encP
  rw [e1, enc_get _ _ hi]

end Go.Proofs.Ytnejjgolmikplaa
