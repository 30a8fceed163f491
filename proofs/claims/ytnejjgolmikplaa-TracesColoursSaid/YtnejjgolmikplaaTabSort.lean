/- slices.SortFunc at vectors. -/
import Derived.Test.YtnejjgolmikplaaTabCmp
import Derived.Test.YtnejjgolmikplaaSortPerm
import Derived.Shelf.SlSortCmp.NoneTotal
namespace Go.Proofs.Ytnejjgolmikplaa
open Go.RowKit Go.Proofs Go.Sort

theorem cmpI_self (x : Int) : Lib.compareInt x x = 0 := by unfold Lib.compareInt; simp
theorem cmpI_zero {x y : Int} (h : Lib.compareInt x y = 0) : x = y := by
  unfold Lib.compareInt at h
  by_cases h1 : x < y
  · simp [h1] at h
  · by_cases h2 : x > y
    · simp [h1, h2] at h
    · omega
theorem cmpI_neg (x y : Int) : Lib.compareInt x y < 0 ↔ x < y := by
  unfold Lib.compareInt
  by_cases h1 : x < y
  · simp [h1]
  · by_cases h2 : x > y <;> simp [h1, h2]

/-- Less, by the numbers from the front. -/
def ltL : List Nat → List Nat → Bool
  | [], [] => false
  | [], _ :: _ => true
  | _ :: _, [] => false
  | x :: xs, y :: ys => if x < y then true else if y < x then false else ltL xs ys

theorem cmpL_lt : ∀ (xs ys : List Nat), decide (cmpL (ints xs) (ints ys) < 0) = ltL xs ys
  | [], [] => rfl
  | [], _ :: _ => rfl
  | _ :: _, [] => rfl
  | x :: xs, y :: ys => by
    have ih := cmpL_lt xs ys
    have e : cmpL (ints (x :: xs)) (ints (y :: ys)) = if Lib.compareInt (x : Int) (y : Int) ≠ 0 then Lib.compareInt (x : Int) (y : Int) else cmpL (ints xs) (ints ys) := rfl
    rw [e]
    unfold ltL
    by_cases h1 : x < y
    · have h2 := (cmpI_neg (x : Int) (y : Int)).2 (by omega)
      rw [if_pos (by omega), if_pos h1]
      simp [h2]
    · rw [if_neg h1]
      by_cases h2 : y < x
      · rw [if_pos h2]
        have h3 : ¬ Lib.compareInt (x : Int) (y : Int) < 0 := fun h => by have := (cmpI_neg (x : Int) (y : Int)).1 h; omega
        have h4 : Lib.compareInt (x : Int) (y : Int) ≠ 0 := fun h => by have := cmpI_zero h; omega
        rw [if_pos h4]
        simp [h3]
      · rw [if_neg h2]
        have : x = y := by omega
        subst this
        rw [if_neg (by rw [cmpI_self]; simp)]
        exact ih

theorem ltL_irrefl : ∀ xs, ltL xs xs = false
  | [] => rfl
  | x :: xs => by unfold ltL; simp [ltL_irrefl xs]
theorem ltL_trans : ∀ xs ys zs, ltL xs ys = true → ltL ys zs = true → ltL xs zs = true
  | [], [], zs, h, _ => by cases h
  | [], _ :: _, [], _, h => by cases h
  | [], _ :: _, _ :: _, _, _ => rfl
  | _ :: _, [], _, h, _ => by cases h
  | _ :: _, _ :: _, [], _, h => by cases h
  | x :: xs, y :: ys, z :: zs, h1, h2 => by
    unfold ltL at h1 h2 ⊢
    by_cases a : x < y
    · by_cases b : y < z
      · rw [if_pos (by omega)]
      · rw [if_neg b] at h2
        by_cases c : z < y
        · rw [if_pos c] at h2; cases h2
        · rw [if_pos (by omega)]
    · rw [if_neg a] at h1
      by_cases b : y < x
      · rw [if_pos b] at h1; cases h1
      · rw [if_neg b] at h1
        have : x = y := by omega
        subst this
        by_cases c : x < z
        · rw [if_pos c]
        · rw [if_neg c] at h2 ⊢
          by_cases d : z < x
          · rw [if_pos d] at h2; cases h2
          · rw [if_neg d] at h2 ⊢
            exact ltL_trans xs ys zs h1 h2
theorem ltL_ntrans : ∀ xs ys zs, ltL xs ys = false → ltL ys zs = false → ltL xs zs = false
  | [], [], [], _, _ => rfl
  | [], [], _ :: _, _, h => by cases h
  | [], _ :: _, _, h, _ => by cases h
  | _ :: _, _, [], _, _ => rfl
  | _ :: _, [], _ :: _, _, h => by cases h
  | x :: xs, y :: ys, z :: zs, h1, h2 => by
    unfold ltL at h1 h2 ⊢
    by_cases a : x < y
    · rw [if_pos a] at h1; cases h1
    · rw [if_neg a] at h1
      by_cases c : y < z
      · rw [if_pos c] at h2; cases h2
      · rw [if_neg c] at h2
        by_cases b : y < x
        · rw [if_neg (by omega)]
          by_cases d : z < x
          · rw [if_pos d]
          · omega
        · rw [if_neg b] at h1
          have : x = y := by omega
          subst this
          rw [if_neg c]
          by_cases d : z < x
          · rw [if_pos d]
          · rw [if_neg d] at h2 ⊢
            exact ltL_ntrans xs ys zs h1 h2
theorem ltL_eq : ∀ xs ys, ltL xs ys = false → ltL ys xs = false → xs = ys
  | [], [], _, _ => rfl
  | [], _ :: _, h, _ => by cases h
  | _ :: _, [], _, h => by cases h
  | x :: xs, y :: ys, h1, h2 => by
    unfold ltL at h1 h2
    by_cases a : x < y
    · rw [if_pos a] at h1; cases h1
    · rw [if_neg a] at h1
      by_cases b : y < x
      · rw [if_pos b] at h2; cases h2
      · rw [if_neg b] at h1 h2
        rw [if_neg a] at h2
        have : x = y := by omega
        subst this
        rw [ltL_eq xs ys h1 h2]

theorem cfVec_eq (x y : List Nat) (hx : 0 < x.length) (hy : 0 < y.length) : cfVec x y = cmpL (ints x) (ints y) := by
  cases x with
  | nil => simp at hx
  | cons a x => cases y with
    | nil => simp at hy
    | cons b y =>
      have e : cmpL (ints (a :: x)) (ints (b :: y)) = if Lib.compareInt (a : Int) (b : Int) ≠ 0 then Lib.compareInt (a : Int) (b : Int) else cmpL (ints x) (ints y) := rfl
      unfold cfVec
      rw [e]
      show (if Lib.compareInt (a : Int) (b : Int) ≠ 0 then Lib.compareInt (a : Int) (b : Int) else _) = _
      split
      · rfl
      · rfl

/-- Rows in order. -/
def sortV (rows : List (List Nat)) : List (List Nat) := rows.mergeSort fun x y => !ltL y x

theorem grownBy_sorted {α : Type} [Inhabited α] (enc : α → Value) {w : World} {g n : Nat} {os : Array Obj} (d : Array α) : w.grownBy (sortWorld enc w g 0 n d os) (some g) := by
  refine ⟨rfl, rfl, rfl, by simp [sortWorld], fun k hk hne => ?_⟩
  unfold sortWorld
  rw [heap_grow_old _ _ (by simpa using hk)]
  have : g ≠ k := fun e => hne (by rw [e])
  simp [putRow, mapBlock, Sort.ahead, Array.getElem?_modify, this]

set_option maxRecDepth 100000 in
theorem sort_vecs (w : World) (B T blk cap m : Nat) (vals : List Value) (rows : List (List Nat)) (hown : OwnV HVec w B T (fun k => k = blk) (.slice (some ⟨blk, 0, none⟩) m cap) vals rows) (hm : rows.length = m) (hp : 0 < m) (hml : m ≤ 1000) (hnd : rows.Nodup)
    (hr : ∀ j, j < m → 0 < (rows.getD j default).length ∧ (rows.getD j default).length ≤ 1000) :
    Calls Try.prog 37 #[.slice (some ⟨blk, 0, none⟩) m cap, .func (.func 38) #[] #[]] w fun e w' =>
      e = .returned (.tuple #[]) ∧ w.grownBy w' (some blk) ∧ HRows w' noBad (.slice (some ⟨blk, 0, none⟩) m cap) (sortV rows) := by
  haveI : Inhabited (Fin m) := ⟨⟨0, hp⟩⟩
  have eg : ∀ args w, (callFunc 38 args).run Try.prog w = .ok (.enter 38 args) w := enters_of Try.func38 (by kernel_rfl) rfl
  let enc : Fin m → Value := fun i => vals.getD i.val default
  let row : Fin m → List Nat := fun i => rows.getD i.val default
  let cf : Fin m → Fin m → Int := fun i j => cfVec (row i) (row j)
  have hrow : ∀ i : Fin m, 0 < (row i).length ∧ (row i).length ≤ 1000 := fun i => hr i.val i.isLt
  have hvec : ∀ i : Fin m, HVec w (fun k => k = blk) (enc i) (row i) := fun i => hown.all i.val (by rw [hm]; exact i.isLt)
  have hlt : ∀ x y, ltOf cf x y = ltL (row x) (row y) := fun x y => by
    show decide (cfVec (row x) (row y) < 0) = _
    rw [cfVec_eq _ _ (hrow x).1 (hrow y).1]
    exact cmpL_lt _ _
  have hO : SWO (ltOf cf) := ⟨fun x => by rw [hlt]; exact ltL_irrefl _, fun x y z h1 h2 => by rw [hlt] at *; exact ltL_trans _ _ _ h1 h2, fun x y z h1 h2 => by rw [hlt] at *; exact ltL_ntrans _ _ _ h1 h2⟩
  have hT : ∀ x y, (ltOf cf) x y = false → (ltOf cf) y x = false → x = y := fun x y h1 h2 => by
    rw [hlt] at h1 h2
    have e := ltL_eq _ _ h1 h2
    apply Fin.ext
    have hx := x.isLt
    have hy := y.isLt
    have e2 : rows[x.val]'(by rw [hm]; exact hx) = rows[y.val]'(by rw [hm]; exact hy) := by
      have e' : rows.getD x.val default = rows.getD y.val default := e
      rw [List.getD_eq_getElem?_getD, List.getD_eq_getElem?_getD, List.getElem?_eq_getElem (by rw [hm]; exact hx), List.getElem?_eq_getElem (by rw [hm]; exact hy)] at e'
      exact e'
    apply Classical.byContradiction
    intro hne
    rcases Nat.lt_or_gt_of_ne hne with h | h
    · exact List.pairwise_iff_getElem.1 hnd x.val y.val _ _ h e2
    · exact List.pairwise_iff_getElem.1 hnd y.val x.val _ _ h e2.symm
  have h1 : OneCell enc := fun x => by
    obtain ⟨a, c, he, -⟩ := hvec x
    show (enc x).oneCell' = true
    rw [he]; rfl
  have hcmp : CmpLays1 Try.prog 38 #[] enc cf blk 0 (List.finRange m).toArray.size w := by
    intro k os dk hs x y
    have hg := grownBy_sorted enc (w := w) (g := blk) (n := k) (os := os) dk
    have hk : ∀ i : Fin m, HVec (sortWorld enc w blk 0 k dk os) noBad (enc i) (row i) := fun i => HVec.keeps w _ _ _ _ _ hg.size (fun t ht hn => hg.block t ht (fun e => hn (by injection e))) (fun _ _ h => h.elim) (hvec i)
    have := closure_vec (enc x) (enc y) (row x) (row y) _ (hk x) (hk y) (hrow x).1 (hrow y).1 (hrow x).2 (hrow y).2
    simpa using this
  have hsz : (List.finRange m).toArray.size = m := by simp
  have hget : ∀ j (hj : j < m), (List.finRange m).toArray[j]! = ⟨j, hj⟩ := fun j hj => by
    rw [getElem!_pos _ j (by simpa using hj)]
    simp
  have hH : Holds enc w blk 0 (List.finRange m).toArray := by
    intro j hj
    rw [hsz] at hj
    refine ⟨?_, ?_⟩
    · rw [Nat.zero_add, hget j hj, hown.cell (by rw [hm]; exact hj)]
    · rw [Nat.zero_add]; exact hown.frz
  have hcon := Any.slices_SortFunc_total Try.laysSortV enc h1 cf hO 38 #[] blk 0 cap (List.finRange m).toArray w eg hcmp hH hown.lt.2 (by rw [hsz]; omega) hT
  rw [hsz] at hcon
  change Calls Try.prog 37 _ _ _ at hcon
  refine hcon.mono ?_
  rintro e w' ⟨rfl, n, os, rfl⟩
  have hg := grownBy_sorted enc (w := w) (g := blk) (n := n) (os := os) ((List.finRange m).toArray.toList.mergeSort fun x y => !(ltOf cf) y x).toArray
  refine ⟨rfl, hg, ?_⟩
  have hh := holds_sortWorld enc w blk 0 n (List.finRange m).toArray ((List.finRange m).toArray.toList.mergeSort fun x y => !(ltOf cf) y x).toArray os hown.lt.2 hH (by simp)
  have hsort : sortV rows = (((List.finRange m).mergeSort fun x y => !(ltOf cf) y x).map row) := by
    have e1 : (List.finRange m).map row = rows := by
      apply List.ext_getElem?
      intro i
      rw [List.getElem?_map]
      by_cases hi : i < m
      · rw [List.getElem?_eq_getElem (by simpa using hi), List.getElem?_eq_getElem (by rw [hm]; exact hi)]
        simp [row, List.getD_eq_getElem?_getD, List.getElem?_eq_getElem (show i < rows.length by rw [hm]; exact hi)]
      · rw [List.getElem?_eq_none (by simpa using hi), List.getElem?_eq_none (by rw [hm]; omega)]; rfl
    have e2 := List.map_mergeSort (f := row) (l := List.finRange m) (r := fun x y => !(ltOf cf) y x) (s := fun x y => !ltL y x) (fun a _ b _ => by
      show (!(ltOf cf) b a) = (!ltL (row b) (row a))
      rw [hlt])
    unfold sortV
    rw [e2, e1]
  have hlen : ((List.finRange m).mergeSort fun x y => !(ltOf cf) y x).length = m := by rw [List.length_mergeSort]; simp
  rw [hsort]
  refine ⟨_, cap, by rw [List.length_map, hlen], fun _ => ⟨blk, 0, rfl, Nat.lt_of_lt_of_le hown.lt.2 hg.size, fun h => h, fun j hj => ?_⟩⟩
  rw [List.length_map, hlen] at hj
  have hc := (hh j (by simpa using hj)).1
  have hjl : j < ((List.finRange m).mergeSort fun x y => !(ltOf cf) y x).length := by rw [hlen]; exact hj
  refine ⟨_, hc, ?_⟩
  have e3 : (((List.finRange m).toArray.toList.mergeSort fun x y => !(ltOf cf) y x).toArray)[j]! = ((List.finRange m).mergeSort fun x y => !(ltOf cf) y x)[j] := by
    rw [getElem!_pos _ j (by simpa using hj)]
    simp
  rw [e3]
  have e4 : ((((List.finRange m).mergeSort fun x y => !(ltOf cf) y x).map row).getD j default) = row (((List.finRange m).mergeSort fun x y => !(ltOf cf) y x)[j]) := by
    rw [List.getD_eq_getElem?_getD, List.getElem?_map, List.getElem?_eq_getElem hjl]; rfl
  rw [e4]
  exact HVec.keeps w _ _ _ _ _ hg.size (fun t ht hn => hg.block t ht (fun e => hn (by injection e))) (fun _ _ h => h.elim) (hvec _)

end Go.Proofs.Ytnejjgolmikplaa
