/- Slices of slices of slices: what lies in memory, read to the bottom; lists that a loop builds by append. -/
import Derived.Test.YtnejjgolmikplaaVec
namespace Go.Proofs.Ytnejjgolmikplaa
open Go.RowKit Go.Proofs

theorem below_drewN (w : World) (n : Nat) : Below w.heap.size w (w.drewN n) := ⟨rfl, rfl, rfl, Nat.le_refl _, fun _ _ => rfl⟩

/-- What a value holds, read in memory; 'bad': blocks that it does not lie in. -/
abbrev Holdr (α : Type) := World → (Nat → Prop) → Value → α → Prop

/-- It holds as long as no block turns that it lies in. -/
def Keeps {α : Type} (R : Holdr α) : Prop := ∀ (w w' : World) (bad bad' : Nat → Prop) (v : Value) (x : α), w.heap.size ≤ w'.heap.size →
  (∀ k, k < w.heap.size → ¬ bad k → w'.heap[k]? = w.heap[k]?) → (∀ k, k < w.heap.size → bad' k → bad k) → R w bad v x → R w' bad' v x

/-- An int. -/
def HInt : Holdr Nat := fun _ _ v x => v = .int .i64 (x : Nat)
theorem HInt.keeps : Keeps HInt := fun _ _ _ _ _ _ _ _ _ h => h

/-- A slice of what R tells. -/
def HList {α : Type} [Inhabited α] (R : Holdr α) : Holdr (List α) := fun w bad v l => ∃ a c, v = .slice a l.length c ∧ (0 < l.length → ∃ b o, a = some ⟨b, o, none⟩ ∧ b < w.heap.size ∧ ¬ bad b ∧
  ∀ j, j < l.length → ∃ u, w.cell? ⟨b, o + j, none⟩ = some u ∧ R w bad u (l.getD j default))
theorem HList.keeps {α : Type} [Inhabited α] {R : Holdr α} (hR : Keeps R) : Keeps (HList R) := by
  intro w w' bad bad' v l hs hk hb h
  obtain ⟨a, c, hv, h⟩ := h
  refine ⟨a, c, hv, fun hp => ?_⟩
  obtain ⟨b, o, ha, hlt, hnb, hc⟩ := h hp
  refine ⟨b, o, ha, Nat.lt_of_lt_of_le hlt hs, fun hx => hnb (hb b hlt hx), fun j hj => ?_⟩
  obtain ⟨u, hu, hr⟩ := hc j hj
  exact ⟨u, (World.cell?_of_block (a := ⟨b, o + j, none⟩) (hk b hlt hnb)).trans hu, hR w w' bad bad' u _ hs hk hb hr⟩

abbrev HVec : Holdr (List Nat) := HList HInt
abbrev HRows : Holdr (List (List Nat)) := HList HVec
abbrev HSpaces : Holdr (List (List (List Nat))) := HList HRows
theorem HVec.keeps : Keeps HVec := HList.keeps HInt.keeps
theorem HRows.keeps : Keeps HRows := HList.keeps HVec.keeps
theorem HSpaces.keeps : Keeps HSpaces := HList.keeps HRows.keeps

/-- No block is bad. -/
abbrev noBad : Nat → Prop := fun _ => False

theorem Keeps.below {α : Type} {R : Holdr α} (hR : Keeps R) {w w' : World} {bad bad' : Nat → Prop} {v : Value} {x : α} (h : R w bad v x) (hb : Below w.heap.size w w') (hbad : ∀ k, k < w.heap.size → bad' k → bad k) : R w' bad' v x :=
  hR w w' bad bad' v x hb.size (fun k hk _ => hb.block k hk) hbad h

theorem HVec.intsIn {w : World} {bad : Nat → Prop} {v : Value} {l : List Nat} (h : HVec w bad v l) : ∃ a c, v = .slice a l.length c ∧ IntsIn w a (ints l) := by
  obtain ⟨a, c, hv, h⟩ := h
  refine ⟨a, c, hv, fun hp => ?_⟩
  rw [ints_length] at hp
  obtain ⟨b, o, ha, hlt, -, hc⟩ := h hp
  refine ⟨b, o, ha, hlt, fun j hj => ?_⟩
  rw [ints_length] at hj
  obtain ⟨u, hu, rfl⟩ := hc j hj
  rw [hu, ints_getD]; rfl

theorem HVec.of {w : World} {a : Option Addr} {c : Nat} {l : List Nat} (h : IntsIn w a (ints l)) : HVec w noBad (.slice a l.length c) l := by
  refine ⟨a, c, rfl, fun hp => ?_⟩
  obtain ⟨b, o, ha, hlt, hc⟩ := h (by rw [ints_length]; exact hp)
  refine ⟨b, o, ha, hlt, fun h => h, fun j hj => ⟨_, hc j (by rw [ints_length]; exact hj), ?_⟩⟩
  rw [ints_getD]; rfl

theorem HRows.rowsIn {w : World} {bad : Nat → Prop} {v : Value} {l : List (List Nat)} (h : HRows w bad v l) : ∃ a c, v = .slice a l.length c ∧ RowsIn w a (l.map ints) := by
  obtain ⟨a, c, hv, h⟩ := h
  refine ⟨a, c, hv, fun hp => ?_⟩
  rw [List.length_map] at hp
  obtain ⟨b, o, ha, hlt, -, hc⟩ := h hp
  refine ⟨b, o, ha, hlt, fun j hj => ?_⟩
  rw [List.length_map] at hj
  obtain ⟨u, hu, hr⟩ := hc j hj
  obtain ⟨a', c', rfl, hi⟩ := hr.intsIn
  refine ⟨_, hu, a', c', ?_, ?_⟩
  · rw [rows_getD, ints_length]; rfl
  · rw [rows_getD]; exact hi

theorem HRows.of {w : World} {a : Option Addr} {c : Nat} {l : List (List Nat)} (h : RowsIn w a (l.map ints)) : HRows w noBad (.slice a l.length c) l := by
  refine ⟨a, c, rfl, fun hp => ?_⟩
  obtain ⟨b, o, ha, hlt, hc⟩ := h (by rw [List.length_map]; exact hp)
  refine ⟨b, o, ha, hlt, fun h => h, fun j hj => ?_⟩
  obtain ⟨u, hu, a', c', rfl, hi⟩ := hc j (by rw [List.length_map]; exact hj)
  rw [rows_getD] at hi
  refine ⟨_, hu, ?_⟩
  have := HVec.of (c := c') hi
  rw [rows_getD, ints_length]
  exact this

/-- A slice of the call's own, from block B on, of what R tells; no part of it lies in a bad block but its own cells. -/
structure OwnV {α : Type} [Inhabited α] (R : Holdr α) (w : World) (B : Nat) (T : TypeId) (bad : Nat → Prop) (ov : Value) (vals : List Value) (l : List α) : Prop where
  own : w.ownsRow B T 1 ov l.length vals
  isBad : ∀ k, ov.ownBlock = some k → bad k
  all : ∀ j, j < l.length → R w bad (vals.getD j default) (l.getD j default)

theorem OwnV.nil {α : Type} [Inhabited α] (R : Holdr α) (w : World) (B : Nat) (T : TypeId) (bad : Nat → Prop) : OwnV R w B T bad (.slice none 0 0) [] [] :=
  ⟨World.ownsRow_nil _ _ _ _, fun k h => (by cases h), fun j hj => absurd hj (by simp)⟩

theorem OwnV.len {α : Type} [Inhabited α] {R : Holdr α} {w : World} {B : Nat} {T : TypeId} {bad : Nat → Prop} {ov : Value} {vals : List Value} {l : List α} (h : OwnV R w B T bad ov vals l) : vals.length = l.length := by
  have := h.own.1; omega

theorem OwnV.keep {α : Type} [Inhabited α] {R : Holdr α} (hR : Keeps R) {w w' : World} {B : Nat} {T : TypeId} {bad bad' : Nat → Prop} {ov : Value} {vals : List Value} {l : List α} (h : OwnV R w B T bad ov vals l) (hs : w.heap.size ≤ w'.heap.size)
    (hk : ∀ k, k < w.heap.size → ¬ bad k → w'.heap[k]? = w.heap[k]?) (ho : ∀ k, ov.ownBlock = some k → w'.heap[k]? = w.heap[k]?) (hb : ∀ k, k < w.heap.size → bad' k → bad k) (hb' : ∀ k, ov.ownBlock = some k → bad' k) : OwnV R w' B T bad' ov vals l := by
  refine ⟨?_, hb', fun j hj => hR w w' bad bad' _ _ hs hk hb (h.all j hj)⟩
  refine ⟨h.own.1, ?_⟩
  rcases h.own.2 with h0 | ⟨g, cap, cur, hv, hB, hg, h1⟩
  · exact .inl h0
  · exact .inr ⟨g, cap, cur, hv, hB, by rw [ho g (by rw [hv]; rfl)]; exact hg, h1⟩

theorem OwnV.below {α : Type} [Inhabited α] {R : Holdr α} (hR : Keeps R) {w w' : World} {B : Nat} {T : TypeId} {bad : Nat → Prop} {ov : Value} {vals : List Value} {l : List α} (h : OwnV R w B T bad ov vals l) (hb : Below w.heap.size w w') : OwnV R w' B T bad ov vals l :=
  h.keep hR hb.size (fun k hk _ => hb.block k hk) (fun k hk => hb.block k (h.own.lt k hk).2) (fun _ _ h => h) h.isBad

theorem OwnV.push {α : Type} [Inhabited α] {R : Holdr α} (hR : Keeps R) {W w' : World} {B : Nat} {T : TypeId} {bad : Nat → Prop} {ov : Value} {vals : List Value} {l : List α} {u : Value} {x : α} {g cap : Nat} (h : OwnV R W B T bad ov vals l) (hx : R W bad u x)
    (hown' : w'.ownsRow B T 1 (.slice (some ⟨g, 0, none⟩) (l.length + 1) cap) (l.length + 1) (vals ++ [u])) (hgrow : W.grownBy w' ov.ownBlock) (hat : ov.ownBlock = some g ∨ W.heap.size ≤ g) :
    OwnV R w' B T (fun k => k = g) (.slice (some ⟨g, 0, none⟩) (l.length + 1) cap) (vals ++ [u]) (l ++ [x]) := by
  have hlen := h.len
  have hkp : ∀ v y, R W bad v y → R w' (fun k => k = g) v y := fun v y hr => hR W w' bad _ v y hgrow.size
    (fun k hk hn => hgrow.block k hk (fun e => hn (h.isBad k e.symm))) (fun k hk e => by
      subst e
      rcases hat with hat | hat
      · exact h.isBad k hat
      · omega) hr
  refine ⟨by rw [List.length_append]; exact hown', fun k hk => ?_, fun j hj => ?_⟩
  · have : some g = some k := hk
    injection this with this
    exact this.symm
  · by_cases hjl : j < l.length
    · have e1 : (vals ++ [u]).getD j default = vals.getD j default := by simp [List.getD_eq_getElem?_getD, List.getElem?_append_left (show j < vals.length by omega)]
      have e2 : (l ++ [x]).getD j default = l.getD j default := by simp [List.getD_eq_getElem?_getD, List.getElem?_append_left hjl]
      rw [e1, e2]
      exact hkp _ _ (h.all j hjl)
    · have hj' : j = l.length := by simp at hj; omega
      subst hj'
      have e1 : (vals ++ [u]).getD l.length default = u := by simp [List.getD_eq_getElem?_getD, ← hlen]
      have e2 : (l ++ [x]).getD l.length default = x := by simp [List.getD_eq_getElem?_getD]
      rw [e1, e2]
      exact hkp _ _ hx

/-- .. as what it is for others. -/
theorem OwnV.hold {α : Type} [Inhabited α] {R : Holdr α} (hR : Keeps R) {w : World} {B : Nat} {T : TypeId} {bad : Nat → Prop} {ov : Value} {vals : List Value} {l : List α} (h : OwnV R w B T bad ov vals l) : HList R w noBad ov l := by
  have hlen := h.len
  rcases h.own.2 with ⟨hv, h0⟩ | ⟨g, cap, cur, hv, hB, hg, h1, h2, h3, h4⟩
  · exact ⟨none, 0, by rw [hv, h0], fun hp => by omega⟩
  · refine ⟨some ⟨g, 0, none⟩, cap, hv, fun hp => ⟨g, 0, rfl, (Array.getElem?_eq_some_iff.1 hg).1, fun h => h, fun j hj => ⟨vals.getD j default, ?_, hR w w bad noBad _ _ (Nat.le_refl _) (fun _ _ _ => rfl) (fun _ _ h => h.elim) (h.all j hj)⟩⟩⟩
    have := h.own
    rw [hv] at this
    rw [Nat.zero_add, this.cellAt j (by omega)]
    simp [List.getD_eq_getElem?_getD, List.getElem?_eq_getElem (show j < vals.length by omega)]

/-- A cell of it is written. -/
theorem OwnV.set {α : Type} [Inhabited α] {R : Holdr α} (hR : Keeps R) {w : World} {B : Nat} {T : TypeId} {bad : Nat → Prop} {g n cap i : Nat} {vals : List Value} {l : List α} {u : Value} {x : α} (h : OwnV R w B T bad (.slice (some ⟨g, 0, none⟩) n cap) vals l) (hn : n = l.length)
    (hi : i < n) (hx : R w bad u x) : OwnV R (w.setCell ⟨g, i, none⟩ u) B T bad (.slice (some ⟨g, 0, none⟩) n cap) (vals.set i u) (l.set i x) := by
  have hlen := h.len
  subst hn
  have hkp : ∀ v y, R w bad v y → R (w.setCell ⟨g, i, none⟩ u) bad v y := fun v y hr => hR w _ bad bad v y (by simp [World.setCell])
    (fun k _ hn => Below.heap_setCell _ _ _ _ (fun e => hn (h.isBad k (by show some g = some k; rw [e])))) (fun _ _ h => h) hr
  refine ⟨by rw [List.length_set]; exact ownsRow_set h.own hi u, h.isBad, fun j hj => ?_⟩
  rw [List.length_set] at hj
  by_cases e : i = j
  · subst e
    have e1 : (vals.set i u).getD i default = u := by simp [List.getD_eq_getElem?_getD, show i < vals.length by omega]
    have e2 : (l.set i x).getD i default = x := by simp [List.getD_eq_getElem?_getD, hi]
    rw [e1, e2]; exact hkp _ _ hx
  · have e1 : (vals.set i u).getD j default = vals.getD j default := by simp [List.getD_eq_getElem?_getD, List.getElem?_set_ne e]
    have e2 : (l.set i x).getD j default = l.getD j default := by simp [List.getD_eq_getElem?_getD, List.getElem?_set_ne e]
    rw [e1, e2]; exact hkp _ _ (h.all j hj)

/-- A cell of it, read. -/
theorem OwnV.cell {α : Type} [Inhabited α] {R : Holdr α} {w : World} {B : Nat} {T : TypeId} {bad : Nat → Prop} {g n cap j : Nat} {vals : List Value} {l : List α} (h : OwnV R w B T bad (.slice (some ⟨g, 0, none⟩) n cap) vals l) (hj : j < l.length) :
    w.cell? ⟨g, j, none⟩ = some (vals.getD j default) := by
  have hlen := h.len
  have hown := h.own
  have e : n = l.length := by
    rcases hown.2 with ⟨h0, _⟩ | ⟨_, _, _, h0, _⟩
    · cases h0
    · injection h0
  subst e
  rw [hown.cellAt j (by omega)]
  simp [List.getD_eq_getElem?_getD, List.getElem?_eq_getElem (show j < vals.length by omega)]

theorem OwnV.frz {α : Type} [Inhabited α] {R : Holdr α} {w : World} {B : Nat} {T : TypeId} {bad : Nat → Prop} {g n cap j : Nat} {vals : List Value} {l : List α} (h : OwnV R w B T bad (.slice (some ⟨g, 0, none⟩) n cap) vals l) :
    w.frozen? ⟨g, j, none⟩ = false := by
  rcases h.own.2 with ⟨h0, _⟩ | ⟨g', cap', cur, hv, _, hg, _⟩
  · cases h0
  · have e : g = g' := by injection hv with hv; injection hv with hv; injection hv
    subst e
    exact frozen_of_row w g j _ _ hg

theorem OwnV.lt {α : Type} [Inhabited α] {R : Holdr α} {w : World} {B : Nat} {T : TypeId} {bad : Nat → Prop} {g n cap : Nat} {vals : List Value} {l : List α} (h : OwnV R w B T bad (.slice (some ⟨g, 0, none⟩) n cap) vals l) : B ≤ g ∧ g < w.heap.size :=
  h.own.lt g rfl

/-- What a value of the call's own row of ints holds. -/
theorem HVec.own {w : World} {B T : Nat} {v : Value} {n : Nat} {l : List Nat} (h : w.ownsRow B T 1 v n (iv (ints l))) (hn : n = l.length) (bad : Nat → Prop) (hbad : ∀ k, bad k → k < B) : HVec w bad v l := by
  subst hn
  rcases h.2 with ⟨hv, h0⟩ | ⟨g, cap, cur, hv, hB, hg, h1⟩
  · exact ⟨none, 0, by rw [hv, h0], fun hp => by omega⟩
  · refine ⟨some ⟨g, 0, none⟩, cap, hv, fun hp => ⟨g, 0, rfl, (Array.getElem?_eq_some_iff.1 hg).1, fun hb => by have := hbad g hb; omega, fun j hj => ⟨_, ?_, rfl⟩⟩⟩
    rw [hv] at h
    rw [Nat.zero_add, h.cellAt j (by omega), iv_ints_get l j hj]; rfl

end Go.Proofs.Ytnejjgolmikplaa
