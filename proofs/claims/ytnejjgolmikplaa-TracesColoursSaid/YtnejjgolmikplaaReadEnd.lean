/- The end of traces.read: numbers, classes, the prime; what it leaves. -/
import Derived.Test.YtnejjgolmikplaaSortPerm
namespace Go.Proofs.Ytnejjgolmikplaa
open Go.RowKit Go.Proofs

/-- A group's elements for which all of read's work ends well. -/
structure GoodG (d : Nat) (els : List Nat) (q : Nat) : Prop where
  gok : GOK els
  ne : ∀ j, j < (clsOf els).2.length → 0 < ((clsOf els).2.getD j []).length ∧ ((clsOf els).2.getD j []).getD 0 0 < els.length
  ch : ∃ ords k, ords.length = (clsOf els).2.length ∧ (∀ j, j < (clsOf els).2.length → 1 ≤ ords.getD j 0 ∧ ordF els (((clsOf els).2.getD j []).getD 0 0) 30 (((clsOf els).2.getD j []).getD 0 0) 1 = some (ords.getD j 0)) ∧ k ≤ 900 ∧ chooseF ords k (max els.length d + 1) = some q

/-- What traces.read leaves. -/
def ReadPost (w : World) (d q : Nat) (fin : Option (List Nat)) (e : Ending) (w' : World) : Prop :=
  Below w.heap.size w w' ∧ match fin with
  | none => e = .returned (.tuple #[.pointer none, .int .i64 6])
  | some E => ∃ gb, w.heap.size ≤ gb ∧ e = .returned (.tuple #[.pointer (some ⟨gb, 0, none⟩), .int .i64 0]) ∧ GrpAt w' gb d (sortN E) q

theorem numbered_snoc (c : Nat) : ∀ (l : List Nat) (i : Nat), numbered i (l ++ [c]) = numbered i l ++ [(c, .int .i64 ((i + l.length : Nat) : Int))]
  | [], i => by simp [numbered]
  | k :: l, i => by
    have ih := numbered_snoc c l (i + 1)
    simp only [List.cons_append, numbered]
    rw [ih]
    simp only [List.length_cons, List.cons_append]
    rw [show i + 1 + l.length = i + (l.length + 1) from by omega]

theorem numbered_length : ∀ (l : List Nat) (i : Nat), (numbered i l).length = l.length
  | [], i => by simp [numbered]
  | k :: l, i => by simp [numbered, numbered_length l (i + 1)]

theorem atCode_fresh (c : Nat) : ∀ (l : List Nat) (n i : Nat), ¬ c ∈ l → atCode c i (numbered n l) = none
  | [], n, i, _ => by simp [numbered, atCode]
  | k :: l, n, i, h => by
    have ih := atCode_fresh c l (n + 1) (i + 1) (fun e => h (List.mem_cons_of_mem _ e))
    simp only [numbered, atCode]
    have hne : ¬ (c == k) = true := fun e => h (by have : c = k := by simpa using e
                                                   rw [this]; simp)
    rw [if_neg hne]; exact ih

/-- A new key put into a map of permutations. -/
theorem map_put {M E : TypeId} {T e : TypeId} {P : Program} (hM : P.underlying M = some (.map T E)) (hT : P.underlying T = some (.array 5 e)) (he : P.underlying e = some (.int .i64)) (hs : ∀ w, (Go.sizeOf e).run P w = .ok 1 w)
    (hg : ∀ w, (isAgg e).run P w = .ok false w) (v : Value) (r c : Nat) (hc : c < 32768) (w : World) (l : List (Nat × Value)) (h : ∀ x ∈ l, x.1 < 32768)
    (hb : w.heap[r]? = some (.map (ents 0 l).toArray l.length)) (hn : atCode c 0 l = none) :
    ∃ W, (Instr.mapUpdate M (.map (some r)) (.agg (cellsP c)) v).run P w = .ok () W ∧ W.heap[r]? = some (.map (ents 0 (l ++ [(c, v)])).toArray (l.length + 1)) ∧ w.grownBy W (some r) ∧ W.heap.size = w.heap.size := by
  refine ⟨_, run_mapUpdate_new hM hT he hs hg v r c l.length hc w l h hb hn, ?_, ⟨rfl, rfl, rfl, by simp, fun k hk hne => ?_⟩, by simp⟩
  · have hr : r < w.heap.size := (Array.getElem?_eq_some_iff.1 hb).1
    have := ents_push l c v 0
    rw [Nat.zero_add] at this
    rw [this]
    simp [Array.getElem?_setIfInBounds, hr]
  · have hne' : r ≠ k := fun e => hne (by rw [e])
    simp [Array.getElem?_setIfInBounds, hne']

theorem num_put (wr : World) (nb : Nat) (els : List Nat) (i : Nat) (hi : i < els.length) (hlt : ∀ c ∈ els, c < 32768) (hnd : els.Nodup)
    (hb : wr.heap[nb]? = some (.map (ents 0 (numbered 0 (els.take i))).toArray i)) :
    ∃ W, (Instr.mapUpdate 42 (.map (some nb)) (.agg (cellsP (els.getD i 0))) (.int .i64 i)).run Try.prog wr = .ok () W ∧ W.heap[nb]? = some (.map (ents 0 (numbered 0 (els.take (i + 1)))).toArray (i + 1)) ∧ wr.grownBy W (some nb) ∧ W.heap.size = wr.heap.size := by
  have hlen : (numbered 0 (els.take i)).length = i := by rw [numbered_length]; simp; omega
  have hb' : wr.heap[nb]? = some (.map (ents 0 (numbered 0 (els.take i))).toArray (numbered 0 (els.take i)).length) := by rw [hlen]; exact hb
  have hn : ¬ els.getD i 0 ∈ els.take i := by
    have e : els.getD i 0 = els[i] := by rw [List.getD_eq_getElem?_getD, List.getElem?_eq_getElem hi]; rfl
    rw [e]
    intro hm
    obtain ⟨j, hj, he⟩ := List.mem_iff_getElem.1 hm
    have hj' : j < i := by simp at hj; omega
    rw [List.getElem_take] at he
    exact List.pairwise_iff_getElem.1 hnd j i (by omega) hi hj' he
  obtain ⟨W, h1, h2, h3, h4⟩ := map_put Try.underlying42 Try.underlying46 Try.underlying3 sz3 agg3 (.int .i64 i) nb (els.getD i 0) (hlt _ (getD_mem _ _ hi)) wr (numbered 0 (els.take i)) (fun x hx => hlt _ (List.mem_of_mem_take (numbered_mem _ 0 x hx))) hb' (atCode_fresh _ _ _ _ hn)
  refine ⟨W, h1, ?_, h3, h4⟩
  have hs : els.take (i + 1) = els.take i ++ [els.getD i 0] := by
    rw [List.take_add_one, List.getElem?_eq_getElem hi, List.getD_eq_getElem?_getD, List.getElem?_eq_getElem hi]; rfl
  rw [hs, numbered_snoc, h2, hlen]
  have e1 : (els.take i).length = i := by simp; omega
  rw [e1, Nat.zero_add]

theorem rowsIn_of {w w' : World} {B TS gb n cc : Nat} {ca : Option Addr} {vals : List Value} {cls : List (List Nat)} (hown : w.ownsRow B TS 1 (.slice ca n cc) n vals) (hrows : RowsOwn w B vals cls (fun _ => False)) (hn : n = cls.length) (hgb : gb < B)
    (hk : ∀ k, k < w.heap.size → k ≠ gb → w'.heap[k]? = w.heap[k]?) (hs : w.heap.size ≤ w'.heap.size) : RowsIn w' ca (cls.map ints) := by
  intro hp
  have hp' : 0 < cls.length := by simpa using hp
  obtain ⟨cg, ccap, hcv, hcB, hcl⟩ := hown.form (by omega)
  obtain ⟨rfl, rfl⟩ : ca = some ⟨cg, 0, none⟩ ∧ cc = ccap := by simpa using hcv
  refine ⟨cg, 0, rfl, by omega, fun j hj => ?_⟩
  have hj' : j < cls.length := by simpa using hj
  obtain ⟨ra, rcap, hv, hr⟩ := hrows.2 j hj'
  have hc : w'.cell? ⟨cg, 0 + j, none⟩ = some (.slice ra (cls.getD j []).length rcap) := by
    rw [Nat.zero_add, World.cell?_of_block (a := ⟨cg, j, none⟩) (hk cg hcl (by omega)), hown.cellAt j (by omega), hv]
  rw [rows_getD]
  refine ⟨_, hc, ra, rcap, by rw [ints_length], fun hpos => ?_⟩
  rw [ints_length] at hpos
  obtain ⟨rb, rfl, hrB, hrl, -, hcells⟩ := hr hpos
  refine ⟨rb, 0, rfl, by omega, fun i hi => ?_⟩
  rw [ints_length] at hi
  rw [Nat.zero_add, World.cell?_of_block (a := ⟨rb, i, none⟩) (hk rb hrl (by omega)), hcells i hi, ints_getD]

theorem intsIn_of {w w' : World} {B T gb n cc : Nat} {ca : Option Addr} {xs : List Int} (hown : w.ownsRow B T 1 (.slice ca n cc) n (iv xs)) (hn : n = xs.length) (hgb : gb < B)
    (hk : ∀ k, k < w.heap.size → k ≠ gb → w'.heap[k]? = w.heap[k]?) (hs : w.heap.size ≤ w'.heap.size) : IntsIn w' ca xs := by
  intro hp
  obtain ⟨cg, ccap, hcv, hcB, hcl⟩ := hown.form (by omega)
  obtain ⟨rfl, rfl⟩ : ca = some ⟨cg, 0, none⟩ ∧ cc = ccap := by simpa using hcv
  refine ⟨cg, 0, rfl, by omega, fun i hi => ?_⟩
  rw [Nat.zero_add, World.cell?_of_block (a := ⟨cg, i, none⟩) (hk cg hcl (by omega)), hown.cellAt i (by omega), iv_get _ _ hi]

theorem GStep.off {gb : Nat} {S : Nat → Prop} {w w' : World} (h : GStep gb S w w') : ∀ k, k < w.heap.size → k ≠ gb → w'.heap[k]? = w.heap[k]? :=
  fun k hk hne => h.grown.block k hk (fun e => by injection e with e; exact hne e)

/-- Behind choose all of g lies as it should. -/
theorem grp_done {wS w' : World} {B T TS gb eb nb cap d q : Nat} {els : List Nat} (hS : SortedAt wS B T TS gb els) (hgB : gb < B) (hA : GAt wS gb eb nb cap els) (heg : eb ≠ gb) (hng : nb ≠ gb)
    (hd : wS.cell? ⟨gb, 0, none⟩ = some (.int .i64 d)) (hst : GStep gb (fun i => i = 6) wS w') (h6 : w'.cell? ⟨gb, 6, none⟩ = some (.int .i64 q)) : GrpAt w' gb d els q := by
  obtain ⟨kb, ca, ba, cc, bc, vals, hkB, h4, hk, hkl, h3, hown, hrows, h5, hback, hle⟩ := hS
  have hsz := hst.grown.size
  have hkbs : kb < wS.heap.size := (Array.getElem?_eq_some_iff.1 hk).1
  refine ⟨⟨eb, nb, cap, hst.gat hA (by simp) (by simp) heg hng⟩, (hst.keep 0 (by simp)).trans hd, ⟨ca, cc, (hst.keep 3 (by simp)).trans h3, rowsIn_of hown hrows rfl hgB hst.off hsz⟩,
    ⟨kb, by omega, (hst.keep 4 (by simp)).trans h4, fun j hj => ?_⟩, ⟨ba, bc, (hst.keep 5 (by simp)).trans h5, intsIn_of hback (by simp [backOf]) hgB hst.off hsz⟩, h6, Nat.lt_of_lt_of_le hst.lt hsz⟩
  rw [World.cell?_of_block (a := ⟨kb, j, none⟩) (hst.off kb hkbs (by omega))]
  exact cell_iv hk j (by rw [hkl]; exact hj)

/-- The relation of the loop that numbers the elements. -/
def NumRel (wo : World) (nb : Nat) (els : List Nat) (m : Nat) (iv0 : Value) (wr : World) : Prop :=
  ∃ i : Nat, i + m = els.length ∧ iv0 = .int .i64 i ∧ wr.heap[nb]? = some (.map (ents 0 (numbered 0 (els.take i))).toArray i) ∧ wo.grownBy wr (some nb)

end Go.Proofs.Ytnejjgolmikplaa
