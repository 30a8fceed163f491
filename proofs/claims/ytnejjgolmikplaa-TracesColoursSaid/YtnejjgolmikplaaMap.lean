/- Maps whose keys are permutations: what a lookup and an update do. -/
import Derived.Test.YtnejjgolmikplaaBase
namespace Go.Proofs.Ytnejjgolmikplaa
open Go.RowKit Go.Proofs

section
variable {P : Program} {T e : TypeId}

theorem run_part1 (hg : ∀ w, (isAgg e).run P w = .ok false w) (A : Array Value) (i : Nat) (v : Value) (h : A[i]? = some v) (w : World) : (part e A i).run P w = .ok v w := by
  simp [part, hg, h]

set_option maxHeartbeats 1000000 in
theorem run_equal_arr (hT : P.underlying T = some (.array 5 e)) (he : P.underlying e = some (.int .i64)) (hs : ∀ w, (Go.sizeOf e).run P w = .ok 1 w)
    (hg : ∀ w, (isAgg e).run P w = .ok false w) (A B : Array Value) (a b : Nat → Int) (hA : ∀ i, i < 5 → A[i]? = some (.int .i64 (a i))) (hB : ∀ i, i < 5 → B[i]? = some (.int .i64 (b i))) (w : World) (d : Nat) :
    (Op.equalIn (d + 2) T (.agg A) (.agg B)).run P w = .ok (a 0 == b 0 && a 1 == b 1 && a 2 == b 2 && a 3 == b 3 && a 4 == b 4) w := by
  have hb : ∀ x y w, (Op.equalIn (d + 1) e (.int .i64 x) (.int .i64 y)).run P w = .ok (x == y) w := fun x y w => run_equalIn_int w d e _ _ x y he
  rw [Op.equalIn]
  have hpA : ∀ i, i < 5 → ∀ w, (part e A i).run P w = .ok (.int .i64 (a i)) w := fun i hi w => run_part1 hg A i _ (hA i hi) w
  have hpB : ∀ i, i < 5 → ∀ w, (part e B i).run P w = .ok (.int .i64 (b i)) w := fun i hi w => run_part1 hg B i _ (hB i hi) w
  have a0 := hpA 0 (by omega)
  have a1 := hpA 1 (by omega)
  have a2 := hpA 2 (by omega)
  have a3 := hpA 3 (by omega)
  have a4 := hpA 4 (by omega)
  have b0 := hpB 0 (by omega)
  have b1 := hpB 1 (by omega)
  have b2 := hpB 2 (by omega)
  have b3 := hpB 3 (by omega)
  have b4 := hpB 4 (by omega)
  clear hpA hpB hA hB
  generalize a 0 = p0 at *
  generalize a 1 = p1 at *
  generalize a 2 = p2 at *
  generalize a 3 = p3 at *
  generalize a 4 = p4 at *
  generalize b 0 = q0 at *
  generalize b 1 = q1 at *
  generalize b 2 = q2 at *
  generalize b 3 = q3 at *
  generalize b 4 = q4 at *
  simp only [Sem.run_bind, run_underlying hT, Result.andThen_ok, hs, Std.Legacy.Range.forIn_eq_forIn_range', Std.Legacy.Range.size, List.range', Nat.sub_zero, Nat.add_sub_cancel, Nat.div_one, Nat.reduceAdd, Nat.reduceMul, Nat.zero_add, List.forIn_cons, a0, b0, hb, Sem.run_ite, Sem.run_pure, List.forIn_nil]
  cases h0 : p0 == q0
  · simp [Sem.run_pure]
  cases h1 : p1 == q1
  · simp [Sem.run_bind, a1, b1, hb, h1, Sem.run_pure]
  cases h2 : p2 == q2
  · simp [Sem.run_bind, a1, b1, a2, b2, hb, h1, h2, Sem.run_pure]
  cases h3 : p3 == q3
  · simp [Sem.run_bind, a1, b1, a2, b2, a3, b3, hb, h1, h2, h3, Sem.run_pure]
  cases h4 : p4 == q4 <;> simp [Sem.run_bind, a1, b1, a2, b2, a3, b3, a4, b4, hb, h1, h2, h3, h4, Sem.run_pure]

theorem run_checkKey_arr (hT : P.underlying T = some (.array 5 e)) (he : P.underlying e = some (.int .i64)) (hs : ∀ w, (Go.sizeOf e).run P w = .ok 1 w)
    (hg : ∀ w, (isAgg e).run P w = .ok false w) (A : Array Value) (a : Nat → Int) (hA : ∀ i, i < 5 → A[i]? = some (.int .i64 (a i))) (em : Bool) (w : World) (d : Nat) :
    (Instr.checkKey em (d + 2) T (.agg A)).run P w = .ok () w := by
  have hb : ∀ x w, (Instr.checkKey em (d + 1) e (.int .i64 x)).run P w = .ok () w := fun x w => by rw [Instr.checkKey]; simp [run_underlying he]
  rw [Instr.checkKey]
  have hpA : ∀ i, i < 5 → ∀ w, (part e A i).run P w = .ok (.int .i64 (a i)) w := fun i hi w => run_part1 hg A i _ (hA i hi) w
  have a0 := hpA 0 (by omega)
  have a1 := hpA 1 (by omega)
  have a2 := hpA 2 (by omega)
  have a3 := hpA 3 (by omega)
  have a4 := hpA 4 (by omega)
  clear hpA hA
  simp [Sem.run_bind, run_underlying hT, hs, Std.Legacy.Range.forIn_eq_forIn_range', Std.Legacy.Range.size, List.range', List.forIn_cons, a0, a1, a2, a3, a4, hb, Sem.run_pure]

theorem dg_inj {p q : Nat} (hp : p < 32768) (hq : q < 32768) (h : ∀ i, i < 5 → dg p i = dg q i) : p = q := by
  have h0 := h 0 (by omega)
  have h1 := h 1 (by omega)
  have h2 := h 2 (by omega)
  have h3 := h 3 (by omega)
  have h4 := h 4 (by omega)
  unfold dg at h0 h1 h2 h3 h4
  simp only [Nat.sub_zero, Nat.reduceSub, Nat.reducePow] at h0 h1 h2 h3 h4
  omega

theorem run_equal_cells (hT : P.underlying T = some (.array 5 e)) (he : P.underlying e = some (.int .i64)) (hs : ∀ w, (Go.sizeOf e).run P w = .ok 1 w)
    (hg : ∀ w, (isAgg e).run P w = .ok false w) (p q : Nat) (hp : p < 32768) (hq : q < 32768) (w : World) : (Op.equal T (.agg (cellsP p)) (.agg (cellsP q))).run P w = .ok (p == q) w := by
  unfold Op.equal Op.maxDepth
  rw [run_equal_arr hT he hs hg (cellsP p) (cellsP q) (fun i => (dg p i : Nat)) (fun i => (dg q i : Nat)) (cellsP_get p) (cellsP_get q) w 9998]
  congr 1
  by_cases h : p = q
  · subst h; simp
  · have : ¬ ∀ i, i < 5 → dg p i = dg q i := fun hh => h (dg_inj hp hq hh)
    have hf : (p == q) = false := by simpa using h
    rw [hf]
    apply Bool.eq_false_iff.2
    intro hh
    simp only [Bool.and_eq_true, beq_iff_eq, Int.natCast_inj] at hh
    apply this
    intro i hi
    have : i = 0 ∨ i = 1 ∨ i = 2 ∨ i = 3 ∨ i = 4 := by omega
    rcases this with rfl | rfl | rfl | rfl | rfl
    · exact hh.1.1.1.1
    · exact hh.1.1.1.2
    · exact hh.1.1.2
    · exact hh.1.2
    · exact hh.2

/-- The entries of a map, from a list of codes with values, born one after the other from n on. -/
def ents (n : Nat) : List (Nat × Value) → List MapEntry
  | [] => []
  | (c, v) :: l => ⟨.agg (cellsP c), v, n⟩ :: ents (n + 1) l

/-- Where a code stands, and its value. -/
def atCode (c : Nat) : Nat → List (Nat × Value) → Option (Nat × Value)
  | _, [] => none
  | i, (k, v) :: l => if c == k then some (i, v) else atCode c (i + 1) l

theorem run_findAsking_cells (hT : P.underlying T = some (.array 5 e)) (he : P.underlying e = some (.int .i64)) (hs : ∀ w, (Go.sizeOf e).run P w = .ok 1 w)
    (hg : ∀ w, (isAgg e).run P w = .ok false w) (c : Nat) (hc : c < 32768) (w : World) : ∀ (l : List (Nat × Value)) (n i : Nat), (∀ x ∈ l, x.1 < 32768) →
      (Instr.findAsking T (.agg (cellsP c)) (ents n l) i).run P w = .ok (atCode c i l) w
  | [], n, i, _ => by simp [ents, atCode, Instr.findAsking]
  | (k, v) :: l, n, i, h => by
    have ih := run_findAsking_cells hT he hs hg c hc w l (n + 1) (i + 1) (fun x hx => h x (by simp [hx]))
    have hk := run_equal_cells hT he hs hg c k hc (h (k, v) (by simp)) w
    simp only [ents, atCode, Instr.findAsking, Sem.run_bind, hk, Result.andThen_ok, Sem.run_ite, Sem.run_pure, ih]
    split <;> rfl

theorem run_findKey_cells (hT : P.underlying T = some (.array 5 e)) (he : P.underlying e = some (.int .i64)) (hs : ∀ w, (Go.sizeOf e).run P w = .ok 1 w)
    (hg : ∀ w, (isAgg e).run P w = .ok false w) (c : Nat) (hc : c < 32768) (w : World) (l : List (Nat × Value)) (h : ∀ x ∈ l, x.1 < 32768) :
      (Instr.findKey T (.agg (cellsP c)) (ents 0 l)).run P w = .ok (atCode c 0 l) w := by
  rw [run_findKey_eq w (by rw [hT])]
  exact run_findAsking_cells hT he hs hg c hc w l 0 0 h

theorem run_lookup_cells {M E : TypeId} (hM : P.underlying M = some (.map T E)) (hT : P.underlying T = some (.array 5 e)) (he : P.underlying e = some (.int .i64)) (hs : ∀ w, (Go.sizeOf e).run P w = .ok 1 w)
    (hg : ∀ w, (isAgg e).run P w = .ok false w) (z : Value) (hz : ∀ w, (zeroValue E).run P w = .ok z w) (r c clk : Nat) (hc : c < 32768) (w : World) (l : List (Nat × Value)) (h : ∀ x ∈ l, x.1 < 32768)
    (hb : w.heap[r]? = some (.map (ents 0 l).toArray clk)) :
      (Instr.lookup M (.map (some r)) (.agg (cellsP c)) false).run P w = .ok (((atCode c 0 l).map (·.2)).getD z) w := by
  have h1 := run_checkKey_arr hT he hs hg (cellsP c) (fun i => (dg c i : Nat)) (cellsP_get c) (ents 0 l).toArray.isEmpty w 9998
  have h2 := run_findKey_cells hT he hs hg c hc w l h
  simp only [Instr.lookup, Sem.run_bind, run_underlying hM, Result.andThen_ok, run_getObj_map w r _ _ hb, Sem.run_pure, h1, h2]
  cases atCode c 0 l with
  | none => simp [hz, Sem.run_bind]
  | some x => simp [Sem.run_pure]

theorem run_mapUpdate_new {M E : TypeId} (hM : P.underlying M = some (.map T E)) (hT : P.underlying T = some (.array 5 e)) (he : P.underlying e = some (.int .i64)) (hs : ∀ w, (Go.sizeOf e).run P w = .ok 1 w)
    (hg : ∀ w, (isAgg e).run P w = .ok false w) (v : Value) (r c clk : Nat) (hc : c < 32768) (w : World) (l : List (Nat × Value)) (h : ∀ x ∈ l, x.1 < 32768)
    (hb : w.heap[r]? = some (.map (ents 0 l).toArray clk)) (hn : atCode c 0 l = none) :
      (Instr.mapUpdate M (.map (some r)) (.agg (cellsP c)) v).run P w = .ok () { w with heap := w.heap.setIfInBounds r (.map ((ents 0 l).toArray.push ⟨.agg (cellsP c), v, clk⟩) (clk + 1)) } := by
  have h1 := run_checkKey_arr hT he hs hg (cellsP c) (fun i => (dg c i : Nat)) (cellsP_get c) false w 9998
  have h2 := run_findKey_cells hT he hs hg c hc w l h
  rw [hn] at h2
  simp only [Instr.mapUpdate, Sem.run_bind, run_underlying hM, Result.andThen_ok, run_getObj_map w r _ _ hb, h1, h2, MapKept.run_setObj_map _ hb]

theorem ents_push (l : List (Nat × Value)) (c : Nat) (v : Value) : ∀ n, (ents n l).toArray.push ⟨.agg (cellsP c), v, n + l.length⟩ = (ents n (l ++ [(c, v)])).toArray := by
  intro n
  apply Array.toList_inj.1
  simp only [Array.toList_push]
  induction l generalizing n with
  | nil => simp [ents]
  | cons x l ih =>
    obtain ⟨k, u⟩ := x
    have := ih (n + 1)
    simp only [List.length_cons, List.cons_append, ents, List.cons.injEq, true_and]
    rw [← this, show n + 1 + l.length = n + (l.length + 1) from by omega]
end
end Go.Proofs.Ytnejjgolmikplaa
