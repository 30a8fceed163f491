/- The walk of traces.read. -/
import Derived.Test.YtnejjgolmikplaaReadEnd
import Derived.Deep.DeepCutAuto
import Derived.Deep.RegionWith
import Derived.Carry
namespace Go.Proofs.Ytnejjgolmikplaa
open Go.RowKit Go.Proofs

theorem RowsIn.row {w : World} {a : Option Addr} {xss : List (List Int)} (h : RowsIn w a xss) (hp : 0 < xss.length) : ∃ b o, a = some ⟨b, o, none⟩ ∧ b < w.heap.size ∧
    ∀ j, j < xss.length → ∃ ra rc, w.cell? ⟨b, o + j, none⟩ = some (.slice ra (xss.getD j []).length rc) ∧ IntsIn w ra (xss.getD j []) := by
  obtain ⟨b, o, ha, hb, hc⟩ := h hp
  refine ⟨b, o, ha, hb, fun j hj => ?_⟩
  obtain ⟨v, hv, ra, rc, rfl, hi⟩ := hc j hj
  exact ⟨ra, rc, hv, hi⟩

theorem isPermB_facts {l : List Int} {d : Nat} (h : isPermB l d = true) : l.length = d ∧ ∀ i, i < l.length → 0 ≤ l.getD i 0 ∧ l.getD i 0 < (d : Int) := by
  unfold isPermB at h
  simp only [Bool.and_eq_true, List.all_eq_true, decide_eq_true_eq] at h
  obtain ⟨h1, h2, _⟩ := h
  refine ⟨h2, fun i hi => ?_⟩
  have := h1 l[i] (List.getElem_mem hi)
  rw [List.getD_eq_getElem?_getD, List.getElem?_eq_getElem hi]
  simpa using this

theorem copy_code (l : List Int) (d : Nat) (hl : l.length = d) (hd : d ≤ 5) (hb : ∀ i, i < l.length → 0 ≤ l.getD i 0 ∧ l.getD i 0 < (d : Int)) :
    ((#[Value.int .i64 0, .int .i64 1, .int .i64 2, .int .i64 3, .int .i64 4] : Array Value).toList.take 0 ++ iv l ++ (#[Value.int .i64 0, .int .i64 1, .int .i64 2, .int .i64 3, .int .i64 4] : Array Value).toList.drop (0 + (iv l).length)).toArray = cellsP (permCode l) := by
  have hcase : ∀ i x : Nat, i < 5 → (if i < l.length then (l.getD i 0).toNat else x) < 8 ∨ ¬ x < 8 := by
    intro i x hi
    by_cases h : i < l.length
    · have := hb i h; rw [if_pos h]; left; omega
    · rw [if_neg h]; omega
  obtain ⟨e0, e1, e2, e3, e4⟩ := dg_mk5 _ _ _ _ _ ((hcase 0 0 (by omega)).resolve_right (by omega)) ((hcase 1 1 (by omega)).resolve_right (by omega)) ((hcase 2 2 (by omega)).resolve_right (by omega)) ((hcase 3 3 (by omega)).resolve_right (by omega)) ((hcase 4 4 (by omega)).resolve_right (by omega))
  unfold cellsP permCode
  rw [e0, e1, e2, e3, e4]
  match l, hl, hb with
  | [], _, _ => rfl
  | [a], _, hb => have := hb 0 (by simp); simp [iv] at this ⊢; omega
  | [a, b], _, hb => have h0 := hb 0 (by simp); have h1 := hb 1 (by simp); simp [iv] at h0 h1 ⊢; omega
  | [a, b, c], _, hb => have h0 := hb 0 (by simp); have h1 := hb 1 (by simp); have h2 := hb 2 (by simp); simp [iv] at h0 h1 h2 ⊢; omega
  | [a, b, c, e], _, hb => have h0 := hb 0 (by simp); have h1 := hb 1 (by simp); have h2 := hb 2 (by simp); have h3 := hb 3 (by simp); simp [iv] at h0 h1 h2 h3 ⊢; omega
  | [a, b, c, e, f], _, hb => have h0 := hb 0 (by simp); have h1 := hb 1 (by simp); have h2 := hb 2 (by simp); have h3 := hb 3 (by simp); have h4 := hb 4 (by simp); simp [iv] at h0 h1 h2 h3 h4 ⊢; omega
  | _ :: _ :: _ :: _ :: _ :: _ :: r, hl, _ => simp at hl; omega

/-- g's cells while its elements are being found. -/
def gcells (d : Nat) (v : Value) : Array Value := #[.int .i64 d, v, .map none, .slice none 0 0, .slice none 0 0, .slice none 0 0, .int .i64 0]

def seen (E : List Nat) : List (Nat × Value) := E.map fun c => (c, .bool true)

theorem seen_snoc (E : List Nat) (c : Nat) : seen (E ++ [c]) = seen E ++ [(c, .bool true)] := by simp [seen]
theorem seen_length (E : List Nat) : (seen E).length = E.length := by simp [seen]
theorem seen_mem {E : List Nat} {x : Nat × Value} (h : x ∈ seen E) : x.1 ∈ E := by
  simp only [seen, List.mem_map] at h
  obtain ⟨c, hc, rfl⟩ := h
  exact hc

theorem atCode_seen (c : Nat) : ∀ (E : List Nat) (i : Nat), ((atCode c i (seen E)).map (·.2)).getD (.bool false) = .bool (decide (c ∈ E))
  | [], i => by simp [seen, atCode]
  | k :: E, i => by
    have ih := atCode_seen c E (i + 1)
    simp only [seen, List.map_cons, atCode] at ih ⊢
    by_cases hk : (c == k) = true
    · have : c = k := by simpa using hk
      rw [if_pos hk]; simp [this]
    · have hne : c ≠ k := by simpa using hk
      rw [if_neg hk, ih]
      simp [hne]
theorem atCode_none (c : Nat) : ∀ (E : List Nat) (i : Nat), ¬ c ∈ E → atCode c i (seen E) = none
  | [], i, _ => by simp [seen, atCode]
  | k :: E, i, h => by
    have ih := atCode_none c E (i + 1) (fun e => h (List.mem_cons_of_mem _ e))
    simp only [seen, List.map_cons, atCode] at ih ⊢
    have hne : ¬ (c == k) = true := fun e => h (by have : c = k := by simpa using e
                                                   rw [this]; simp)
    rw [if_neg hne]; exact ih

/-- Codes that may stand for permutations, each once. -/
structure EOK (E : List Nat) : Prop where
  lt : ∀ c ∈ E, c < 32768
  ok : ∀ c ∈ E, okC c
  nd : E.Nodup
  pos : 0 < E.length

theorem mk5_lt (a b c d e : Nat) (ha : a < 8) (hb : b < 8) (hc : c < 8) (hd : d < 8) (he : e < 8) : mk5 a b c d e < 32768 := by unfold mk5; omega
theorem mulC_lt (p q : Nat) : mulC p q < 32768 := mk5_lt _ _ _ _ _ (dg_lt _ _) (dg_lt _ _) (dg_lt _ _) (dg_lt _ _) (dg_lt _ _)

theorem EOK.snoc {E : List Nat} (h : EOK E) {c : Nat} (h1 : c < 32768) (h2 : okC c) (h3 : ¬ c ∈ E) : EOK (E ++ [c]) := by
  refine ⟨fun x hx => ?_, fun x hx => ?_, ?_, by simp⟩
  · rcases List.mem_append.1 hx with hx | hx
    · exact h.lt x hx
    · simp at hx; rw [hx]; exact h1
  · rcases List.mem_append.1 hx with hx | hx
    · exact h.ok x hx
    · simp at hx; rw [hx]; exact h2
  · rw [List.nodup_append]
    refine ⟨h.nd, by simp, fun a ha b hb => ?_⟩
    simp at hb; subst hb
    intro e; subst e; exact h3 ha

/-- Memory while the elements are being found: g, the elements, and the map of those that are known. -/
structure BfsMem (wo : World) (T TG gb mb d : Nat) (E : List Nat) (eb cap : Nat) (wr : World) : Prop where
  kp : KeepBut gb mb wo wr
  g : wr.heap[gb]? = some (.cells (gcells d (.slice (some ⟨eb, 0, none⟩) E.length cap)) TG (0, 0))
  own : wr.ownsRow (mb + 1) T 5 (.slice (some ⟨eb, 0, none⟩) E.length cap) E.length (flat E)
  mp : wr.heap[mb]? = some (.map (ents 0 (seen E)).toArray E.length)
  ok : EOK E

/-- A new variable that holds a permutation. -/
def NewPerm (Wp : World) (T c : Nat) (x : Value) (wx : World) : Prop :=
  ∃ xb, x = .pointer (some ⟨xb, 0, none⟩) ∧ wx.heap[xb]? = some (.cells (cellsP c) T (0, 0)) ∧ Below Wp.heap.size Wp wx ∧ Wp.heap.size ≤ xb

theorem zero_box {Wp w1 : World} {T : Nat} {v : Value} (h : Below (Wp.alloc (.cells #[v, v, v, v, v] T)).drew.heap.size (Wp.alloc (.cells #[v, v, v, v, v] T)).drew w1) :
    w1.cell? ⟨Wp.heap.size, 0, none⟩ = some v ∧ w1.cell? ⟨Wp.heap.size, 1, none⟩ = some v ∧ w1.cell? ⟨Wp.heap.size, 2, none⟩ = some v ∧ w1.cell? ⟨Wp.heap.size, 3, none⟩ = some v ∧ w1.cell? ⟨Wp.heap.size, 4, none⟩ = some v ∧
    w1.frozen? ⟨Wp.heap.size, 0, none⟩ = false ∧ w1.frozen? ⟨Wp.heap.size, 1, none⟩ = false ∧ w1.frozen? ⟨Wp.heap.size, 2, none⟩ = false ∧ w1.frozen? ⟨Wp.heap.size, 3, none⟩ = false ∧ w1.frozen? ⟨Wp.heap.size, 4, none⟩ = false := by
  have hb : w1.heap[Wp.heap.size]? = some (.cells #[v, v, v, v, v] T (0, 0)) := (h.block _ (by show Wp.heap.size < (Wp.alloc _).heap.size; simp)).trans (heap_alloc_new Wp _)
  refine ⟨?_, ?_, ?_, ?_, ?_, ?_, ?_, ?_, ?_, ?_⟩
  · rw [cell_of_row w1 _ 0 _ _ _ hb]; rfl
  · rw [cell_of_row w1 _ 1 _ _ _ hb]; rfl
  · rw [cell_of_row w1 _ 2 _ _ _ hb]; rfl
  · rw [cell_of_row w1 _ 3 _ _ _ hb]; rfl
  · rw [cell_of_row w1 _ 4 _ _ _ hb]; rfl
  all_goals exact frozen_of_row w1 _ _ _ _ hb

def BfsRel (wo : World) (T TG gb mb d : Nat) (codes : List Nat) (fin : Option (List Nat)) (m : Nat) (kv : Value) (wr : World) : Prop :=
  ∃ (kk : Nat) (E : List Nat) (eb cap : Nat), kv = .int .i64 kk ∧ bfsF codes m kk E = some fin ∧ BfsMem wo T TG gb mb d E eb cap wr ∧ E.length ≤ 24 ∧ kk ≤ E.length

def BfsInRel (wo : World) (T TG gb mb d : Nat) (codes : List Nat) (kk e : Nat) (E' : List Nat) (m : Nat) (iv0 : Value) (wr : World) : Prop :=
  ∃ (i : Nat) (E : List Nat) (eb cap : Nat), i + m = codes.length ∧ iv0 = .int .i64 i ∧ bfsIn e (codes.drop i) E = E' ∧ BfsMem wo T TG gb mb d E eb cap wr ∧ E.getD kk 0 = e ∧ kk < E.length ∧ E.length ≤ 24 + i

theorem zero_block {Wp w1 : World} {T : Nat} {v : Value} (h : Below (Wp.alloc (.cells #[v, v, v, v, v] T)).drew.heap.size (Wp.alloc (.cells #[v, v, v, v, v] T)).drew w1) :
    w1.heap[Wp.heap.size]? = some (.cells #[v, v, v, v, v] T (0, 0)) := (h.block _ (by show Wp.heap.size < (Wp.alloc _).heap.size; simp)).trans (heap_alloc_new Wp _)

theorem box_set5 {w1 : World} {b T : Nat} {v v0 v1 v2 v3 v4 : Value} (h : w1.heap[b]? = some (.cells #[v, v, v, v, v] T (0, 0))) :
    (((((w1.setCell ⟨b, 0, none⟩ v0).setCell ⟨b, 1, none⟩ v1).setCell ⟨b, 2, none⟩ v2).setCell ⟨b, 3, none⟩ v3).setCell ⟨b, 4, none⟩ v4).heap[b]? = some (.cells #[v0, v1, v2, v3, v4] T (0, 0)) := by
  simp only [World.setCell, Array.getElem?_modify, if_true, h, Option.map_some]
  simp

theorem set_gcells {w : World} {gb d TG : Nat} {v : Value} (h : w.heap[gb]? = some (.cells (gcells d v) TG (0, 0))) (v' : Value) :
    (w.setCell ⟨gb, 1, none⟩ v').heap[gb]? = some (.cells (gcells d v') TG (0, 0)) := by
  simp only [World.setCell, Array.getElem?_modify, if_true, h, Option.map_some]
  simp [gcells]

theorem BfsMem.below {wo wr wc : World} {T TG gb mb d eb cap : Nat} {E : List Nat} (h : BfsMem wo T TG gb mb d E eb cap wr) (hgm : gb < mb) (hb : Below wr.heap.size wr wc) : BfsMem wo T TG gb mb d E eb cap wc := by
  have hms : mb < wr.heap.size := (Array.getElem?_eq_some_iff.1 h.mp).1
  exact ⟨h.kp.trans (KeepBut.below (Nat.le_of_lt hms) hb), (hb.block gb (by omega)).trans h.g, ownsRow_below h.own hb, (hb.block mb hms).trans h.mp, h.ok⟩

theorem bfs_step {wo wr WM w9 : World} {T TG gb mb d eb cap g9 cap9 c : Nat} {E : List Nat} (h : BfsMem wo T TG gb mb d E eb cap wr) (hgm : gb < mb)
    (hmp : WM.heap[mb]? = some (.map (ents 0 (seen E ++ [(c, .bool true)])).toArray (E.length + 1))) (hgw : wr.grownBy WM (some mb))
    (hown9 : w9.ownsRow (mb + 1) T 5 (.slice (some ⟨g9, 0, none⟩) (E.length + 1) cap9) (E.length + 1) (flat E ++ (cellsP c).toList)) (hgr9 : WM.grownBy w9 (some eb))
    (h1 : c < 32768) (h2 : okC c) (h3 : ¬ c ∈ E) : BfsMem wo T TG gb mb d (E ++ [c]) g9 cap9 (w9.setCell ⟨gb, 1, none⟩ (.slice (some ⟨g9, 0, none⟩) (E.length + 1) cap9)) := by
  have hms : mb < wr.heap.size := (Array.getElem?_eq_some_iff.1 h.mp).1
  have heb := h.own.lt eb rfl
  have hs1 := hgw.size
  have hs2 := hgr9.size
  have hg9 : w9.heap[gb]? = _ := ((hgr9.block gb (by omega) (fun e => by injection e; omega)).trans (hgw.block gb (by omega) (fun e => by injection e; omega))).trans h.g
  refine ⟨⟨hgr9.os.trans (hgw.os.trans h.kp.os), hgr9.tape.trans (hgw.tape.trans h.kp.tape), hgr9.output.trans (hgw.output.trans h.kp.output), by have := h.kp.size; simp [World.setCell]; omega, h.kp.hH, fun k hk hne => ?_⟩, ?_, ?_, ?_, h.ok.snoc h1 h2 h3⟩
  · rw [Below.heap_setCell _ _ _ _ (by show k ≠ gb; exact hne)]
    exact ((hgr9.block k (by omega) (fun e => by injection e; omega)).trans (hgw.block k (by omega) (fun e => by injection e; omega))).trans (h.kp.block k hk hne)
  · rw [show (E ++ [c]).length = E.length + 1 from by simp]; exact set_gcells hg9 _
  · rw [show (E ++ [c]).length = E.length + 1 from by simp, flat_snoc]
    exact ownsRow_setCell_below hown9 (by show gb < _; omega) _
  · rw [Below.heap_setCell _ _ _ _ (by show mb ≠ gb; omega), seen_snoc, show (E ++ [c]).length = E.length + 1 from by simp]
    exact (hgr9.block mb (by omega) (fun e => by injection e; omega)).trans hmp

theorem zeroB : ∀ w, (zeroValue 4).run Try.prog w = .ok (.bool false) w := fun _ => by kernel_rfl

theorem bfs_lookup {wo wr : World} {gb mb d eb cap : Nat} {E : List Nat} (h : BfsMem wo 46 44 gb mb d E eb cap wr) (c : Nat) (hc : c < 32768) :
    (Instr.lookup 57 (.map (some mb)) (.agg (cellsP c)) false).run Try.prog wr = .ok (.bool (decide (c ∈ E))) wr := by
  rw [run_lookup_cells Try.underlying57 Try.underlying46 Try.underlying3 sz3 agg3 _ zeroB mb c E.length hc wr (seen E) (fun x hx => h.ok.lt _ (seen_mem hx)) h.mp, atCode_seen]

theorem bfs_put {wo wr : World} {gb mb d eb cap : Nat} {E : List Nat} (h : BfsMem wo 46 44 gb mb d E eb cap wr) (c : Nat) (hc : c < 32768) (hn : ¬ c ∈ E) :
    ∃ W, (Instr.mapUpdate 57 (.map (some mb)) (.agg (cellsP c)) (.bool true)).run Try.prog wr = .ok () W ∧ W.heap[mb]? = some (.map (ents 0 (seen E ++ [(c, .bool true)])).toArray (E.length + 1)) ∧ wr.grownBy W (some mb) ∧ W.heap.size = wr.heap.size := by
  have hp := h.mp
  rw [← seen_length E] at hp ⊢
  exact map_put Try.underlying57 Try.underlying46 Try.underlying3 sz3 agg3 (.bool true) mb c hc wr (seen E) (fun x hx => h.ok.lt _ (seen_mem hx)) hp (atCode_none c E 0 hn)

theorem below_of_grown {w w' : World} {row : Option Nat} {B : Nat} (h : w.grownBy w' row) (hB : B ≤ w.heap.size) (hr : ∀ k, row = some k → B ≤ k) : Below B w w' :=
  ⟨h.os, h.tape, h.output, h.size, fun k hk => h.block k (by omega) (fun e => by have := hr k e.symm; omega)⟩

theorem bfs_done {w W1 wo wr : World} {T TG d eb cap : Nat} {E : List Nat} (h : BfsMem wo T TG w.heap.size wo.heap.size d E eb cap wr) (hW : Below w.heap.size w W1) (hb : Below (w.heap.size + 2) W1 wo) (hs : W1.heap.size = w.heap.size + 2) : Below w.heap.size w wr := by
  have hg : w.heap.size < wr.heap.size := (Array.getElem?_eq_some_iff.1 h.g).1
  have hz := hb.size
  refine ⟨h.kp.os.trans (hb.os.trans hW.os), h.kp.tape.trans (hb.tape.trans hW.tape), h.kp.output.trans (hb.output.trans hW.output), by omega, fun k hk => ?_⟩
  rw [h.kp.block k (by omega) (by omega), hb.block k (by omega), hW.block k hk]

theorem eok_id : EOK [idC] := ⟨by decide, by simp only [List.mem_singleton, forall_eq]; unfold okC; decide, by simp, by simp⟩

theorem bfs_start {wo W3 : World} {T TG gb d : Nat} (hgb : gb < wo.heap.size) (hb : Below wo.heap.size wo W3) (hk : W3.heap[wo.heap.size]? = some (.map (ents 0 ([] ++ [(idC, .bool true)])).toArray (0 + 1 : Nat))) (hs : W3.heap.size = wo.heap.size + 1)
    (hg : W3.heap[gb]? = some (.cells (gcells d (.slice none 0 0)) TG (0, 0))) :
    BfsMem wo T TG gb wo.heap.size d [idC] (wo.heap.size + 1) 1 ((W3.setCell ⟨gb, 1, none⟩ (.slice (some ⟨wo.heap.size + 1, 0, none⟩) 1 1)).alloc (.cells (cellsP idC) T)) := by
  have hsz : (W3.setCell ⟨gb, 1, none⟩ (.slice (some ⟨wo.heap.size + 1, 0, none⟩) 1 1)).heap.size = wo.heap.size + 1 := by simp [World.setCell, hs]
  refine ⟨⟨hb.os, hb.tape, hb.output, by simp [World.setCell, hs]; omega, Nat.le_refl _, fun k hk1 hne => ?_⟩, ?_, ⟨by simp [flat, cellsP], .inr ⟨wo.heap.size + 1, 1, cellsP idC, rfl, Nat.le_refl _, ?_, Nat.le_refl _, by unfold maxLen; omega, rfl, rfl⟩⟩, ?_, eok_id⟩
  · rw [Below.heap_alloc _ _ _ (by omega), Below.heap_setCell _ _ _ _ (by show k ≠ gb; exact hne)]
    exact hb.block k hk1
  · rw [Below.heap_alloc _ _ _ (by omega)]; exact set_gcells hg _
  · have := heap_alloc_new (W3.setCell ⟨gb, 1, none⟩ (.slice (some ⟨wo.heap.size + 1, 0, none⟩) 1 1)) (.cells (cellsP idC) T)
    rw [hsz] at this; exact this
  · rw [Below.heap_alloc _ _ _ (by omega), Below.heap_setCell _ _ _ _ (by show wo.heap.size ≠ gb; omega)]
    exact hk

/-- g's cells while its elements are being numbered. -/
def gcells2 (d : Nat) (v m : Value) : Array Value := #[.int .i64 d, v, m, .slice none 0 0, .slice none 0 0, .slice none 0 0, .int .i64 0]

theorem set_gcells2 {w : World} {gb d TG : Nat} {v : Value} (h : w.heap[gb]? = some (.cells (gcells d v) TG (0, 0))) (m : Value) :
    (w.setCell ⟨gb, 2, none⟩ m).heap[gb]? = some (.cells (gcells2 d v m) TG (0, 0)) := by
  simp only [World.setCell, Array.getElem?_modify, if_true, h, Option.map_some]
  simp [gcells, gcells2]

/-- Where the numbering begins. -/
structure NumAt (ws wx : World) (gb nb d eb cap TG : Nat) (els : List Nat) : Prop where
  g : wx.heap[gb]? = some (.cells (gcells2 d (.slice (some ⟨eb, 0, none⟩) els.length cap) (.map (some nb))) TG (0, 0))
  n : wx.heap[nb]? = some (.map #[] 0)
  el : ∀ k i, k < els.length → i < 5 → wx.cell? ⟨eb, k * 5 + i, none⟩ = some (.int .i64 (dg (els.getD k 0) i : Nat))
  nb : nb = ws.heap.size
  sz : wx.heap.size = ws.heap.size + 1
  st : ws.grownBy wx (some gb)

theorem num_start {ws : World} {gb d eb cap TG n : Nat} {els : List Nat} (hn : n = els.length) (hge : gb ≠ eb) (hg : ws.heap[gb]? = some (.cells (gcells d (.slice (some ⟨eb, 0, none⟩) n cap)) TG (0, 0)))
    (he : ∀ k i, k < n → i < 5 → ws.cell? ⟨eb, k * 5 + i, none⟩ = some (.int .i64 (dg (els.getD k 0) i : Nat))) :
    NumAt ws ((ws.setCell ⟨gb, 2, none⟩ (.map (some ws.heap.size))).alloc (.map #[] 0)) gb ws.heap.size d eb cap TG els := by
  subst hn
  have hgs : gb < ws.heap.size := (Array.getElem?_eq_some_iff.1 hg).1
  have hsz : (ws.setCell ⟨gb, 2, none⟩ (.map (some ws.heap.size))).heap.size = ws.heap.size := by simp [World.setCell]
  refine ⟨?_, ?_, fun k i hk hi => ?_, rfl, by simp [World.setCell], ⟨rfl, rfl, rfl, by simp [World.setCell], fun k hk hne => ?_⟩⟩
  · rw [Below.heap_alloc _ _ _ (by omega)]; exact set_gcells2 hg _
  · have := heap_alloc_new (ws.setCell ⟨gb, 2, none⟩ (.map (some ws.heap.size))) (.map #[] 0)
    rw [hsz] at this; exact this
  · have h := he k i hk hi
    have hb := lt_of_cell h
    rw [World.cell?_of_block (a := ⟨eb, k * 5 + i, none⟩) ((Below.heap_alloc _ _ _ (by show eb < _; rw [hsz]; exact hb)).trans (Below.heap_setCell _ _ _ _ (by show eb ≠ gb; omega)))]
    exact h
  · rw [Below.heap_alloc _ _ _ (by omega), Below.heap_setCell _ _ _ _ (by show k ≠ gb; intro e; exact hne (by rw [e]))]

/-- The relation of the loop over the generators. -/
def GensRel (W1 : World) (T B : Nat) (gs : List (List Int)) (k : Nat) (byv iv0 : Value) (wr : World) : Prop :=
  ∃ j : Nat, j + k = gs.length ∧ iv0 = .int .i64 j ∧ wr.ownsRow B T 5 byv j (flat ((gs.map permCode).take j)) ∧ Below B W1 wr

set_option maxHeartbeats 4000000 in
set_option maxRecDepth 100000 in
theorem read_ok (ga : Option Addr) (gc : Nat) (gs : List (List Int)) (w : World) (hrows : RowsIn w ga gs) (hg1 : 1 ≤ gs.length) (hg4 : gs.length ≤ 4) (hd1 : 1 ≤ (gs.getD 0 []).length) (hd5 : (gs.getD 0 []).length ≤ 5)
    (hall : ∀ j, j < gs.length → isPermB (gs.getD j []) (gs.getD 0 []).length = true) (hsm : ∀ j, j < gs.length → (gs.getD j []).length ≤ 1000) (bk : Nat) (hbk : bk ≤ 1000) (fin : Option (List Nat)) (hbfs : bfsF (gs.map permCode) bk 0 [idC] = some fin) (hcodes : ∀ c ∈ gs.map permCode, c < 32768 ∧ okC c) (q : Nat) (hgood : ∀ E, fin = some E → GoodG (gs.getD 0 []).length (sortN E) q) :
    Calls Try.prog 15 #[.slice ga gs.length gc] w fun e w' => ReadPost w (gs.getD 0 []).length q fin e w' := by
  obtain ⟨gb0, go0, rfl, hgb0, hrow⟩ := hrows.row (by omega)
  obtain ⟨a0, c0, hc0, -⟩ := hrow 0 (by omega)
  rw [Nat.add_zero] at hc0
  generalize hd : (gs.getD 0 []).length = d at *
  have HD := Lib.hid hd
  have HALL := Lib.hid hall
  have HSM := Lib.hid hsm
  have HROW := Lib.hid hrow
  have HBFS := Lib.hid hbfs
  have HCODES := Lib.hid hcodes
  have HGOOD := Lib.hid hgood
  clear hbfs hcodes hgood
  have hq1 : decide ((gs.length : Int) < 1) = false := by simp; omega
  have hq2 : decide (4 < (gs.length : Int)) = false := by simp; omega
  have hq3 : decide ((d : Int) < 1) = false := by simp; omega
  have hq4 : decide (5 < (d : Int)) = false := by simp; omega
  obtain ⟨i46, hi46⟩ := info_parts (by kernel_rfl : (Try.prog.info? 46).map (fun i => (i.zero, i.size, i.bytes)) = some (some (.agg #[.int .i64 0, .int .i64 0, .int .i64 0, .int .i64 0, .int .i64 0]), 5, 40))
  have HI46 := Lib.hid hi46
  have hsz3 : (Try.prog.info? 3).map (·.size) = some 1 := by kernel_rfl
  have HSZ := Lib.hid hsz3
  clear hd hall hsm hrow hrows hi46 hsz3
  go_enter Try.func15, Try.ntmps15
  go_wp2_with fail
  have hW1b : Below w.heap.size w ((w.alloc (.cells #[.int .i64 d, .slice none 0 0, .map none, .slice none 0 0, .slice none 0 0, .slice none 0 0, .int .i64 0] 44)).alloc (.cells (cellsP idC) 46)) :=
    ((Below.refl _ _).alloc (Nat.le_refl _) _).alloc (by simp) _
  have hW1g : ((w.alloc (.cells #[.int .i64 d, .slice none 0 0, .map none, .slice none 0 0, .slice none 0 0, .slice none 0 0, .int .i64 0] 44)).alloc (.cells (cellsP idC) 46)).heap[w.heap.size]? = some (.cells #[.int .i64 d, .slice none 0 0, .map none, .slice none 0 0, .slice none 0 0, .slice none 0 0, .int .i64 0] 44 (0, 0)) := by
    rw [Below.heap_alloc _ _ _ (by simp)]; exact heap_alloc_new w _
  have hW1o : ((w.alloc (.cells #[.int .i64 d, .slice none 0 0, .map none, .slice none 0 0, .slice none 0 0, .slice none 0 0, .int .i64 0] 44)).alloc (.cells (cellsP idC) 46)).heap[w.heap.size + 1]? = some (.cells (cellsP idC) 46 (0, 0)) := by
    have := heap_alloc_new (w.alloc (.cells #[.int .i64 d, .slice none 0 0, .map none, .slice none 0 0, .slice none 0 0, .slice none 0 0, .int .i64 0] 44)) (.cells (cellsP idC) 46)
    simpa using this
  have hW1s : ((w.alloc (.cells #[.int .i64 d, .slice none 0 0, .map none, .slice none 0 0, .slice none 0 0, .slice none 0 0, .int .i64 0] 44)).alloc (.cells (cellsP idC) 46)).heap.size = w.heap.size + 2 := by simp
  change Code.wp _ _ _ _ ((w.alloc (.cells #[.int .i64 d, .slice none 0 0, .map none, .slice none 0 0, .slice none 0 0, .slice none 0 0, .int .i64 0] 44)).alloc (.cells (cellsP idC) 46))
  generalize hW1 : (w.alloc (.cells #[.int .i64 d, .slice none 0 0, .map none, .slice none 0 0, .slice none 0 0, .slice none 0 0, .int .i64 0] 44)).alloc (.cells (cellsP idC) 46) = W1 at *
  clear hW1
  have HWB := Lib.hid hW1b
  have HWG := Lib.hid hW1g
  have HWO := Lib.hid hW1o
  have HWS := Lib.hid hW1s
  clear hW1b hW1g hW1o hW1s
  go_loopg [6, 46] gs.length (fun k byv iv wr => GensRel W1 46 (w.heap.size + 2) gs k byv iv wr)
  case atStart => exact ⟨0, by omega, rfl, World.ownsRow_nil _ _ _ _, Below.refl _ _⟩
  case round =>
    obtain ⟨j, hjk, rfl, hown, hbel⟩ := hrel
    have hww : Below w.heap.size w wr := HWB.out.trans (hbel.mono (by omega))
    have hsr : w.heap.size + 2 ≤ wr.heap.size := by have := hbel.size; have := HWS.out; omega
    have hgr : wr.heap[w.heap.size]? = _ := (hbel.block _ (by omega)).trans HWG.out
    have hor : wr.heap[w.heap.size + 1]? = _ := (hbel.block _ (by omega)).trans HWO.out
    have hg0 : wr.cell? ⟨w.heap.size, 0, none⟩ = some (.int .i64 d) := by rw [cell_of_row wr _ 0 _ _ _ hgr]; rfl
    have ho0 : wr.cell? ⟨w.heap.size + 1, 0, none⟩ = some (.int .i64 0) := by rw [cell_of_row wr _ 0 _ _ _ hor]; rfl
    have ho1 : wr.cell? ⟨w.heap.size + 1, 1, none⟩ = some (.int .i64 1) := by rw [cell_of_row wr _ 1 _ _ _ hor]; rfl
    have ho2 : wr.cell? ⟨w.heap.size + 1, 2, none⟩ = some (.int .i64 2) := by rw [cell_of_row wr _ 2 _ _ _ hor]; rfl
    have ho3 : wr.cell? ⟨w.heap.size + 1, 3, none⟩ = some (.int .i64 3) := by rw [cell_of_row wr _ 3 _ _ _ hor]; rfl
    have ho4 : wr.cell? ⟨w.heap.size + 1, 4, none⟩ = some (.int .i64 4) := by rw [cell_of_row wr _ 4 _ _ _ hor]; rfl
    have HGR := Lib.hid hgr
    have HOR := Lib.hid hor
    clear hgr hor
    cases gk with
    | zero =>
      obtain rfl : j = gs.length := by omega
      have hby : (gs.map permCode).take gs.length = gs.map permCode := List.take_of_length_le (by simp)
      rw [hby] at hown
      clear hby
      obtain ⟨bb, bcap, rfl, hbb1, hbb2⟩ := hown.form (by omega)
      obtain ⟨W3, hins, hk3, hgw3, hs3⟩ := map_put Try.underlying57 Try.underlying46 Try.underlying3 sz3 agg3 (.bool true) wr.heap.size idC (by decide) (wr.alloc (.map #[] 0)) [] (by simp) (heap_alloc_new wr _) rfl
      have hins' : (Instr.mapUpdate 57 (.map (some wr.heap.size)) (.agg #[.int .i64 0, .int .i64 1, .int .i64 2, .int .i64 3, .int .i64 4]) (.bool true)).run Try.prog (wr.alloc (.map #[] 0)) = .ok () W3 := hins
      clear hins
      have hs3 : W3.heap.size = wr.heap.size + 1 := by rw [hs3]; simp
      have hmm := @run_makeMap Try.prog
      have hlo : w.heap.size + 1 < wr.heap.size := by omega
      have hb3 : Below wr.heap.size wr W3 := ⟨hgw3.os, hgw3.tape, hgw3.output, by omega, fun k hk => (hgw3.block k (by simp; omega) (fun e => by injection e; omega)).trans (Below.heap_alloc _ _ _ hk)⟩
      have h30 := below_cell hb3 hlo ho0
      have h31 := below_cell hb3 hlo ho1
      have h32 := below_cell hb3 hlo ho2
      have h33 := below_cell hb3 hlo ho3
      have h34 := below_cell hb3 hlo ho4
      have hgW : W3.heap[w.heap.size]? = _ := (hb3.block _ (by omega)).trans HGR.out
      have hg31 : W3.cell? ⟨w.heap.size, 1, none⟩ = some (.slice none 0 0) := by rw [cell_of_row W3 _ 1 _ _ _ hgW]; rfl
      have hf31 : W3.frozen? ⟨w.heap.size, 1, none⟩ = false := frozen_of_row W3 _ 1 _ _ hgW
      have HGW := Lib.hid hgW
      have HB3 := Lib.hid hb3
      have HK3 := Lib.hid hk3
      have hl3 : w.heap.size < wr.heap.size + 1 := by omega
      clear hgW hb3 hk3
      go_wp2_with fail
      clear h30 h31 h32 h33 h34 hg31 hf31 hins' hgw3 ho0 ho1 ho2 ho3 ho4 hg0 hc0
      obtain ⟨wo, hwo⟩ : ∃ wo : World, wo = wr := ⟨_, rfl⟩
      subst hwo
      go_loopg [11] bk (fun m kv wr => BfsRel wo 46 44 w.heap.size wo.heap.size d (gs.map permCode) fin m kv wr)
      case atStart =>
        refine ⟨0, [idC], wo.heap.size + 1, 1, rfl, HBFS.out, ?_, by simp, by simp⟩
        exact bfs_start (by omega) HB3.out HK3.out (by omega) HGW.out
      case round =>
        obtain ⟨kk, E, eb, cap, rfl, hbf, hmem, hE24, hkk⟩ := hrel
        have hg1r : wr.cell? ⟨w.heap.size, 1, none⟩ = some (.slice (some ⟨eb, 0, none⟩) E.length cap) := by rw [cell_of_row wr _ 1 _ _ _ hmem.g]; rfl
        have HMEM := Lib.hid hmem
        clear hmem
        cases gm : gk with
        | zero => subst gm; simp [bfsF] at hbf
        | succ m =>
          subst gm
          simp only [bfsF] at hbf
          by_cases hlt : kk < E.length
          --F{
          · rw [if_pos hlt] at hbf
            have HBF := Lib.hid hbf
            clear hbf
            generalize he : E.getD kk 0 = e at *
            generalize hE' : bfsIn e (gs.map permCode) E = E' at *
            have HE := Lib.hid he
            have HE' := Lib.hid hE'
            have hem : e ∈ E := by rw [← he]; exact getD_mem E kk hlt
            have heok := HMEM.out.ok.ok e hem
            have HEOK := Lib.hid heok
            clear he hE' heok
            go_wp2_with fail
            obtain ⟨wk, hwk⟩ : ∃ wk : World, wk = wr := ⟨_, rfl⟩
            subst hwk
            clear hg1r
            go_loopg [85] gs.length (fun m iv wr => BfsInRel wo 46 44 w.heap.size wo.heap.size d (gs.map permCode) kk e E' m iv wr)
            case atStart => exact ⟨0, E, eb, cap, by simp, rfl, by rw [List.drop_zero]; exact HE'.out, HMEM.out, HE.out, hlt, by omega⟩
            case round =>
              obtain ⟨i, E2, eb2, cap2, him, rfl, hbi, hmem2, he2, hkk2, hE2⟩ := hrel
              rw [List.length_map] at him
              have hg1i : wr.cell? ⟨w.heap.size, 1, none⟩ = some (.slice (some ⟨eb2, 0, none⟩) E2.length cap2) := by rw [cell_of_row wr _ 1 _ _ _ hmem2.g]; rfl
              cases gm2 : gk with
              | zero =>
                subst gm2
                obtain rfl : i = gs.length := by omega
                rw [List.drop_of_length_le (by simp)] at hbi
                simp only [bfsIn] at hbi
                subst hbi
                have HMEM2 := Lib.hid hmem2
                clear hmem2
                by_cases hgt : 24 < E2.length
                · have hq5 : decide (24 < (E2.length : Int)) = true := by simp; omega
                  have hbf := HBF.out
                  rw [if_pos hgt] at hbf
                  obtain rfl : fin = none := by injection hbf with hbf; exact hbf.symm
                  clear hbf
                  go_wp2_with fail
                  refine bodyPost_ret (v := .tuple #[.pointer none, .int .i64 6]) (by simp [results, Try.results15, go_sem]) rfl ⟨?_, rfl⟩
                  exact bfs_done HMEM2.out HWB.out hbel HWS.out
                · have hq5 : decide (24 < (E2.length : Int)) = false := by simp; omega
                  have hbf := HBF.out
                  rw [if_neg hgt] at hbf
                  have HBF2 := Lib.hid hbf
                  clear hbf
                  go_wp2_with fail
                  go_roundg m
                  case rel => exact ⟨kk + 1, E2, eb2, cap2, by go_num, HBF2.out, HMEM2.out, by omega, by omega⟩
                  case measure => omega
              | succ m2 =>
                subst gm2
                have hil : i < gs.length := by omega
                have hdrop : (gs.map permCode).drop i = (gs.map permCode).getD i 0 :: (gs.map permCode).drop (i + 1) := by
                  rw [List.drop_eq_getElem_cons (by simpa using hil), List.getD_eq_getElem?_getD, List.getElem?_eq_getElem (by simpa using hil)]; rfl
                rw [hdrop] at hbi
                simp only [bfsIn] at hbi
                have hpm : (gs.map permCode).getD i 0 ∈ gs.map permCode := getD_mem _ i (by simpa using hil)
                have hpok := HCODES.out _ hpm
                have hpc : ∀ t, t < 5 → wr.cell? ⟨bb, i * 5 + t, none⟩ = some (.int .i64 (dg ((gs.map permCode).getD i 0) t : Nat)) := fun t ht => by
                  rw [World.cell?_of_block (a := ⟨bb, i * 5 + t, none⟩) (hmem2.kp.block bb hbb2 (by omega)), hown.cellAt _ (by omega)]
                  exact flat_get _ i t (by simpa using hil) ht
                have hec : ∀ t, t < 5 → wr.cell? ⟨eb2, kk * 5 + t, none⟩ = some (.int .i64 (dg e t : Nat)) := fun t ht => by
                  rw [hmem2.own.cellAt _ (by omega), flat_get _ kk t hkk2 ht, he2]
                have hp0 := hpc 0 (by omega)
                have hp1 := hpc 1 (by omega)
                have hp2 := hpc 2 (by omega)
                have hp3 := hpc 3 (by omega)
                have hp4 := hpc 4 (by omega)
                rw [Nat.add_zero] at hp0
                have HEC := Lib.hid hec
                have HMEM2 := Lib.hid hmem2
                have HBI := Lib.hid hbi
                have HE2 := Lib.hid he2
                clear hpc hec hmem2 hbi he2 hdrop hpm
                generalize (gs.map permCode).getD i 0 = p at *
                go_wp2_with fail
                have hbp : Below wr.heap.size wr (wr.alloc (.cells (cellsP p) 46)) := (Below.refl _ _).alloc (Nat.le_refl _) _
                have hcp : (wr.alloc (.cells (cellsP p) 46)).heap[wr.heap.size]? = some (.cells (cellsP p) 46 (0, 0)) := heap_alloc_new wr _
                have hsp : (wr.alloc (.cells (cellsP p) 46)).heap.size = wr.heap.size + 1 := by simp
                change Code.wp _ _ _ _ (wr.alloc (.cells (cellsP p) 46))
                generalize hWp : wr.alloc (.cells (cellsP p) 46) = Wp at *
                clear hWp
                have hmwr : wo.heap.size < wr.heap.size := (Array.getElem?_eq_some_iff.1 HMEM2.out.mp).1
                have heb2 := HMEM2.out.own.lt eb2 rfl
                have hgx : Wp.cell? ⟨w.heap.size, 1, none⟩ = some (.slice (some ⟨eb2, 0, none⟩) E2.length cap2) := below_cell hbp (by show w.heap.size < wr.heap.size; omega) hg1i
                have hpx : ∀ t, t < 5 → Wp.cell? ⟨wr.heap.size, t, none⟩ = some (.int .i64 (dg p t : Nat)) := fun t ht => by rw [cell_of_row Wp _ t _ _ _ hcp]; exact cellsP_get p t ht
                have hex : ∀ t, t < 5 → Wp.cell? ⟨eb2, kk * 5 + t, none⟩ = some (.int .i64 (dg e t : Nat)) := fun t ht => below_cell (p := ⟨eb2, kk * 5 + t, none⟩) hbp heb2.2 (HEC.out t ht)
                have hkeep : ∀ w', Below Wp.heap.size Wp w' → (w'.cell? ⟨w.heap.size, 1, none⟩ = some (.slice (some ⟨eb2, 0, none⟩) E2.length cap2) ∧
                    w'.cell? ⟨wr.heap.size, 0, none⟩ = some (.int .i64 (dg p 0 : Nat)) ∧ w'.cell? ⟨wr.heap.size, 1, none⟩ = some (.int .i64 (dg p 1 : Nat)) ∧ w'.cell? ⟨wr.heap.size, 2, none⟩ = some (.int .i64 (dg p 2 : Nat)) ∧ w'.cell? ⟨wr.heap.size, 3, none⟩ = some (.int .i64 (dg p 3 : Nat)) ∧ w'.cell? ⟨wr.heap.size, 4, none⟩ = some (.int .i64 (dg p 4 : Nat)) ∧
                    w'.cell? ⟨eb2, kk * 5, none⟩ = some (.int .i64 (dg e 0 : Nat)) ∧ w'.cell? ⟨eb2, kk * 5 + 1, none⟩ = some (.int .i64 (dg e 1 : Nat)) ∧ w'.cell? ⟨eb2, kk * 5 + 2, none⟩ = some (.int .i64 (dg e 2 : Nat)) ∧ w'.cell? ⟨eb2, kk * 5 + 3, none⟩ = some (.int .i64 (dg e 3 : Nat)) ∧ w'.cell? ⟨eb2, kk * 5 + 4, none⟩ = some (.int .i64 (dg e 4 : Nat))) := by
                  intro w' hw'
                  have hl1 : wr.heap.size < Wp.heap.size := by omega
                  have hl2 : eb2 < Wp.heap.size := by omega
                  exact ⟨below_cell hw' (by show w.heap.size < _; omega) hgx, below_cell (p := ⟨wr.heap.size, 0, none⟩) hw' hl1 (hpx 0 (by omega)), below_cell (p := ⟨wr.heap.size, 1, none⟩) hw' hl1 (hpx 1 (by omega)), below_cell (p := ⟨wr.heap.size, 2, none⟩) hw' hl1 (hpx 2 (by omega)), below_cell (p := ⟨wr.heap.size, 3, none⟩) hw' hl1 (hpx 3 (by omega)), below_cell (p := ⟨wr.heap.size, 4, none⟩) hw' hl1 (hpx 4 (by omega)),
                    below_cell (p := ⟨eb2, _, none⟩) hw' hl2 (hex 0 (by omega)), below_cell (p := ⟨eb2, _, none⟩) hw' hl2 (hex 1 (by omega)), below_cell (p := ⟨eb2, _, none⟩) hw' hl2 (hex 2 (by omega)), below_cell (p := ⟨eb2, _, none⟩) hw' hl2 (hex 3 (by omega)), below_cell (p := ⟨eb2, _, none⟩) hw' hl2 (hex 4 (by omega))⟩
                have hcall : ∀ W, Calls Try.prog 26 #[.agg (cellsP p), .agg (cellsP e)] W fun e' w' => e' = .returned (.agg (cellsP (mulC p e))) ∧ Below W.heap.size W w' := fun W => after_any _ _ W HEOK.out
                have HK := Lib.hid hkeep
                have HC := Lib.hid hcall
                have HBP := Lib.hid hbp
                have HSP := Lib.hid hsp
                unfold cellsP at HC
                clear hkeep hcall hbp hsp hex hpx hgx hcp hp0 hp1 hp2 hp3 hp4 hg1i
                have hkn : (0 : Int) ≤ (kk : Int) ∧ (kk : Int) < (E2.length : Int) := by omega
                go_cut [14] (fun x14 wx => NewPerm Wp 46 (mulC p e) x14 wx)
                case first =>
                  go_region_held3 (fun w' => w'.cell? ⟨w.heap.size, 1, none⟩ = some (.slice (some ⟨eb2, 0, none⟩) E2.length cap2) ∧
                    w'.cell? ⟨wr.heap.size, 0, none⟩ = some (.int .i64 (dg p 0 : Nat)) ∧ w'.cell? ⟨wr.heap.size, 1, none⟩ = some (.int .i64 (dg p 1 : Nat)) ∧ w'.cell? ⟨wr.heap.size, 2, none⟩ = some (.int .i64 (dg p 2 : Nat)) ∧ w'.cell? ⟨wr.heap.size, 3, none⟩ = some (.int .i64 (dg p 3 : Nat)) ∧ w'.cell? ⟨wr.heap.size, 4, none⟩ = some (.int .i64 (dg p 4 : Nat)) ∧
                    w'.cell? ⟨eb2, kk * 5, none⟩ = some (.int .i64 (dg e 0 : Nat)) ∧ w'.cell? ⟨eb2, kk * 5 + 1, none⟩ = some (.int .i64 (dg e 1 : Nat)) ∧ w'.cell? ⟨eb2, kk * 5 + 2, none⟩ = some (.int .i64 (dg e 2 : Nat)) ∧ w'.cell? ⟨eb2, kk * 5 + 3, none⟩ = some (.int .i64 (dg e 3 : Nat)) ∧ w'.cell? ⟨eb2, kk * 5 + 4, none⟩ = some (.int .i64 (dg e 4 : Nat)))
                    (exact HK.out _ (by repeat (first | exact Below.refl _ _ | assumption | refine Below.drew ?_ | refine Below.alloc ?_ (by first | exact Nat.le_refl _ | assumption | (simp; omega)) _ | refine Below.setCell ?_ (by first | exact Nat.le_refl _ | assumption | (simp; omega)) _)))
                    (first | (go_at_call 26; (with_reducible refine (HC.out (World.drew (World.alloc Wp (.cells #[.int .i64 0, .int .i64 0, .int .i64 0, .int .i64 0, .int .i64 0] 46)))).mono ?_); rintro e1 w1 ⟨rfl, hw1⟩; have hwb : Below Wp.heap.size Wp w1 := Below.trans (((Below.refl _ _).alloc (Nat.le_refl _) _).drew) (hw1.mono (by show Wp.heap.size ≤ (Wp.alloc _).heap.size; simp)); have hsw2 : Wp.heap.size ≤ w1.heap.size := hwb.size; obtain ⟨hz0, hz1, hz2, hz3, hz4, hzf0, hzf1, hzf2, hzf3, hzf4⟩ := zero_box hw1)
                           | (go_at_call 26; (with_reducible refine (HC.out (World.drew Wp)).mono ?_); rintro e1 w1 ⟨rfl, hw1⟩; have hwb : Below Wp.heap.size Wp w1 := Below.trans ((Below.refl _ _).drew) hw1; have hsw2 : Wp.heap.size ≤ w1.heap.size := hwb.size))
                  all_goals go_wp2_with fail
                  all_goals go_meet
                  · have hlw : Wp.heap.size ≤ w1.heap.size := hwb.size
                    exact ⟨_, rfl, heap_alloc_new w1 _, hwb.alloc hlw _, hlw⟩
                  · refine ⟨_, rfl, box_set5 (zero_block hw1), ?_, Nat.le_refl _⟩
                    iterate 5 (refine Below.setCell ?_ (by exact Nat.le_refl _) _)
                    exact hwb
                case rest =>
                  obtain ⟨xb, rfl, hxc, hxB, hxl⟩ := hcut
                  have hsp := HSP.out
                  have hxs : xb < wc.heap.size := (Array.getElem?_eq_some_iff.1 hxc).1
                  have hmem3 := HMEM2.out.below (by omega) (HBP.out.trans (hxB.mono (by omega)))
                  have hx0 : wc.cell? ⟨xb, 0, none⟩ = some (.int .i64 (dg (mulC p e) 0 : Nat)) := by rw [cell_of_row wc _ 0 _ _ _ hxc]; rfl
                  have hx1 : wc.cell? ⟨xb, 1, none⟩ = some (.int .i64 (dg (mulC p e) 1 : Nat)) := by rw [cell_of_row wc _ 1 _ _ _ hxc]; rfl
                  have hx2 : wc.cell? ⟨xb, 2, none⟩ = some (.int .i64 (dg (mulC p e) 2 : Nat)) := by rw [cell_of_row wc _ 2 _ _ _ hxc]; rfl
                  have hx3 : wc.cell? ⟨xb, 3, none⟩ = some (.int .i64 (dg (mulC p e) 3 : Nat)) := by rw [cell_of_row wc _ 3 _ _ _ hxc]; rfl
                  have hx4 : wc.cell? ⟨xb, 4, none⟩ = some (.int .i64 (dg (mulC p e) 4 : Nat)) := by rw [cell_of_row wc _ 4 _ _ _ hxc]; rfl
                  have hlk := bfs_lookup hmem3 (mulC p e) (mulC_lt p e)
                  have hbi := HBI.out
                  have hcok : okC (mulC p e) := okC_mulC hpok.2 HEOK.out
                  have hclt := mulC_lt p e
                  have hput := bfs_put hmem3 (mulC p e) hclt
                  have HMEM3 := Lib.hid hmem3
                  have HPUT := Lib.hid hput
                  have HXC := Lib.hid hxc
                  clear hmem3 hput hxc
                  generalize mulC p e = c at *
                  by_cases hin : c ∈ E2
                  · rw [if_pos hin] at hbi
                    rw [decide_eq_true hin] at hlk
                    unfold cellsP at hlk
                    have HBI2 := Lib.hid hbi
                    clear hbi
                    go_wp2_with fail
                    go_roundg m2
                    case rel => exact ⟨i + 1, E2, eb2, cap2, by simp; omega, by go_num, HBI2.out, HMEM3.out, HE2.out, hkk2, by omega⟩
                    case measure => omega
                  · rw [if_neg hin] at hbi
                    rw [decide_eq_false hin] at hlk
                    unfold cellsP at hlk
                    obtain ⟨WM, hins, hkM, hgM, hsM⟩ := HPUT.out hin
                    unfold cellsP at hins
                    have hgbc : (some wo.heap.size : Option Nat) ≠ some w.heap.size := fun e => by injection e; omega
                    have hxbmb : (some wo.heap.size : Option Nat) ≠ some xb := fun e => by injection e; omega
                    have hgM1 : WM.cell? ⟨w.heap.size, 1, none⟩ = some (.slice (some ⟨eb2, 0, none⟩) E2.length cap2) := grownBy_cell hgM (by rw [cell_of_row wc _ 1 _ _ _ HMEM3.out.g]; rfl) hgbc
                    have hgMf : WM.frozen? ⟨w.heap.size, 1, none⟩ = false := frozen_of_row WM _ 1 _ _ ((hgM.block w.heap.size (by omega) (fun e => hgbc e.symm)).trans HMEM3.out.g)
                    have hm0 := grownBy_cell hgM hx0 hxbmb
                    have hm1 := grownBy_cell hgM hx1 hxbmb
                    have hm2 := grownBy_cell hgM hx2 hxbmb
                    have hm3 := grownBy_cell hgM hx3 hxbmb
                    have hm4 := grownBy_cell hgM hx4 hxbmb
                    have hownM : WM.ownsRow (wo.heap.size + 1) 46 5 (.slice (some ⟨eb2, 0, none⟩) E2.length cap2) E2.length (flat E2) := HMEM3.out.own.kept hgM (Or.inr (fun e => by have := (HMEM3.out.own.lt _ e).1; omega))
                    have hgbM : w.heap.size < WM.heap.size := by omega
                    have hxbM : xb < WM.heap.size := by omega
                    have hgbe : (some eb2 : Option Nat) ≠ some w.heap.size := fun e => by injection e; omega
                    have HBI2 := Lib.hid hbi
                    have HGM := Lib.hid hgM
                    have HKM := Lib.hid hkM
                    have HOWNM := Lib.hid hownM
                    clear hbi hgM hkM hownM
                    go_wp2_with fail
                    have hgMA : (World.drew (WM.alloc (.cells #[.int .i64 (dg c 0 : Nat), .int .i64 (dg c 1 : Nat), .int .i64 (dg c 2 : Nat), .int .i64 (dg c 3 : Nat), .int .i64 (dg c 4 : Nat)] 46))).cell? ⟨w.heap.size, 1, none⟩ = some (.slice (some ⟨eb2, 0, none⟩) E2.length cap2) := below_cell (((Below.refl _ _).alloc (Nat.le_refl _) _).drew) hgbM hgM1
                    go_region_law (first
                      | (refine step_append_lies _ (by rfl) (.tmp 108) (.tmp 110) 41 (by rfl) (wo.heap.size + 1) 46 i46 _ 5 40 Try.underlying41 HI46.out.1 HI46.out.2.1 HI46.out.2.2.1 HI46.out.2.2.2 rfl (by omega) (.slice (some ⟨eb2, 0, none⟩) E2.length cap2) E2.length (flat E2) (by simp [Act.eval, Act.put]) (ownsRow_below (HOWNM.out.alloc _) ((Below.refl _ _).drew)) ⟨WM.heap.size, 0, none⟩ 1 1 (cellsP c).toList (by simp [Act.eval, Act.put]) (by rfl) (World.news_of_block (cs := cellsP c) (t := 46) (fr := (0, 0)) (heap_alloc_new WM _)) (by simp [Value.oneCell', cellsP]) (by omega) (by unfold maxLen; omega) (by omega) (by simp; omega) (WM.heap.size + 1) (by simp) ?_; intro g9 cap9 w9 hown9 hgrow9 hat9 hlt9; have hgr9 : WM.grownBy w9 (some eb2) := grownBy_trans (grownBy_below _ (((Below.refl _ _).alloc (Nat.le_refl _) _).drew)) hgrow9; have hc9 : w9.cell? ⟨w.heap.size, 1, none⟩ = some (.slice (some ⟨eb2, 0, none⟩) E2.length cap2) := grownBy_cell hgr9 hgM1 hgbe; have hf9 : w9.frozen? ⟨w.heap.size, 1, none⟩ = false := (hgr9.frozen_far ⟨w.heap.size, 1, none⟩ hgbM (fun e => hgbe e.symm)).trans hgMf))
                    all_goals
                      go_wp2_with fail
                      go_roundg m2
                      case rel =>
                        have hcl : (E2 ++ [c]).length = E2.length + 1 := by simp
                        have hgd : (E2 ++ [c]).getD kk 0 = e := by rw [← HE2.out]; simp [List.getD_eq_getElem?_getD, List.getElem?_append_left hkk2]
                        exact ⟨i + 1, E2 ++ [c], g9, cap9, by simp; omega, by go_num, HBI2.out, bfs_step HMEM3.out (by omega) HKM.out HGM.out hown9 hgr9 hclt hcok hin, hgd, by omega, by omega⟩
                      case measure => omega
          --F}
          · rw [if_neg hlt] at hbf
            have HBF := Lib.hid hbf
            clear hbf
            obtain rfl : fin = some E := by have := HBF.out; injection this with this; exact this.symm
            obtain ⟨eb', cap', hebv, heb1, heb2⟩ := HMEM.out.own.form HMEM.out.ok.pos
            obtain ⟨rfl, rfl⟩ : eb = eb' ∧ cap = cap' := by simpa using hebv
            have HG := Lib.hid (HGOOD.out E rfl)
            clear hebv
            go_wp2_with fail
            refine (sort_els wr 46 eb cap (wo.heap.size + 1) E HMEM.out.ok.lt (by omega) HMEM.out.ok.pos HMEM.out.own).mono ?_
            rintro e ws ⟨rfl, hgrs, hces⟩
            have hmwr : wo.heap.size < wr.heap.size := (Array.getElem?_eq_some_iff.1 HMEM.out.mp).1
            have hszs := hgrs.size
            have hges : (some eb : Option Nat) ≠ some w.heap.size := fun e => by injection e; omega
            have hgs : ws.heap[w.heap.size]? = some (.cells (gcells d (.slice (some ⟨eb, 0, none⟩) E.length cap)) 44 (0, 0)) := (hgrs.block w.heap.size (by omega) (fun e => hges e.symm)).trans HMEM.out.g
            have hg1s : ws.cell? ⟨w.heap.size, 1, none⟩ = some (.slice (some ⟨eb, 0, none⟩) E.length cap) := by rw [cell_of_row ws _ 1 _ _ _ hgs]; rfl
            have hg2s : ws.cell? ⟨w.heap.size, 2, none⟩ = some (.map none) := by rw [cell_of_row ws _ 2 _ _ _ hgs]; rfl
            have hf2s : ws.frozen? ⟨w.heap.size, 2, none⟩ = false := frozen_of_row ws _ 2 _ _ hgs
            have hgls : w.heap.size < ws.heap.size := by omega
            have hnum := num_start (els := sortN E) (n := E.length) (sortN_length E).symm (by omega) hgs hces
            have HNUM := Lib.hid hnum
            have HGRS := Lib.hid hgrs
            clear hnum hces hgs hgrs hg1r
            go_wp2_with fail
            generalize hwx : (ws.setCell ⟨w.heap.size, 2, none⟩ (.map (some ws.heap.size))).alloc (.map #[] 0) = wx at *
            clear hwx hg1s hg2s hf2s
            have hnd : (sortN E).Nodup := (List.mergeSort_perm E _).nodup_iff.2 HMEM.out.ok.nd
            have hltE : ∀ c ∈ sortN E, c < 32768 := fun c hc => HMEM.out.ok.lt c (List.mem_mergeSort.1 hc)
            have hlE := sortN_length E
            have HND := Lib.hid hnd
            have HLT := Lib.hid hltE
            clear hnd hltE
            generalize hels : sortN E = els at *
            have HELS := Lib.hid hels
            clear hels
            generalize E.length = n at *
            have hnz := HNUM.out.sz
            go_loopg [135] n (fun m iv wr => NumRel wx ws.heap.size els m iv wr)
            case atStart => exact ⟨0, by omega, rfl, HNUM.out.n, grownBy_refl _ _⟩
            case round =>
              obtain ⟨i, him, rfl, hmi, hgi⟩ := hrel
              have hwz := hgi.size
              have hnel : (some ws.heap.size : Option Nat) ≠ some eb := fun e => by injection e; omega
              have hneg : (some ws.heap.size : Option Nat) ≠ some w.heap.size := fun e => by injection e; omega
              have hgi0 : wr.heap[w.heap.size]? = _ := (hgi.block w.heap.size (by omega) (fun e => hneg e.symm)).trans HNUM.out.g
              have hg1 : wr.cell? ⟨w.heap.size, 1, none⟩ = some (.slice (some ⟨eb, 0, none⟩) els.length cap) := by rw [cell_of_row wr _ 1 _ _ _ hgi0]; rfl
              have hg2 : wr.cell? ⟨w.heap.size, 2, none⟩ = some (.map (some ws.heap.size)) := by rw [cell_of_row wr _ 2 _ _ _ hgi0]; rfl
              have hel : ∀ k t, k < els.length → t < 5 → wr.cell? ⟨eb, k * 5 + t, none⟩ = some (.int .i64 (dg (els.getD k 0) t : Nat)) := fun k t hk ht => grownBy_cell hgi (HNUM.out.el k t hk ht) hnel
              cases gm2 : gk with
              | zero =>
                subst gm2
                have hin : i = els.length := by omega
                subst hin
                rw [List.take_length] at hmi
                have hGA : GAt wr w.heap.size eb ws.heap.size cap els := ⟨⟨hg1, hg2, hel, hmi⟩, by omega, by omega, by omega⟩
                have hsort := sort_g HG.out.gok wr hGA (by omega) (by omega) (by rw [cell_of_row wr _ 3 _ _ _ hgi0]; rfl) ⟨_, by rw [cell_of_row wr _ 4 _ _ _ hgi0]; rfl⟩ (by rw [cell_of_row wr _ 5 _ _ _ hgi0]; rfl) (frozen_of_row wr _ 3 _ _ hgi0) (frozen_of_row wr _ 4 _ _ hgi0) (frozen_of_row wr _ 5 _ _ hgi0) HG.out.ne
                have HGI := Lib.hid hgi
                have HGI0 := Lib.hid hgi0
                have HEL := Lib.hid hel
                have HGA := Lib.hid hGA
                clear hgi hgi0 hel hmi hGA hg1 hg2
                go_wp2_with fail
                refine hsort.mono ?_
                rintro e w2 ⟨rfl, hst2, hS2⟩
                clear hsort
                have hgA2 : GAt w2 w.heap.size eb ws.heap.size cap els := hst2.gat HGA.out (by simp) (by simp) (by omega) (by omega)
                have hgd2 : w2.cell? ⟨w.heap.size, 0, none⟩ = some (.int .i64 d) := (hst2.keep 0 (by simp)).trans (by rw [cell_of_row wr _ 0 _ _ _ HGI0.out]; rfl)
                have hg62 : w2.cell? ⟨w.heap.size, 6, none⟩ = some (.int .i64 0) := (hst2.keep 6 (by simp)).trans (by rw [cell_of_row wr _ 6 _ _ _ HGI0.out]; rfl)
                have hf62 : w2.frozen? ⟨w.heap.size, 6, none⟩ = false := (hst2.frz 6).trans (frozen_of_row wr _ 6 _ _ HGI0.out)
                have hS3 := hS2
                obtain ⟨kb, ca, ba, cc, bc, vals, hkB, h4, hk, hkl, h3, hown3, hrows, h5, hback, hle⟩ := hS3
                obtain ⟨ords, kq, ho1, ho2, ho3, ho4⟩ := HG.out.ch
                have hlen24 := HG.out.gok.len
                have hne2 := HG.out.ne
                have hchoose := choose_g HG.out.gok w2 hgA2 (by omega) (by omega) h3 (rowsIn_of (gb := w.heap.size) hown3 hrows rfl (by omega) (fun k _ _ => rfl) (Nat.le_refl _)) (fun w3 h => rowsIn_of (gb := w.heap.size) hown3 hrows rfl (by omega) h.off h.grown.size) (by omega) ho1
                  (fun j hj => ⟨(hne2 j hj).1, (hne2 j hj).2, (ho2 j hj).1, (ho2 j hj).2⟩) d (by omega) hgd2 ⟨0, hg62⟩ hf62 kq q ho3 ho4
                have HS2 := Lib.hid hS2
                have HST2 := Lib.hid hst2
                have HGA2 := Lib.hid hgA2
                have HGD2 := Lib.hid hgd2
                clear hS2 hst2 hgA2 hgd2 hg62 hf62 hkB h4 hk hkl h3 hown3 hrows h5 hback hle ho1 ho2 ho3 ho4 hne2
                go_wp2_with fail
                refine hchoose.mono ?_
                rintro e w3 ⟨rfl, hst3, h63⟩
                clear hchoose
                go_wp2_with fail
                refine bodyPost_ret (v := .tuple #[.pointer (some ⟨w.heap.size, 0, none⟩), .int .i64 0]) (by simp [results, Try.results15, go_sem]) rfl ?_
                have hb0 := bfs_done HMEM.out HWB.out hbel HWS.out
                refine ⟨?_, w.heap.size, Nat.le_refl _, rfl, HELS.out ▸ grp_done (gb := w.heap.size) (eb := eb) (nb := ws.heap.size) HS2.out (by omega) HGA2.out (by omega) (by omega) HGD2.out hst3 h63⟩
                refine hb0.trans ?_
                refine (below_of_grown HGRS.out (by omega) (fun k hk => by injection hk; omega)).trans ?_
                refine (below_of_grown HNUM.out.st (by omega) (fun k hk => by injection hk; omega)).trans ?_
                refine (below_of_grown HGI.out (by omega) (fun k hk => by injection hk; omega)).trans ?_
                refine (below_of_grown HST2.out.grown (by omega) (fun k hk => by injection hk; omega)).trans ?_
                have hsz2 := HST2.out.grown.size
                exact below_of_grown hst3.grown (by omega) (fun k hk => by injection hk; omega)
              | succ m2 =>
                subst gm2
                have hil : i < els.length := by omega
                have he0 := hel i 0 hil (by omega)
                have he1 := hel i 1 hil (by omega)
                have he2 := hel i 2 hil (by omega)
                have he3 := hel i 3 hil (by omega)
                have he4 := hel i 4 hil (by omega)
                rw [Nat.add_zero] at he0
                have hgl : w.heap.size < wr.heap.size := by omega
                have hput := num_put (World.drew (wr.alloc (.cells (cellsP (els.getD i 0)) 46))) ws.heap.size els i hil HLT.out HND.out ((Below.heap_alloc _ _ _ (by omega)).trans hmi)
                obtain ⟨WM, hins, hkM, hgM, hsM⟩ := hput
                have HGI := Lib.hid hgi
                have HKM := Lib.hid hkM
                have HGM := Lib.hid hgM
                generalize els.getD i 0 = c at *
                unfold cellsP at hins
                have hbw : wr.grownBy WM (some ws.heap.size) := grownBy_trans (grownBy_below _ (((Below.refl _ _).alloc (Nat.le_refl _) _).drew)) hgM
                clear hgi hkM hgM hmi hgi0 hel
                go_wp2_with fail
                have hil2 : (0 : Int) ≤ (i : Int) ∧ (i : Int) < (els.length : Int) := by omega
                go_region_law (first | (go_simp; trace_state; fail))
                all_goals
                  go_wp2_with fail
                  go_roundg m2
                  case rel => exact ⟨i + 1, by omega, by go_num, HKM.out, grownBy_trans HGI.out hbw⟩
                  case measure => omega
    | succ m =>
      --F{
      have hjl : j < gs.length := by omega
      obtain ⟨ra, rc, hrc, hri⟩ := HROW.out j hjl
      have hp := HALL.out j hjl
      have hsl := HSM.out j hjl
      have hrc' := below_cell hww hgb0 hrc
      have hri' := hri.below hww
      generalize hl : gs.getD j [] = l at *
      have HRI := Lib.hid hri
      have hcall := isPerm_any ra rc l d wr hd1 hd5 hsl hri'
      rw [hp] at hcall
      have HCALL := Lib.hid hcall
      have HL := Lib.hid hl
      have HP := Lib.hid hp
      clear hl hp hrc hri hri' hcall hc0
      go_wp2_with (go_at_call 25; refine HCALL.out.mono ?_; rintro e w1 ⟨rfl, rfl⟩)
      obtain ⟨hll, hlb⟩ := isPermB_facts HP.out
      obtain ⟨sb, so, rfl, hsb, hsc⟩ := HRI.out (by omega)
      have hpb0 : (wr.alloc (.cells #[.int .i64 0, .int .i64 1, .int .i64 2, .int .i64 3, .int .i64 4] 46)).heap[wr.heap.size]? = some (.cells #[.int .i64 0, .int .i64 1, .int .i64 2, .int .i64 3, .int .i64 4] 46 (0, 0)) := heap_alloc_new wr _
      have hba : Below wr.heap.size wr (wr.alloc (.cells #[.int .i64 0, .int .i64 1, .int .i64 2, .int .i64 3, .int .i64 4] 46)) := (Below.refl _ _).alloc (Nat.le_refl _) _
      rw [run_copy_row Try.prog _ 30 30 3 3 wr.heap.size 0 5 5 ⟨sb, so, none⟩ l.length rc #[.int .i64 0, .int .i64 1, .int .i64 2, .int .i64 3, .int .i64 4] 46 (iv l) Try.underlying30 HSZ.out hpb0 (by rw [iv_length]; exact (Nat.min_eq_left (by omega)).symm)
        (fun i u hi => by
          have ha : (⟨sb, so, none⟩ : Addr).add i = ⟨sb, so + i, none⟩ := by unfold Addr.add; split <;> simp_all
          have hil : i < l.length := by
            rcases Nat.lt_or_ge i l.length with h | h
            · exact h
            · rw [List.getElem?_eq_none (by rw [iv_length]; exact h)] at hi; cases hi
          rw [ha, ← hi, iv_get l i hil]
          exact below_cell (hww.trans (hba.mono hww.size)) hsb (hsc i hil)) (by rw [iv_length]; simp; omega) (fun u hu => by simp only [iv, List.mem_map] at hu; obtain ⟨x, _, rfl⟩ := hu; rfl)]
      have hg2 := setRow_heap _ wr.heap.size _ ((#[Value.int .i64 0, .int .i64 1, .int .i64 2, .int .i64 3, .int .i64 4] : Array Value).toList.take 0 ++ iv l ++ (#[Value.int .i64 0, .int .i64 1, .int .i64 2, .int .i64 3, .int .i64 4] : Array Value).toList.drop (0 + (iv l).length)).toArray 46 (0, 0) hpb0
      have hb2 := below_setRow (g := wr.heap.size) hba (Nat.le_refl _) ((#[Value.int .i64 0, .int .i64 1, .int .i64 2, .int .i64 3, .int .i64 4] : Array Value).toList.take 0 ++ iv l ++ (#[Value.int .i64 0, .int .i64 1, .int .i64 2, .int .i64 3, .int .i64 4] : Array Value).toList.drop (0 + (iv l).length)).toArray
      rw [copy_code l d hll hd5 hlb] at hg2 hb2 ⊢
      generalize hW2 : (wr.alloc (.cells #[.int .i64 0, .int .i64 1, .int .i64 2, .int .i64 3, .int .i64 4] 46)).setRow wr.heap.size (cellsP (permCode l)) = W2 at *
      have hs2 : W2.heap.size = wr.heap.size + 1 := by rw [← hW2]; simp [World.setRow]
      have hp0 : W2.cell? ⟨wr.heap.size, 0, none⟩ = some (.int .i64 (dg (permCode l) 0 : Nat)) := by rw [cell_of_row W2 _ 0 _ _ _ hg2]; rfl
      have hp1 : W2.cell? ⟨wr.heap.size, 1, none⟩ = some (.int .i64 (dg (permCode l) 1 : Nat)) := by rw [cell_of_row W2 _ 1 _ _ _ hg2]; rfl
      have hp2 : W2.cell? ⟨wr.heap.size, 2, none⟩ = some (.int .i64 (dg (permCode l) 2 : Nat)) := by rw [cell_of_row W2 _ 2 _ _ _ hg2]; rfl
      have hp3 : W2.cell? ⟨wr.heap.size, 3, none⟩ = some (.int .i64 (dg (permCode l) 3 : Nat)) := by rw [cell_of_row W2 _ 3 _ _ _ hg2]; rfl
      have hp4 : W2.cell? ⟨wr.heap.size, 4, none⟩ = some (.int .i64 (dg (permCode l) 4 : Nat)) := by rw [cell_of_row W2 _ 4 _ _ _ hg2]; rfl
      have hown2 := ownsRow_below hown hb2
      have HW2 := Lib.hid hW2
      have HB2 := Lib.hid hb2
      have HS2 := Lib.hid hs2
      clear hW2 hpb0 hba hg2 hb2 hs2 hg0 ho0 ho1 ho2 ho3 ho4
      go_wp2_with (at_builtin; refine wpList_append_lies _ rfl (.tmp 61) (.tmp 63) 41 rfl (w.heap.size + 2) 46 i46 _ 5 40 Try.underlying41 HI46.out.1 HI46.out.2.1 HI46.out.2.2.1 HI46.out.2.2.2 rfl (by omega) u6 j (flat ((gs.map permCode).take j)) rfl (hown2.alloc _) ⟨W2.heap.size, 0, none⟩ 1 1 (cellsP (permCode l)).toList rfl rfl (World.news_of_block (heap_alloc_new W2 _)) (by simp [Value.oneCell', cellsP]) (by omega) (by unfold maxLen; omega) (by omega) (by have := HS2.out; simp; omega) (W2.heap.size + 1) (by simp) ?_; intro g5 cap5 w6 hown6 hgrow6 hat6 hlt6)
      go_roundg m
      case rel =>
        refine ⟨j + 1, by omega, by go_num, ?_, ?_⟩
        · have hsn : (gs.map permCode).take (j + 1) = (gs.map permCode).take j ++ [permCode l] := by
            rw [List.take_add_one, List.getElem?_map, List.getElem?_eq_getElem hjl]
            have := HL.out
            rw [List.getD_eq_getElem?_getD, List.getElem?_eq_getElem hjl] at this
            simp only [Option.getD_some] at this
            simp [this]
          rw [hsn, flat_snoc]
          exact hown6
        · exact ((hbel.trans (HB2.out.mono hsr)).alloc (by have := HS2.out; omega) _).grown hgrow6 (by have := HS2.out; simp; omega) (fun k hk => (hown2.lt k hk).1)
      case measure => omega
      --F}
end Go.Proofs.Ytnejjgolmikplaa
