/- What (*group).sort computes, in lists; and words on memory that its walk uses. -/
import Derived.Test.YtnejjgolmikplaaRepeat
import Derived.Deep.AppendLies
import Derived.Lib.SortBridge
namespace Go.Proofs.Ytnejjgolmikplaa
open Go.RowKit Go.Proofs

def innerF (els : List Nat) (a k : Nat) : Nat → Nat → List Int → List Nat → List Int × List Nat
  | 0, _, cl, l => (cl, l)
  | m + 1, c, cl, l => if cl.getD (tm els (tm els c a) (inv els c)) 0 < 0
      then innerF els a k m (c + 1) (cl.set (tm els (tm els c a) (inv els c)) (k : Int)) (l ++ [tm els (tm els c a) (inv els c)])
      else innerF els a k m (c + 1) cl l

def sortN (l : List Nat) : List Nat := l.mergeSort fun x y => decide (x ≤ y)

def outerF (els : List Nat) : Nat → Nat → List Int → List (List Nat) → List Int × List (List Nat)
  | 0, _, cl, cs => (cl, cs)
  | m + 1, a, cl, cs => if cl.getD a 0 < 0
      then outerF els m (a + 1) (innerF els a cs.length els.length 0 cl []).1 (cs ++ [sortN (innerF els a cs.length els.length 0 cl []).2])
      else outerF els m (a + 1) cl cs

def clsOf (els : List Nat) : List Int × List (List Nat) := outerF els els.length 0 (List.replicate els.length (-1)) []
def backOf (els : List Nat) (cl : List Int) (cs : List (List Nat)) : List Int := cs.map fun l => cl.getD (inv els (l.getD 0 0)) 0

theorem inv_lt {els : List Nat} (G : GOK els) (a : Nat) : inv els a < els.length := by
  unfold inv
  have : ∀ k b, b + k = els.length → invF els a k b < els.length := by
    intro k
    induction k with
    | zero => intro b _; simp [invF]; exact G.pos
    | succ k ih =>
      intro b hb
      simp only [invF]
      split
      · omega
      · exact ih (b + 1) (by omega)
  exact this _ _ (by omega)

theorem ints_sortN (l : List Nat) : (ints l).mergeSort (fun x y => decide (x ≤ y)) = ints (sortN l) := by
  unfold ints sortN
  rw [List.map_mergeSort]
  intro a _ b _
  simp only [decide_eq_decide]
  omega

theorem sortN_length (l : List Nat) : (sortN l).length = l.length := by simp [sortN, List.length_mergeSort]

/-- Below H all is as it was, but for block kb. -/
structure KeepBut (kb H : Nat) (w w' : World) : Prop where
  os : w'.os = w.os
  tape : w'.tape = w.tape
  output : w'.output = w.output
  size : w.heap.size ≤ w'.heap.size
  hH : H ≤ w.heap.size
  block : ∀ k, k < H → k ≠ kb → w'.heap[k]? = w.heap[k]?

theorem KeepBut.refl {kb H : Nat} {w : World} (h : H ≤ w.heap.size) : KeepBut kb H w w := ⟨rfl, rfl, rfl, Nat.le_refl _, h, fun _ _ _ => rfl⟩
theorem KeepBut.trans {kb H : Nat} {a b c : World} (h : KeepBut kb H a b) (k : KeepBut kb H b c) : KeepBut kb H a c :=
  ⟨k.os.trans h.os, k.tape.trans h.tape, k.output.trans h.output, Nat.le_trans h.size k.size, h.hH, fun i hi hn => (k.block i hi hn).trans (h.block i hi hn)⟩
theorem KeepBut.below {kb H : Nat} {w w' : World} (hH : H ≤ w.heap.size) (hb : Below w.heap.size w w') : KeepBut kb H w w' :=
  ⟨hb.os, hb.tape, hb.output, hb.size, hH, fun k hk _ => hb.block k (Nat.lt_of_lt_of_le hk hH)⟩
theorem KeepBut.grown {kb H : Nat} {w w' : World} {row : Option Nat} (hH : H ≤ w.heap.size) (hg : w.grownBy w' row) (hr : ∀ k, row = some k → H ≤ k ∨ k = kb) : KeepBut kb H w w' :=
  ⟨hg.os, hg.tape, hg.output, hg.size, hH, fun k hk hne => hg.block k (Nat.lt_of_lt_of_le hk hH) (fun e => by
    rcases hr k e.symm with h | h
    · omega
    · exact hne h)⟩
theorem KeepBut.set {kb H : Nat} {w : World} (hH : H ≤ w.heap.size) (i : Nat) (v : Value) : KeepBut kb H w (w.setCell ⟨kb, i, none⟩ v) :=
  ⟨rfl, rfl, rfl, by simp [World.setCell], hH, fun k _ hne => Below.heap_setCell _ _ _ _ hne⟩
theorem KeepBut.cell {kb H : Nat} {w w' : World} (h : KeepBut kb H w w') {p : Addr} {v : Value} (hp : p.block < H) (hne : p.block ≠ kb) (hc : w.cell? p = some v) : w'.cell? p = some v :=
  (World.cell?_of_block (h.block p.block hp hne)).trans hc
theorem KeepBut.gat {kb H : Nat} {w w' : World} {gb eb mb cap : Nat} {els : List Nat} (h : KeepBut kb H w w') (hA : GAt w gb eb mb cap els) (h1 : gb < H) (h2 : eb < H) (h3 : mb < H) (n1 : gb ≠ kb) (n2 : eb ≠ kb) (n3 : mb ≠ kb) : GAt w' gb eb mb cap els :=
  ⟨⟨h.cell (p := ⟨gb, 1, none⟩) h1 n1 hA.at_.he, h.cell (p := ⟨gb, 2, none⟩) h1 n1 hA.at_.hm, fun k i hk hi => h.cell (p := ⟨eb, k * 5 + i, none⟩) h2 n2 (hA.at_.hel k i hk hi), (h.block mb h3 n3).trans hA.at_.hmap⟩,
    Nat.lt_of_lt_of_le hA.hg h.size, Nat.lt_of_lt_of_le hA.he h.size, Nat.lt_of_lt_of_le hA.hm h.size⟩

/-- A list of ints as a block's cells. -/
def iv (l : List Int) : List Value := l.map (Value.int .i64)
theorem iv_get (l : List Int) (j : Nat) (h : j < l.length) : (iv l)[j]? = some (.int .i64 (l.getD j 0)) := by
  simp [iv, List.getD_eq_getElem?_getD, List.getElem?_eq_getElem h]
theorem iv_length (l : List Int) : (iv l).length = l.length := by simp [iv]

theorem cell_iv {w : World} {b : Nat} {t : TypeId} {l : List Int} (h : w.heap[b]? = some (.cells (iv l).toArray t (0, 0))) (j : Nat) (hj : j < l.length) : w.cell? ⟨b, j, none⟩ = some (.int .i64 (l.getD j 0)) := by
  rw [cell_of_row w b j _ _ _ h]
  simpa using iv_get l j hj
theorem frz_iv {w : World} {b : Nat} {t : TypeId} {l : List Value} (h : w.heap[b]? = some (.cells l.toArray t (0, 0))) (j : Nat) : w.frozen? ⟨b, j, none⟩ = false := frozen_of_row w b j _ t h

theorem set_iv {w : World} {b : Nat} {t : TypeId} {l : List Int} (h : w.heap[b]? = some (.cells (iv l).toArray t (0, 0))) (j : Nat) (x : Int) :
    (w.setCell ⟨b, j, none⟩ (.int .i64 x)).heap[b]? = some (.cells (iv (l.set j x)).toArray t (0, 0)) := by
  have hb : b < w.heap.size := (Array.getElem?_eq_some_iff.1 h).1
  simp only [World.setCell, Array.getElem?_modify, if_true, h, Option.map_some]
  simp [iv, List.map_set]

theorem ownsRow_slice {w : World} {base : Nat} {e : TypeId} {v : Value} {n : Nat} {xs : List Value} (h : w.ownsRow base e 1 v n xs) : ∃ a c, v = .slice a n c ∧ (0 < n → ∃ g, a = some ⟨g, 0, none⟩) ∧ (n = 0 → xs = []) := by
  have hl := h.1
  rcases h.2 with ⟨rfl, rfl⟩ | ⟨g, cap, cur, rfl, _⟩
  · exact ⟨none, 0, rfl, fun h => absurd h (by omega), fun _ => by simpa using hl⟩
  · exact ⟨_, _, rfl, fun _ => ⟨g, rfl⟩, fun hn => by subst hn; simpa using hl⟩

end Go.Proofs.Ytnejjgolmikplaa
