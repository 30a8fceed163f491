/- The walk of slices.Repeat at []int, for one element: that element so often. -/
import Derived.Test.YtnejjgolmikplaaChoose
import Derived.Test.YtnejjgolmikplaaShelf
import Derived.Deep.RegionLaw
import Derived.Laws.CopyOwn
namespace Go.Proofs.Ytnejjgolmikplaa
open Go.RowKit Go.Proofs

theorem mul_one (n : Nat) (hn : n ≤ 1000) (w : World) : Calls Try.prog 79 #[.int .u64 1, .int .u64 n] w fun e w' => e = .returned (.tuple #[.int .u64 0, .int .u64 n]) ∧ w = w' := by
  refine (Try.bits_Mul 1 n (by omega) (by omega) w).mono ?_
  rintro e w' ⟨rfl, rfl⟩
  refine ⟨?_, rfl⟩
  have h1 : 1 * n / 18446744073709551616 = 0 := by omega
  have h2 : 1 * n % 18446744073709551616 = n := by omega
  rw [h1, h2]; rfl

/-- The first m of a list are v. -/
def Heads (L : List Value) (m : Nat) (v : Value) : Prop := ∀ i, i < m → L[i]? = some v

theorem heads_splice (L cs : List Value) (m : Nat) (v : Value) (h : Heads L m v) (hm : m ≤ L.length) (hcs : ∀ u ∈ cs, u = v) : Heads (splice L m cs) (m + cs.length) v := by
  intro i hi
  unfold splice
  by_cases him : i < m
  · rw [List.getElem?_append_left (by simp; omega), List.getElem?_take, if_pos him]; exact h i him
  · rw [List.getElem?_append_right (by simp; omega), List.getElem?_append_left (by simp; omega)]
    rw [List.getElem?_eq_getElem (by simp; omega)]
    exact congrArg some (hcs _ (List.getElem_mem _))

theorem heads_all (L : List Value) (n : Nat) (v : Value) (h : Heads L n v) (hl : L.length = n) : L = List.replicate n v := by
  apply List.ext_getElem?
  intro i
  by_cases hi : i < n
  · rw [h i hi, List.getElem?_replicate, if_pos hi]
  · rw [List.getElem?_eq_none (by omega), List.getElem?_eq_none (by simp; omega)]

set_option maxHeartbeats 1000000 in
set_option maxRecDepth 100000 in
theorem repeat_one (xb xo xc n : Nat) (v : Int) (w : World) (hx : w.cell? ⟨xb, xo, none⟩ = some (.int .i64 v)) (hn1 : 1 ≤ n) (hn : n ≤ 1000) :
    Calls Try.prog 49 #[.slice (some ⟨xb, xo, none⟩) 1 xc, .int .i64 n] w fun e w' =>
      e = .returned (.slice (some ⟨w.heap.size, 0, none⟩) n n) ∧ w'.heap[w.heap.size]? = some (.cells (List.replicate n (Value.int .i64 v)).toArray 3 (0, 0)) ∧ Below w.heap.size w w' := by
  have hmk := fun W => run_make_row' (P := Try.prog) 30 3 (.int .i64 0) 8 Try.underlying30 (by kernel_rfl) rfl .i64 .i64 n (by omega) (by omega) W
  have hsz : (Try.prog.info? 3).map (·.size) = some 1 := by kernel_rfl
  have HSZ := Lib.hid hsz
  clear hsz
  go_enter Try.func49, Try.ntmps49
  go_wp2_with (go_at_call 79; refine (mul_one n hn _).mono ?_; rintro e w1 ⟨rfl, rfl⟩)
  obtain ⟨L0, hL0, hlen0⟩ : ∃ L0 : List Value, madeCells #[Value.int .i64 0] n = L0.toArray ∧ L0.length = n := ⟨(madeCells #[Value.int .i64 0] n).toList, by simp, by simp [madeCells]⟩
  rw [hL0]
  have hb0 : Below w.heap.size w (w.alloc (.cells L0.toArray 3)) := (Below.refl _ _).alloc (Nat.le_refl _) _
  have hg0 : (w.alloc (.cells L0.toArray 3)).heap[w.heap.size]? = some (.cells L0.toArray 3 (0, 0)) := heap_alloc_new w _
  have hx0 : (w.alloc (.cells L0.toArray 3)).cell? ⟨xb, xo, none⟩ = some (.int .i64 v) := below_cell hb0 (lt_of_cell hx) hx
  have HX := Lib.hid hx
  have HLEN := Lib.hid hlen0
  clear hL0 hmk hx hlen0
  generalize w.alloc (.cells L0.toArray 3) = W at *
  rw [run_copy_row Try.prog W 30 30 3 3 w.heap.size 0 n n ⟨xb, xo, none⟩ 1 xc L0.toArray 3 [.int .i64 v] Try.underlying30 HSZ.out hg0 (by simp only [List.length_singleton]; exact (Nat.min_eq_left hn1).symm)
    (fun j u hj => by
      cases j with
      | zero => simp at hj; subst hj; exact hx0
      | succ j => simp at hj) (by simp [HLEN.out]; omega) (by simp [Value.oneCell'])]
  have hg1 := setRow_heap W w.heap.size L0.toArray ((L0.toArray.toList.take 0) ++ [Value.int .i64 v] ++ L0.toArray.toList.drop (0 + [Value.int .i64 v].length)).toArray 3 (0, 0) hg0
  have hb1 := below_setRow (g := w.heap.size) hb0 (Nat.le_refl _) ((L0.toArray.toList.take 0) ++ [Value.int .i64 v] ++ L0.toArray.toList.drop (0 + [Value.int .i64 v].length)).toArray
  have hh1 : ∃ L1 : List Value, ((L0.toArray.toList.take 0) ++ [Value.int .i64 v] ++ L0.toArray.toList.drop (0 + [Value.int .i64 v].length)).toArray = L1.toArray ∧ L1.length = n ∧ Heads L1 1 (.int .i64 v) := by
    refine ⟨_, rfl, by simp [HLEN.out]; omega, ?_⟩
    intro i hi
    obtain rfl : i = 0 := by omega
    simp
  obtain ⟨L1, hL1, hlen1, hh1⟩ := hh1
  rw [hL1] at hg1 hb1 ⊢
  clear hL1 hx0 hb0 hg0
  generalize W.setRow w.heap.size L1.toArray = W1 at *
  have HG1 := Lib.hid hg1
  have HH1 := Lib.hid hh1
  have HL1 := Lib.hid hlen1
  clear hg1 hh1 hlen1
  simp only [List.length_singleton]
  go_wp2
  go_loopw [8] (fun mv wr => ∃ (m : Nat) (L : List Value), 1 ≤ m ∧ m ≤ n ∧ mv = .int .i64 m ∧ Hid (L.length = n) ∧ Heads L m (.int .i64 v) ∧ Hid (wr.heap[w.heap.size]? = some (.cells L.toArray 3 (0, 0))) ∧ Below w.heap.size w wr)
    (fun mv _ => n - (intOf mv).toNat)
  case atStart => exact ⟨1, L1, by omega, hn1, rfl, HL1, HH1.out, HG1, hb1⟩
  case round =>
    obtain ⟨m, L, hm1, hmn, rfl, HL, hh, HG, hbel⟩ := hrel
    by_cases hlt : m < n
    · have hcs : (L.take (min m (n - m))).length = min m (n - m) := by rw [List.length_take, HL.out]; omega
      have HCS := Lib.hid hcs
      have HHD := Lib.hid hh
      clear hh hcs
      have hi1 : (0 : Int) ≤ (m : Int) := by omega
      have hi2 : (m : Int) ≤ (n : Int) := by omega
      have hcn : ¬ n - m = 0 := by omega
      go_wp2
      have hdp : (if n = m then (some ⟨w.heap.size, 0, none⟩ : Option Addr) else some ⟨w.heap.size, m, none⟩) = some ⟨w.heap.size, m, none⟩ := if_neg (by omega)
      have hsrc : ∀ j u, (L.take (min m (n - m)))[j]? = some u → wr.drew.cell? ((⟨w.heap.size, 0, none⟩ : Addr).add j) = some u := by
        intro j u hj
        have ha : (⟨w.heap.size, 0, none⟩ : Addr).add j = ⟨w.heap.size, j, none⟩ := by unfold Addr.add; split <;> simp_all
        rw [ha, World.cell?_drew, cell_of_row wr _ j _ _ _ HG.out]
        rw [List.getElem?_take] at hj
        split at hj
        · simpa using hj
        · cases hj
      have hone : ∀ u ∈ L.take (min m (n - m)), u = .int .i64 v := by
        intro u hu
        obtain ⟨j, hj, rfl⟩ := List.getElem_of_mem hu
        have hj2 : j < m := by have := HCS.out; omega
        have := HHD.out j hj2
        rw [List.getElem_take]
        rw [List.getElem?_eq_getElem (by have := HL.out; omega)] at this
        exact Option.some.inj this
      have HDP := Lib.hid hdp
      have HSRC := Lib.hid hsrc
      have HONE := Lib.hid hone
      clear hdp hsrc hone
      go_region_law ((refine step_copy_splice (w := wr.drew) (by rfl) (.tmp 41) (.tmp 44) 30 30 (by rfl) 3 Try.underlying30 HSZ.out (if n = m then (some ⟨w.heap.size, 0, none⟩ : Option Addr) else some ⟨w.heap.size, m, none⟩) (some ⟨w.heap.size, 0, none⟩) (n - m) (n - m) m n (by simp [Act.eval, Act.put]) (by simp [Act.eval, Act.put]) w.heap.size m L 3 (show wr.drew.heap[w.heap.size]? = _ from HG.out) (L.take (min m (n - m))) (by rw [HCS.out]) (fun _ => ⟨HDP.out, _, rfl, HSRC.out⟩) (by rw [HCS.out, HL.out]; omega) (fun u hu => by rw [HONE.out u hu]; rfl) w.heap.size w hbel.drew (Nat.le_refl _) ?_; intro w4 hg4 hb4))
      have hwr : IntKind.i64.wrap ((m : Int) + ((min m (min (n - m) L.length) : Nat) : Int)) = ((m + min m (n - m) : Nat) : Int) := by
        rw [HL.out, IntWalk.i64_in _ (by omega)]; omega
      go_wp2
      go_roundw
      case rel =>
        refine ⟨m + min m (n - m), by omega, by omega, by omega, splice L m (L.take (min m (n - m))), ?_, ?_, ?_⟩
        · exact Lib.hid (by rw [length_splice _ _ _ (by rw [HCS.out, HL.out]; omega)]; exact HL.out)
        · have := heads_splice L (L.take (min m (n - m))) m _ HHD.out (by rw [HL.out]; omega) HONE.out
          rw [HCS.out] at this
          exact this
        · exact hg4
      case measure => simp [intOf]; omega
    · obtain rfl : m = n := by omega
      have HR := Lib.hid (heads_all L m _ hh HL.out)
      clear hh
      go_wp2
      go_ret
      exact ⟨rfl, by rw [← HR.out]; exact HG.out, hbel⟩
end Go.Proofs.Ytnejjgolmikplaa
