/- The walk of the law's helper awake. -/
import Derived.Test.YtnejjgolmikplaaTableAny
import Derived.Test.YtnejjgolmikplaaLawEq
namespace Go.Proofs.Ytnejjgolmikplaa
open Go.RowKit Go.Proofs

def awG : List (List Int) := [[1, 0]]
def awT : List (List Nat) := [[1, 1], [1, 2]]
def awR : Rec := ⟨2, [668, 4252], 3, [0, 1], [[0], [1]]⟩

set_option maxRecDepth 100000 in
theorem awR_good : goodB awR = true := by decide +kernel
set_option maxRecDepth 100000 in
theorem awR_cls : clsB awR = true := by decide +kernel
set_option maxRecDepth 100000 in
theorem awR_tab : tabB awR awT = true := by decide +kernel
set_option maxRecDepth 100000 in
theorem awG_bfs : bfsF (awG.map permCode) 30 0 [idC] = some (some [668, 4252]) := by decide +kernel
theorem awG_ok : okGens awG = true := by decide +kernel
theorem awG_sort : sortS [668, 4252] = [668, 4252] := by decide +kernel

theorem awG_grp : grpOf awG = .ok 2 [668, 4252] 3 := by
  have g := goodB_get awR_good
  unfold grpOf
  rw [if_pos awG_ok, awG_bfs]
  show Grp.ok (deg awG) (sortN [668, 4252]) (primeOf (deg awG) (sortN [668, 4252])) = _
  rw [sortN_eq_sortS, awG_sort]
  have e : primeOf (deg awG) [668, 4252] = 3 := g.pr
  rw [e]
  rfl

/-- The helper passes. -/
def AwakeOK : Prop := ∀ w : World, Calls Try.prog 8 #[] w fun e w' => e = .returned (.bool true) ∧ Below w.heap.size w w'

theorem awG_row (j : Nat) (h : j < 1) : (awG.getD j []).length = 2 := by
  obtain rfl : j = 0 := by omega
  rfl

set_option maxHeartbeats 2000000 in
set_option maxRecDepth 100000 in
theorem awake_ok : AwakeOK := by
  intro w
  have htab := fun (ga : Option Addr) (gc : Nat) (w : World) (hrows : RowsIn w ga awG) => table_any allGood ga gc awG w hrows (by decide) (fun j hj => by rw [awG_row j hj]; omega) awT (fun d els q h => by
    rw [awG_grp] at h
    injection h with h1 h2 h3
    subst h2
    subst h3
    exact tab_of (goodB_get awR_good) awR_cls awR_tab (by decide))
  rw [awG_grp] at htab
  have HTAB := Lib.hid htab
  clear htab
  go_enter Try.func8, Try.ntmps8
  go_wp2_with fail
  have hcell : ∀ (W : World) (o1 o2 : Obj) (n : Nat), n < W.heap.size → ((W.alloc o1).alloc o2).heap[n]? = W.heap[n]? := fun W o1 o2 n hn => (Below.heap_alloc _ _ _ (by first | (simp; done) | (simp; omega))).trans (Below.heap_alloc _ _ _ hn)
  have hrows1 : RowsIn ((w.alloc (.cells #[.int .i64 1, .int .i64 0] 3)).alloc (.cells #[.slice (some ⟨w.heap.size, 0, none⟩) 2 2] 30)) (some ⟨w.heap.size + 1, 0, none⟩) awG := by
    have hA := heap_alloc_new w (.cells #[.int .i64 1, .int .i64 0] 3)
    have hB := heap_alloc_new (w.alloc (.cells #[.int .i64 1, .int .i64 0] 3)) (.cells #[.slice (some ⟨w.heap.size, 0, none⟩) 2 2] 30)
    rw [show (w.alloc (.cells #[.int .i64 1, .int .i64 0] 3)).heap.size = w.heap.size + 1 from by simp] at hB
    have hA' := (Below.heap_alloc (w.alloc (.cells #[.int .i64 1, .int .i64 0] 3)) (.cells #[.slice (some ⟨w.heap.size, 0, none⟩) 2 2] 30) w.heap.size (by simp)).trans hA
    intro _
    refine ⟨w.heap.size + 1, 0, rfl, by simp, fun j hj => ?_⟩
    obtain rfl : j = 0 := by
      have : j < 1 := hj
      omega
    refine ⟨_, by rw [cell_of_row _ _ 0 _ _ _ hB]; rfl, some ⟨w.heap.size, 0, none⟩, 2, rfl, fun _ => ⟨w.heap.size, 0, rfl, by first | (simp; done) | (simp; omega), fun i hi => ?_⟩⟩
    have hi2 : i < 2 := hi
    rw [Nat.zero_add, cell_of_row _ _ i _ _ _ hA']
    have : i = 0 ∨ i = 1 := by omega
    rcases this with rfl | rfl <;> rfl
  have hbA : Below w.heap.size w ((w.alloc (.cells #[.int .i64 1, .int .i64 0] 3)).alloc (.cells #[.slice (some ⟨w.heap.size, 0, none⟩) 2 2] 30)) := ((Below.refl _ _).alloc (Nat.le_refl _) _).alloc (by simp) _
  have HROWS := Lib.hid hrows1
  clear hrows1 hcell
  refine (HTAB.out _ 1 _ HROWS.out).mono ?_
  rintro e w1 ⟨ta, tc, rfl, htr, hb1⟩
  have hbw := hbA.trans (hb1.mono (by first | (simp; done) | (simp; omega)))
  have hs1 := hbw.size
  have HTR := Lib.hid htr
  clear htr hb1 hbA HROWS HTAB
  have e1 : (tabRes (Grp.ok 2 [668, 4252] 3) awT).1 = awT := rfl
  have e2 : (tabRes (Grp.ok 2 [668, 4252] 3) awT).2 = 0 := rfl
  have e3 : awT.length = 2 := rfl
  rw [e1, e2, e3]
  rw [e1] at HTR
  clear e1 e2 e3
  have hrows2 : RowsIn (((w1.alloc (.cells #[.int .i64 1, .int .i64 1] 3)).alloc (.cells #[.int .i64 1, .int .i64 2] 3)).alloc (.cells #[.slice (some ⟨w1.heap.size, 0, none⟩) 2 2, .slice (some ⟨w1.heap.size + 1, 0, none⟩) 2 2] 30)) (some ⟨w1.heap.size + 1 + 1, 0, none⟩) (awT.map ints) := by
    have hA := heap_alloc_new w1 (.cells #[.int .i64 1, .int .i64 1] 3)
    have hB := heap_alloc_new (w1.alloc (.cells #[.int .i64 1, .int .i64 1] 3)) (.cells #[.int .i64 1, .int .i64 2] 3)
    rw [show (w1.alloc (.cells #[.int .i64 1, .int .i64 1] 3)).heap.size = w1.heap.size + 1 from by simp] at hB
    have hC := heap_alloc_new ((w1.alloc (.cells #[.int .i64 1, .int .i64 1] 3)).alloc (.cells #[.int .i64 1, .int .i64 2] 3)) (.cells #[.slice (some ⟨w1.heap.size, 0, none⟩) 2 2, .slice (some ⟨w1.heap.size + 1, 0, none⟩) 2 2] 30)
    rw [show ((w1.alloc (.cells #[.int .i64 1, .int .i64 1] 3)).alloc (.cells #[.int .i64 1, .int .i64 2] 3)).heap.size = w1.heap.size + 1 + 1 from by simp] at hC
    have hB' := (Below.heap_alloc ((w1.alloc (.cells #[.int .i64 1, .int .i64 1] 3)).alloc (.cells #[.int .i64 1, .int .i64 2] 3)) (.cells #[.slice (some ⟨w1.heap.size, 0, none⟩) 2 2, .slice (some ⟨w1.heap.size + 1, 0, none⟩) 2 2] 30) (w1.heap.size + 1) (by simp)).trans hB
    have hA' := ((Below.heap_alloc ((w1.alloc (.cells #[.int .i64 1, .int .i64 1] 3)).alloc (.cells #[.int .i64 1, .int .i64 2] 3)) (.cells #[.slice (some ⟨w1.heap.size, 0, none⟩) 2 2, .slice (some ⟨w1.heap.size + 1, 0, none⟩) 2 2] 30) w1.heap.size (by first | (simp; done) | (simp; omega))).trans (Below.heap_alloc (w1.alloc (.cells #[.int .i64 1, .int .i64 1] 3)) (.cells #[.int .i64 1, .int .i64 2] 3) w1.heap.size (by simp))).trans hA
    intro _
    refine ⟨w1.heap.size + 1 + 1, 0, rfl, by simp, fun j hj => ?_⟩
    have hj2 : j < 2 := hj
    have : j = 0 ∨ j = 1 := by omega
    rcases this with rfl | rfl
    · refine ⟨_, by rw [cell_of_row _ _ (0 + 0) _ _ _ hC]; rfl, some ⟨w1.heap.size, 0, none⟩, 2, rfl, fun _ => ⟨w1.heap.size, 0, rfl, by first | (simp; done) | (simp; omega), fun i hi => ?_⟩⟩
      have hi2 : i < 2 := hi
      rw [Nat.zero_add, cell_of_row _ _ i _ _ _ hA']
      have : i = 0 ∨ i = 1 := by omega
      rcases this with rfl | rfl <;> rfl
    · refine ⟨_, by rw [cell_of_row _ _ (0 + 1) _ _ _ hC]; rfl, some ⟨w1.heap.size + 1, 0, none⟩, 2, rfl, fun _ => ⟨w1.heap.size + 1, 0, rfl, by first | (simp; done) | (simp; omega), fun i hi => ?_⟩⟩
      have hi2 : i < 2 := hi
      rw [Nat.zero_add, cell_of_row _ _ i _ _ _ hB']
      have : i = 0 ∨ i = 1 := by omega
      rcases this with rfl | rfl <;> rfl
  have hbC : Below w1.heap.size w1 (((w1.alloc (.cells #[.int .i64 1, .int .i64 1] 3)).alloc (.cells #[.int .i64 1, .int .i64 2] 3)).alloc (.cells #[.slice (some ⟨w1.heap.size, 0, none⟩) 2 2, .slice (some ⟨w1.heap.size + 1, 0, none⟩) 2 2] 30)) := (((Below.refl _ _).alloc (Nat.le_refl _) _).alloc (by simp) _).alloc (by first | (simp; done) | (simp; omega)) _
  have hrl : ∀ j, j < (awT.map ints).length → ((awT.map ints).getD j []).length ≤ 1000000000 := fun j hj => by
    have hj2 : j < 2 := hj
    have : j = 0 ∨ j = 1 := by omega
    rcases this with rfl | rfl <;> decide
  have hsame := same_g ta (some ⟨w1.heap.size + 1 + 1, 0, none⟩) tc 2 (awT.map ints) (awT.map ints) _ (HTR.out.below hbC) hrows2 (by decide) (by decide) hrl hrl true (by simp)
  rw [show (awT.map ints).length = 2 from rfl] at hsame
  have HS := Lib.hid hsame
  have HBC := Lib.hid hbC
  clear hrows2 hsame hrl hbC HTR
  go_wp2_with fail
  refine HS.out.mono ?_
  rintro e w2 ⟨rfl, hb2⟩
  go_wp2_with fail
  go_ret
  exact ⟨rfl, hbw.trans ((HBC.out.trans (hb2.mono HBC.out.size)).mono hs1)⟩

end Go.Proofs.Ytnejjgolmikplaa
