/- The walk of (traces.permutation).after: it returns the product's code. -/
import Derived.Test.YtnejjgolmikplaaBase
namespace Go.Proofs.Ytnejjgolmikplaa
open Go.RowKit Go.Proofs

set_option maxHeartbeats 4000000 in
set_option maxRecDepth 100000 in
theorem after_raw (A : Array Value) (x0 x1 x2 x3 x4 : Nat) (y0 y1 y2 y3 y4 : Int) (w : World) (b0 : x0 < 5) (b1 : x1 < 5) (b2 : x2 < 5) (b3 : x3 < 5) (b4 : x4 < 5)
    (k0 : A[x0]? = some (.int .i64 y0)) (k1 : A[x1]? = some (.int .i64 y1)) (k2 : A[x2]? = some (.int .i64 y2)) (k3 : A[x3]? = some (.int .i64 y3)) (k4 : A[x4]? = some (.int .i64 y4)) :
    Calls Try.prog 26 #[.agg A, .agg #[.int .i64 x0, .int .i64 x1, .int .i64 x2, .int .i64 x3, .int .i64 x4]] w fun e w' =>
      e = .returned (.agg #[.int .i64 y0, .int .i64 y1, .int .i64 y2, .int .i64 y3, .int .i64 y4]) ∧ Below w.heap.size w w' := by
  have i0 : ∀ w, (Instr.index 46 (.agg #[.int .i64 x0, .int .i64 x1, .int .i64 x2, .int .i64 x3, .int .i64 x4]) (.int .i64 0)).run Try.prog w = .ok (.int .i64 x0) w := fun _ => by kernel_rfl
  have i1 : ∀ w, (Instr.index 46 (.agg #[.int .i64 x0, .int .i64 x1, .int .i64 x2, .int .i64 x3, .int .i64 x4]) (.int .i64 1)).run Try.prog w = .ok (.int .i64 x1) w := fun _ => by kernel_rfl
  have i2 : ∀ w, (Instr.index 46 (.agg #[.int .i64 x0, .int .i64 x1, .int .i64 x2, .int .i64 x3, .int .i64 x4]) (.int .i64 2)).run Try.prog w = .ok (.int .i64 x2) w := fun _ => by kernel_rfl
  have i3 : ∀ w, (Instr.index 46 (.agg #[.int .i64 x0, .int .i64 x1, .int .i64 x2, .int .i64 x3, .int .i64 x4]) (.int .i64 3)).run Try.prog w = .ok (.int .i64 x3) w := fun _ => by kernel_rfl
  have i4 : ∀ w, (Instr.index 46 (.agg #[.int .i64 x0, .int .i64 x1, .int .i64 x2, .int .i64 x3, .int .i64 x4]) (.int .i64 4)).run Try.prog w = .ok (.int .i64 x4) w := fun _ => by kernel_rfl
  go_enter Try.func26, Try.ntmps26
  go_wp2
  refine wp_loop_rounds 6 ?_
  iterate 6 (rw [rounds_succ]; go_wp2)
  exact bodyPost_ret (v := .agg #[.int .i64 y0, .int .i64 y1, .int .i64 y2, .int .i64 y3, .int .i64 y4]) (by simp [results, Try.results26, go_sem]) rfl
    ⟨rfl, ((((Below.refl _ _).alloc (Nat.le_refl _) _).alloc (by simp) _).alloc (by simp; omega) _).alloc (by simp; omega) _⟩

theorem after_any (p q : Nat) (w : World) (hq : okC q) :
    Calls Try.prog 26 #[.agg (cellsP p), .agg (cellsP q)] w fun e w' => e = .returned (.agg (cellsP (mulC p q))) ∧ Below w.heap.size w w' := by
  refine (after_raw (cellsP p) (dg q 0) (dg q 1) (dg q 2) (dg q 3) (dg q 4) _ _ _ _ _ w (hq 0 (by omega)) (hq 1 (by omega)) (hq 2 (by omega)) (hq 3 (by omega)) (hq 4 (by omega))
    (cellsP_get p _ (hq 0 (by omega))) (cellsP_get p _ (hq 1 (by omega))) (cellsP_get p _ (hq 2 (by omega))) (cellsP_get p _ (hq 3 (by omega))) (cellsP_get p _ (hq 4 (by omega)))).mono ?_
  rintro e w' ⟨rfl, hb⟩
  refine ⟨?_, hb⟩
  unfold cellsP
  simp only [dg_mulC p q 0 (by omega), dg_mulC p q 1 (by omega), dg_mulC p q 2 (by omega), dg_mulC p q 3 (by omega), dg_mulC p q 4 (by omega)]

end Go.Proofs.Ytnejjgolmikplaa
