/- The order of the table: its closure, cmp.Or, the sort. -/
import Derived.Test.YtnejjgolmikplaaNest
import Derived.Test.YtnejjgolmikplaaCompare
import Derived.Test.YtnejjgolmikplaaTail
import Derived.Test.YtnejjgolmikplaaShelf2
namespace Go.Proofs.Ytnejjgolmikplaa
open Go.RowKit Go.Proofs Go.Sort

theorem or_any (b : Nat) (x y r : Int) (w : World) (h0 : w.cell? ⟨b, 0, none⟩ = some (.int .i64 x)) (h1 : w.cell? ⟨b, 1, none⟩ = some (.int .i64 y)) (hr : (if x ≠ 0 then x else y) = r) :
    Calls Try.prog 39 #[.slice (some ⟨b, 0, none⟩) 2 2] w fun e w' => e = .returned (.int .i64 r) ∧ w = w' := by
  have HRR := Lib.hid hr
  clear hr
  have H1 := Lib.hid h1
  have H0 := Lib.hid h0
  clear h0 h1
  go_enter Try.func39, Try.ntmps39
  go_wp2_with fail
  go_loopg [8] 2 (fun m iv wr => ∃ i : Nat, i + m = 2 ∧ iv = .int .i64 i ∧ wr = w ∧ (0 < i → x = 0) ∧ (1 < i → y = 0))
  case atStart => exact ⟨0, by omega, rfl, rfl, by omega, by omega⟩
  case round =>
    obtain ⟨i, him, rfl, rfl, hx, hy⟩ := hrel
    have : i = 0 ∨ i = 1 ∨ i = 2 := by omega
    rcases this with rfl | rfl | rfl
    · clear hx hy
      have h0 := H0.out
      by_cases h : x = 0
      · have hd : (x != 0) = false := by simp [h]
        have HX := Lib.hid h
        clear h
        go_wp2_with fail
        go_roundg 1
        case rel => exact ⟨1, by omega, rfl, rfl, fun _ => HX.out, by omega⟩
        case measure => omega
      · have hd : (x != 0) = true := by rw [bne_iff_ne]; exact h
        have HX := Lib.hid h
        clear h
        go_wp2_with fail
        go_ret
        exact ⟨int_ret (by rw [← HRR.out, if_pos HX.out]), rfl⟩
    · have hx0 := hx (by omega)
      have HX := Lib.hid hx0
      clear hx hy hx0
      have h1 := H1.out
      by_cases h : y = 0
      · have hd : (y != 0) = false := by simp [h]
        have HY := Lib.hid h
        clear h
        go_wp2_with fail
        go_roundg 0
        case rel => exact ⟨2, by omega, rfl, rfl, fun _ => HX.out, fun _ => HY.out⟩
        case measure => omega
      · have hd : (y != 0) = true := by rw [bne_iff_ne]; exact h
        have HY := Lib.hid h
        clear h
        go_wp2_with fail
        go_ret
        exact ⟨int_ret (by rw [← HRR.out, if_neg (by rw [HX.out]; simp)]), rfl⟩
    · have hx0 := hx (by omega)
      have hy0 := hy (by omega)
      have HX := Lib.hid hx0
      have HY := Lib.hid hy0
      clear hx hy hx0 hy0
      go_wp2_with fail
      go_ret
      exact ⟨int_ret (by rw [← HRR.out, if_neg (by rw [HX.out]; simp), HY.out]), rfl⟩

set_option maxHeartbeats 4000000 in
set_option maxRecDepth 100000 in
theorem compare_vecs (a b : Option Addr) (ac bc : Nat) (xs ys : List Int) (w : World) (hx : IntsIn w a xs) (hy : IntsIn w b ys) (hxl : xs.length ≤ 1000) (hyl : ys.length ≤ 1000) :
    Calls Try.prog 41 #[.slice a xs.length ac, .slice b ys.length bc] w fun e w' => e = .returned (.int .i64 (cmpL xs ys)) ∧ w = w' := by
  have hcmp := fun x y W => Try.cmp_Compare_int x y W
  have HC := Lib.hid hcmp
  have HX := Lib.hid hx
  have HY := Lib.hid hy
  generalize hr : cmpL xs ys = r
  have HR := Lib.hid hr
  clear hcmp hx hy hr
  go_enter Try.func41, Try.ntmps41
  go_wp2_with fail
  go_loopg [11] xs.length (fun m iv wr => ∃ i : Nat, i + m = xs.length ∧ iv = .int .i64 i ∧ i ≤ ys.length ∧ cmpL (xs.drop i) (ys.drop i) = r ∧ wr = w)
  case atStart => exact ⟨0, by omega, rfl, by omega, HR.out, rfl⟩
  case round =>
    obtain ⟨i, him, rfl, hiy, hrr, rfl⟩ := hrel
    cases gm : gk with
    | zero =>
      subst gm
      obtain rfl : i = xs.length := by omega
      rw [List.drop_length] at hrr
      by_cases hl : xs.length < ys.length
      · have hd : decide ((xs.length : Int) < (ys.length : Int)) = true := by simp; omega
        rw [drop_getD ys _ hl] at hrr
        simp only [cmpL] at hrr
        subst hrr
        go_wp2_with fail
        go_ret
        exact ⟨rfl, rfl⟩
      · have hd : decide ((xs.length : Int) < (ys.length : Int)) = false := by simp; omega
        rw [List.drop_of_length_le (by omega)] at hrr
        simp only [cmpL] at hrr
        subst hrr
        go_wp2_with fail
        go_ret
        exact ⟨rfl, rfl⟩
    | succ m =>
      subst gm
      have hil : i < xs.length := by omega
      obtain ⟨xb, xo, rfl, hxb, hxc⟩ := HX.out.at (by omega)
      have hxi := hxc i hil
      rw [drop_getD xs i hil] at hrr
      clear hxc
      by_cases hge : i < ys.length
      · have hd : decide ((i : Int) ≥ (ys.length : Int)) = false := by simp; omega
        obtain ⟨yb, yo, rfl, hyb, hyc⟩ := HY.out.at (by omega)
        have hyi := hyc i hge
        rw [drop_getD ys i hge] at hrr
        simp only [cmpL] at hrr
        clear hyc
        generalize xs.getD i 0 = x at *
        generalize ys.getD i 0 = y at *
        by_cases hz : Lib.compareInt x y = 0
        · rw [if_neg (by simp [hz])] at hrr
          have HRR := Lib.hid hrr
          clear hrr
          go_wp2_with (go_at_call 40; refine (HC.out _ _ _).mono ?_; rintro e w' ⟨rfl, rfl⟩)
          go_roundg m
          case rel => exact ⟨i + 1, by omega, by go_num, by omega, HRR.out, rfl⟩
          case measure => omega
        · rw [if_pos hz] at hrr
          generalize hg : Lib.compareInt x y = g at *
          subst hrr
          go_wp2_with (go_at_call 40; refine (HC.out _ _ _).mono ?_; rintro e w' ⟨rfl, rfl⟩)
          go_ret
          exact ⟨rfl, rfl⟩
      · have hd : decide ((i : Int) ≥ (ys.length : Int)) = true := by simp; omega
        rw [List.drop_of_length_le (l := ys) (by omega)] at hrr
        simp only [cmpL] at hrr
        subst hrr
        go_wp2_with fail
        go_ret
        exact ⟨rfl, rfl⟩

/-- The order of vectors. -/
def cfVec (x y : List Nat) : Int := if Lib.compareInt (x.getD 0 0 : Nat) (y.getD 0 0 : Nat) ≠ 0 then Lib.compareInt (x.getD 0 0 : Nat) (y.getD 0 0 : Nat) else cmpL (ints x) (ints y)

set_option maxHeartbeats 2000000 in
set_option maxRecDepth 100000 in
theorem closure_vec (vx vy : Value) (x y : List Nat) (W : World) (hx : HVec W noBad vx x) (hy : HVec W noBad vy y) (hx0 : 0 < x.length) (hy0 : 0 < y.length) (hxl : x.length ≤ 1000) (hyl : y.length ≤ 1000) :
    Calls Try.prog 38 #[vx, vy] W fun e w' => e = .returned (.int .i64 (cfVec x y)) ∧ ∃ n os', w' = grow (W.drewN n) os' := by
  obtain ⟨xa, xc, rfl, hxi⟩ := hx.intsIn
  obtain ⟨ya, yc, rfl, hyi⟩ := hy.intsIn
  obtain ⟨xb, xo, rfl, hxb, hxcells⟩ := id hxi (by rw [ints_length]; exact hx0)
  obtain ⟨yb, yo, rfl, hyb, hycells⟩ := id hyi (by rw [ints_length]; exact hy0)
  have hx1 := hxcells 0 (by rw [ints_length]; exact hx0)
  have hy1 := hycells 0 (by rw [ints_length]; exact hy0)
  rw [ints_getD, Nat.add_zero] at hx1 hy1
  have hcmp := fun nq => compare_vecs (some ⟨xb, xo, none⟩) (some ⟨yb, yo, none⟩) xc yc (ints x) (ints y) (W.drewN nq) (hxi.below (below_drewN W nq)) (hyi.below (below_drewN W nq)) (by rw [ints_length]; exact hxl) (by rw [ints_length]; exact hyl)
  simp only [ints_length] at hcmp
  have hres : cfVec x y = if Lib.compareInt (x.getD 0 0 : Nat) (y.getD 0 0 : Nat) ≠ 0 then Lib.compareInt (x.getD 0 0 : Nat) (y.getD 0 0 : Nat) else cmpL (ints x) (ints y) := rfl
  have HRES := Lib.hid hres
  have hq1 : ∀ nq, Calls Try.prog 41 #[.slice (some ⟨xb, xo, none⟩) x.length xc, .slice (some ⟨yb, yo, none⟩) y.length yc] (W.drewN nq) fun e w' => e = .returned (.int .i64 (cmpL (ints x) (ints y))) ∧ w' = W.drewN nq := fun nq => (hcmp nq).mono fun e w' ⟨h1, h2⟩ => ⟨h1, h2.symm⟩
  have hq2 : ∀ nq, Calls Try.prog 40 #[.int .i64 (x.getD 0 0 : Nat), .int .i64 (y.getD 0 0 : Nat)] (W.drewN nq) fun e w' => e = .returned (.int .i64 (Lib.compareInt (x.getD 0 0 : Nat) (y.getD 0 0 : Nat))) ∧ w' = W.drewN nq := fun nq => Try.cmp_Compare_int _ _ _
  clear hres hcmp hxi hyi hxcells hycells hx hy
  generalize cmpL (ints x) (ints y) = r2 at *
  generalize cfVec x y = r at *
  generalize x.getD 0 0 = x0 at *
  generalize y.getD 0 0 = y0 at *
  generalize Lib.compareInt (x0 : Nat) (y0 : Nat) = r1 at *
  generalize x.length = xl at *
  generalize y.length = yl at *
  have HQ1 := Lib.hid hq1
  have HQ2 := Lib.hid hq2
  clear hq1 hq2
  go_enter Try.func38, Try.ntmps38
  go_wp2_with fail
  refine wp_region_quiet_tail 10 (by kernel_rfl) (by kernel_rfl) ?_
  simp only [List.take_succ_cons, List.take_zero, List.drop_succ_cons, List.drop_zero]
  repeat (go_big_quiet_step ((first | (go_at_call 40; with_reducible exact Calls.quiet_of_same (HQ2.out _)) | (go_at_call 41; with_reducible exact Calls.quiet_of_same (HQ1.out _)))))
  refine wpQuiet_nil ?_
  rintro w' ⟨nq, rfl⟩
  have hor := or_any (W.drewN nq).heap.size r1 r2 r ((W.drewN nq).alloc (.cells #[.int .i64 r1, .int .i64 r2] 3)) (by rw [cell_of_row _ _ 0 _ _ _ (heap_alloc_new (W.drewN nq) _)]; rfl) (by rw [cell_of_row _ _ 1 _ _ _ (heap_alloc_new (W.drewN nq) _)]; rfl) HRES.out.symm
  have HOR := Lib.hid hor
  clear hor
  go_wp2_with fail
  refine HOR.out.mono ?_
  rintro e w1 ⟨rfl, rfl⟩
  go_wp2_with fail
  go_ret
  exact ⟨rfl, nq, _, alloc_eq_grow _ _⟩

end Go.Proofs.Ytnejjgolmikplaa
