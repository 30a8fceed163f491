/- slices.Compare at ints; the comparison of two permutations; their sorting. -/
import Derived.Test.YtnejjgolmikplaaReadSpec
import Derived.Test.YtnejjgolmikplaaShelf
import Derived.Shelf.SlSortCmp.NoneTotal
import Derived.Shelf.SlSortCmp.WholeK
namespace Go.Proofs.Ytnejjgolmikplaa
open Go.RowKit Go.Proofs Go.Sort

/-- What slices.Compare answers. -/
def cmpL : List Int → List Int → Int
  | [], [] => 0
  | [], _ :: _ => -1
  | _ :: _, [] => 1
  | x :: xs, y :: ys => if Lib.compareInt x y ≠ 0 then Lib.compareInt x y else cmpL xs ys

theorem drop_getD (xs : List Int) (i : Nat) (h : i < xs.length) : xs.drop i = xs.getD i 0 :: xs.drop (i + 1) := by
  rw [List.drop_eq_getElem_cons h, List.getD_eq_getElem?_getD, List.getElem?_eq_getElem h]; rfl

theorem IntsIn.at {w : World} {a : Option Addr} {xs : List Int} (h : IntsIn w a xs) (hp : 0 < xs.length) : ∃ b o, a = some ⟨b, o, none⟩ ∧ b < w.heap.size ∧ ∀ i, i < xs.length → w.cell? ⟨b, o + i, none⟩ = some (.int .i64 (xs.getD i 0)) := h hp

theorem cmp_range (x y : Int) : Lib.compareInt x y = -1 ∨ Lib.compareInt x y = 0 ∨ Lib.compareInt x y = 1 := by
  unfold Lib.compareInt
  by_cases h : x < y
  · left; rw [if_pos h]
  · rw [if_neg h]
    by_cases k : x > y
    · right; right; rw [if_pos k]
    · right; left; rw [if_neg k]

set_option maxHeartbeats 4000000 in
set_option maxRecDepth 100000 in
theorem compare_ints (a b : Option Addr) (ac bc : Nat) (xs ys : List Int) (w : World) (hx : IntsIn w a xs) (hy : IntsIn w b ys) (hxl : xs.length ≤ 1000) (hyl : ys.length ≤ 1000) :
    Calls Try.prog 29 #[.slice a xs.length ac, .slice b ys.length bc] w fun e w' => e = .returned (.int .i64 (cmpL xs ys)) ∧ w = w' := by
  have hcmp := fun x y W => Try.cmp_Compare_int x y W
  have HC := Lib.hid hcmp
  have HX := Lib.hid hx
  have HY := Lib.hid hy
  generalize hr : cmpL xs ys = r
  have HR := Lib.hid hr
  clear hcmp hx hy hr
  go_enter Try.func29, Try.ntmps29
  go_wp2_with fail
  go_loopg [11] xs.length (fun m iv wr => ∃ i : Nat, i + m = xs.length ∧ iv = .int .i64 i ∧ i ≤ ys.length ∧ cmpL (xs.drop i) (ys.drop i) = r ∧ wr = w)
  case atStart => exact ⟨0, by omega, rfl, by omega, HR.out, rfl⟩
  case round =>
    obtain ⟨i, him, rfl, hiy, hrr, rfl⟩ := hrel
    cases gm : gk with
    | zero =>
      subst gm
      obtain rfl : i = xs.length := by omega
      rw [List.drop_length] at hrr
      by_cases hl : xs.length < ys.length
      · have hd : decide ((xs.length : Int) < (ys.length : Int)) = true := by simp; omega
        rw [drop_getD ys _ hl] at hrr
        simp only [cmpL] at hrr
        subst hrr
        go_wp2_with fail
        go_ret
        exact ⟨rfl, rfl⟩
      · have hd : decide ((xs.length : Int) < (ys.length : Int)) = false := by simp; omega
        rw [List.drop_of_length_le (by omega)] at hrr
        simp only [cmpL] at hrr
        subst hrr
        go_wp2_with fail
        go_ret
        exact ⟨rfl, rfl⟩
    | succ m =>
      subst gm
      have hil : i < xs.length := by omega
      obtain ⟨xb, xo, rfl, hxb, hxc⟩ := HX.out.at (by omega)
      have hxi := hxc i hil
      rw [drop_getD xs i hil] at hrr
      clear hxc
      by_cases hge : i < ys.length
      · have hd : decide ((i : Int) ≥ (ys.length : Int)) = false := by simp; omega
        obtain ⟨yb, yo, rfl, hyb, hyc⟩ := HY.out.at (by omega)
        have hyi := hyc i hge
        rw [drop_getD ys i hge] at hrr
        simp only [cmpL] at hrr
        clear hyc
        generalize xs.getD i 0 = x at *
        generalize ys.getD i 0 = y at *
        by_cases hz : Lib.compareInt x y = 0
        · rw [if_neg (by simp [hz])] at hrr
          have HRR := Lib.hid hrr
          clear hrr
          go_wp2_with (go_at_call 40; refine (HC.out _ _ _).mono ?_; rintro e w' ⟨rfl, rfl⟩)
          go_roundg m
          case rel => exact ⟨i + 1, by omega, by go_num, by omega, HRR.out, rfl⟩
          case measure => omega
        · rw [if_pos hz] at hrr
          generalize hg : Lib.compareInt x y = g at *
          subst hrr
          go_wp2_with (go_at_call 40; refine (HC.out _ _ _).mono ?_; rintro e w' ⟨rfl, rfl⟩)
          go_ret
          exact ⟨rfl, rfl⟩
      · have hd : decide ((i : Int) ≥ (ys.length : Int)) = true := by simp; omega
        rw [List.drop_of_length_le (l := ys) (by omega)] at hrr
        simp only [cmpL] at hrr
        subst hrr
        go_wp2_with fail
        go_ret
        exact ⟨rfl, rfl⟩

set_option maxHeartbeats 4000000 in
set_option maxRecDepth 100000 in
theorem compare_vec (a b : Option Addr) (ac bc : Nat) (xs ys : List Int) (w : World) (hx : IntsIn w a xs) (hy : IntsIn w b ys) (hxl : xs.length ≤ 1000) (hyl : ys.length ≤ 1000) :
    Calls Try.prog 41 #[.slice a xs.length ac, .slice b ys.length bc] w fun e w' => e = .returned (.int .i64 (cmpL xs ys)) ∧ w = w' := by
  have hcmp := fun x y W => Try.cmp_Compare_int x y W
  have HC := Lib.hid hcmp
  have HX := Lib.hid hx
  have HY := Lib.hid hy
  generalize hr : cmpL xs ys = r
  have HR := Lib.hid hr
  clear hcmp hx hy hr
  go_enter Try.func41, Try.ntmps41
  go_wp2_with fail
  go_loopg [11] xs.length (fun m iv wr => ∃ i : Nat, i + m = xs.length ∧ iv = .int .i64 i ∧ i ≤ ys.length ∧ cmpL (xs.drop i) (ys.drop i) = r ∧ wr = w)
  case atStart => exact ⟨0, by omega, rfl, by omega, HR.out, rfl⟩
  case round =>
    obtain ⟨i, him, rfl, hiy, hrr, rfl⟩ := hrel
    cases gm : gk with
    | zero =>
      subst gm
      obtain rfl : i = xs.length := by omega
      rw [List.drop_length] at hrr
      by_cases hl : xs.length < ys.length
      · have hd : decide ((xs.length : Int) < (ys.length : Int)) = true := by simp; omega
        rw [drop_getD ys _ hl] at hrr
        simp only [cmpL] at hrr
        subst hrr
        go_wp2_with fail
        go_ret
        exact ⟨rfl, rfl⟩
      · have hd : decide ((xs.length : Int) < (ys.length : Int)) = false := by simp; omega
        rw [List.drop_of_length_le (by omega)] at hrr
        simp only [cmpL] at hrr
        subst hrr
        go_wp2_with fail
        go_ret
        exact ⟨rfl, rfl⟩
    | succ m =>
      subst gm
      have hil : i < xs.length := by omega
      obtain ⟨xb, xo, rfl, hxb, hxc⟩ := HX.out.at (by omega)
      have hxi := hxc i hil
      rw [drop_getD xs i hil] at hrr
      clear hxc
      by_cases hge : i < ys.length
      · have hd : decide ((i : Int) ≥ (ys.length : Int)) = false := by simp; omega
        obtain ⟨yb, yo, rfl, hyb, hyc⟩ := HY.out.at (by omega)
        have hyi := hyc i hge
        rw [drop_getD ys i hge] at hrr
        simp only [cmpL] at hrr
        clear hyc
        generalize xs.getD i 0 = x at *
        generalize ys.getD i 0 = y at *
        by_cases hz : Lib.compareInt x y = 0
        · rw [if_neg (by simp [hz])] at hrr
          have HRR := Lib.hid hrr
          clear hrr
          go_wp2_with (go_at_call 40; refine (HC.out _ _ _).mono ?_; rintro e w' ⟨rfl, rfl⟩)
          go_roundg m
          case rel => exact ⟨i + 1, by omega, by go_num, by omega, HRR.out, rfl⟩
          case measure => omega
        · rw [if_pos hz] at hrr
          generalize hg : Lib.compareInt x y = g at *
          subst hrr
          go_wp2_with (go_at_call 40; refine (HC.out _ _ _).mono ?_; rintro e w' ⟨rfl, rfl⟩)
          go_ret
          exact ⟨rfl, rfl⟩
      · have hd : decide ((i : Int) ≥ (ys.length : Int)) = true := by simp; omega
        rw [List.drop_of_length_le (l := ys) (by omega)] at hrr
        simp only [cmpL] at hrr
        subst hrr
        go_wp2_with fail
        go_ret
        exact ⟨rfl, rfl⟩

/-- A permutation's digits. -/
def digs (c : Nat) : List Int := [(dg c 0 : Nat), (dg c 1 : Nat), (dg c 2 : Nat), (dg c 3 : Nat), (dg c 4 : Nat)]

theorem code_digs (c : Nat) (h : c < 32768) : c = (((dg c 0 * 8 + dg c 1) * 8 + dg c 2) * 8 + dg c 3) * 8 + dg c 4 := by
  unfold dg
  simp only [Nat.sub_zero, Nat.reduceSub, Nat.reducePow]
  omega

theorem cmp_cons (x y : Int) (xs ys : List Int) : cmpL (x :: xs) (y :: ys) = if x < y then -1 else if y < x then 1 else cmpL xs ys := by
  simp only [cmpL, Lib.compareInt]
  by_cases h : x < y
  · simp [h]
  · by_cases k : y < x
    · simp [h, k]
    · simp [h, k]

theorem cmp_digs (p q : Nat) (hp : p < 32768) (hq : q < 32768) : cmpL (digs p) (digs q) = Lib.compareInt p q := by
  have ep := code_digs p hp
  have eq := code_digs q hq
  have p0 := dg_lt p 0
  have p1 := dg_lt p 1
  have p2 := dg_lt p 2
  have p3 := dg_lt p 3
  have p4 := dg_lt p 4
  have q0 := dg_lt q 0
  have q1 := dg_lt q 1
  have q2 := dg_lt q 2
  have q3 := dg_lt q 3
  have q4 := dg_lt q 4
  unfold digs
  rw [cmp_cons, cmp_cons, cmp_cons, cmp_cons, cmp_cons, cmpL]
  unfold Lib.compareInt
  generalize dg p 0 = a0 at *
  generalize dg p 1 = a1 at *
  generalize dg p 2 = a2 at *
  generalize dg p 3 = a3 at *
  generalize dg p 4 = a4 at *
  generalize dg q 0 = b0 at *
  generalize dg q 1 = b1 at *
  generalize dg q 2 = b2 at *
  generalize dg q 3 = b3 at *
  generalize dg q 4 = b4 at *
  subst ep
  subst eq
  by_cases h0 : a0 < b0
  · rw [if_pos (by omega), if_pos (by omega)]
  rw [if_neg (by omega)]
  by_cases k0 : b0 < a0
  · rw [if_pos (by omega), if_neg (by omega), if_pos (by omega)]
  rw [if_neg (by omega)]
  by_cases h1 : a1 < b1
  · rw [if_pos (by omega), if_pos (by omega)]
  rw [if_neg (by omega)]
  by_cases k1 : b1 < a1
  · rw [if_pos (by omega), if_neg (by omega), if_pos (by omega)]
  rw [if_neg (by omega)]
  by_cases h2 : a2 < b2
  · rw [if_pos (by omega), if_pos (by omega)]
  rw [if_neg (by omega)]
  by_cases k2 : b2 < a2
  · rw [if_pos (by omega), if_neg (by omega), if_pos (by omega)]
  rw [if_neg (by omega)]
  by_cases h3 : a3 < b3
  · rw [if_pos (by omega), if_pos (by omega)]
  rw [if_neg (by omega)]
  by_cases k3 : b3 < a3
  · rw [if_pos (by omega), if_neg (by omega), if_pos (by omega)]
  rw [if_neg (by omega)]
  by_cases h4 : a4 < b4
  · rw [if_pos (by omega), if_pos (by omega)]
  rw [if_neg (by omega)]
  by_cases k4 : b4 < a4
  · rw [if_pos (by omega), if_neg (by omega), if_pos (by omega)]
  rw [if_neg (by omega), if_neg (by omega), if_neg (by omega)]

set_option maxHeartbeats 4000000 in
set_option maxRecDepth 100000 in
theorem closure_cmp (p q : Nat) (hp : p < 32768) (hq : q < 32768) (W : World) :
    Calls Try.prog 28 #[.agg (cellsP p), .agg (cellsP q)] W fun e w' => e = .returned (.int .i64 (Lib.compareInt p q)) ∧ ∃ n os', w' = grow (W.drewN n) os' := by
  have hds := cmp_digs p q hp hq
  generalize Lib.compareInt p q = r at *
  have hcall : Calls Try.prog 29 #[.slice (some ⟨W.heap.size, 0, none⟩) 5 5, .slice (some ⟨W.heap.size + 1, 0, none⟩) 5 5] (((W.alloc (.cells (cellsP p) 46)).alloc (.cells (cellsP q) 46)).drew) fun e w' => e = .returned (.int .i64 r) ∧ ((W.alloc (.cells (cellsP p) 46)).alloc (.cells (cellsP q) 46)).drew = w' := by
    have h1 : (((W.alloc (.cells (cellsP p) 46)).alloc (.cells (cellsP q) 46)).drew).heap[W.heap.size]? = some (.cells (cellsP p) 46 (0, 0)) := (Below.heap_alloc _ _ _ (by simp)).trans (heap_alloc_new W _)
    have h2 : (((W.alloc (.cells (cellsP p) 46)).alloc (.cells (cellsP q) 46)).drew).heap[W.heap.size + 1]? = some (.cells (cellsP q) 46 (0, 0)) := by
      have := heap_alloc_new (W.alloc (.cells (cellsP p) 46)) (.cells (cellsP q) 46)
      rw [show (W.alloc (.cells (cellsP p) 46)).heap.size = W.heap.size + 1 from by simp] at this
      exact this
    have hi : ∀ (b c : Nat), (((W.alloc (.cells (cellsP p) 46)).alloc (.cells (cellsP q) 46)).drew).heap[b]? = some (.cells (cellsP c) 46 (0, 0)) → IntsIn (((W.alloc (.cells (cellsP p) 46)).alloc (.cells (cellsP q) 46)).drew) (some ⟨b, 0, none⟩) (digs c) := by
      intro b c h _
      refine ⟨b, 0, rfl, (Array.getElem?_eq_some_iff.1 h).1, fun i hi => ?_⟩
      rw [Nat.zero_add, cell_of_row _ b i _ _ _ h, cellsP_get c i hi]
      have : i = 0 ∨ i = 1 ∨ i = 2 ∨ i = 3 ∨ i = 4 := by have : i < 5 := hi; omega
      rcases this with rfl | rfl | rfl | rfl | rfl <;> rfl
    have h := compare_ints (some ⟨W.heap.size, 0, none⟩) (some ⟨W.heap.size + 1, 0, none⟩) 5 5 (digs p) (digs q) _ (hi _ _ h1) (hi _ _ h2) (by show (5 : Nat) ≤ 1000; omega) (by show (5 : Nat) ≤ 1000; omega)
    rw [hds] at h
    exact h
  have HC := Lib.hid hcall
  clear hcall hds
  unfold cellsP at HC ⊢
  go_enter Try.func28, Try.ntmps28
  go_wp2_with fail
  go_region_law (first
    | (go_simp; go_at_call 29; refine (HC.out).mono ?_; rintro e w1 ⟨rfl, rfl⟩)
    | (refine (HC.out).mono ?_; rintro e w1 ⟨rfl, rfl⟩; trace_state))
  all_goals go_wp2
  go_ret
  exact ⟨rfl, 1, _, by rw [alloc_eq_grow, alloc_eq_grow, grow_grow]; rfl⟩

end Go.Proofs.Ytnejjgolmikplaa
