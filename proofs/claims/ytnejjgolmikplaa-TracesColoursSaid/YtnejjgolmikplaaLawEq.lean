/- The walks of slices.Equal at ints, slices.EqualFunc with it, and of the law's helper same. -/
import Derived.Test.YtnejjgolmikplaaLawTab
namespace Go.Proofs.Ytnejjgolmikplaa
open Go.RowKit Go.Proofs

theorem equal_ints (a b : Option Addr) (ac bc : Nat) (xs ys : List Int) (w : World) (hx : IntsIn w a xs) (hy : IntsIn w b ys) (hxl : xs.length ≤ 9223372036854775807) (hyl : ys.length ≤ 9223372036854775807) (r : Bool) (hr : decide (xs = ys) = r) :
    Calls Try.prog 33 #[.slice a xs.length ac, .slice b ys.length bc] w fun e w' => e = .returned (.bool r) ∧ Below w.heap.size w w' := by
  subst hr
  by_cases hn : xs.length = ys.length
  · by_cases h0 : xs.length = 0
    · have hx0 : xs = [] := List.length_eq_zero_iff.1 h0
      have hy0 : ys = [] := List.length_eq_zero_iff.1 (by omega)
      subst hx0
      subst hy0
      refine (Try.slices_Equal_int_empty a b ac 0 bc w (by omega)).mono ?_
      rintro e w' ⟨rfl, rfl⟩
      exact ⟨rfl, Below.refl _ _⟩
    · obtain ⟨b1, o1, rfl, -, hc1⟩ := hx (by omega)
      obtain ⟨b2, o2, rfl, -, hc2⟩ := hy (by omega)
      refine (Try.slices_Equal_int b1 o1 xs.length ac b2 o2 ys.length bc xs ys w (Nat.le_refl _) (Nat.le_refl _) hxl hyl hc1 hc2).mono ?_
      rintro e w' ⟨rfl, q, rfl⟩
      refine ⟨?_, ⟨rfl, rfl, rfl, Nat.le_refl _, fun _ _ => rfl⟩⟩
      rw [List.take_length, List.take_length]
      refine bool_ret ?_
      by_cases h : xs = ys
      · simp [h]
      · simp [h]
  · refine (Try.slices_Equal_int_lens a b xs.length ac ys.length bc w hn).mono ?_
    rintro e w' ⟨rfl, rfl⟩
    have : ¬ xs = ys := fun h => hn (by rw [h])
    exact ⟨bool_ret (by simp [this]), Below.refl _ _⟩

theorem drop_consZ {α : Type} [Inhabited α] (l : List α) (i : Nat) (h : i < l.length) : l.drop i = l.getD i default :: l.drop (i + 1) := by
  rw [List.drop_eq_getElem_cons h, List.getD_eq_getElem?_getD, List.getElem?_eq_getElem h]; rfl

set_option maxHeartbeats 1000000 in
theorem eqfunc_g (a b : Option Addr) (ac bc : Nat) (xs ys : List (List Int)) (w : World) (hx : RowsIn w a xs) (hy : RowsIn w b ys) (hxl : xs.length ≤ 1000000000) (hyl : ys.length ≤ 1000000000) (hx2 : ∀ j, j < xs.length → (xs.getD j []).length ≤ 1000000000) (hy2 : ∀ j, j < ys.length → (ys.getD j []).length ≤ 1000000000)
    (r : Bool) (hr : decide (xs = ys) = r) :
    Calls Try.prog 32 #[.slice a xs.length ac, .slice b ys.length bc, .func (.func 33) #[] #[]] w fun e w' => e = .returned (.bool r) ∧ Below w.heap.size w w' := by
  have HX := Lib.hid hx
  have HY := Lib.hid hy
  have HR := Lib.hid hr
  have HX2 := Lib.hid hx2
  have HY2 := Lib.hid hy2
  clear hx hy hr hx2 hy2
  by_cases hn : xs.length = ys.length
  · have hd : ((xs.length : Int) != (ys.length : Int)) = false := by simp [hn]
    have HN := Lib.hid hn
    clear hn
    go_enter Try.func32, Try.ntmps32
    go_wp2_with fail
    go_loopg [17] xs.length (fun m iv wr => ∃ i : Nat, i + m = xs.length ∧ iv = .int .i64 i ∧ Hid (decide (xs.drop i = ys.drop i) = r) ∧ Below w.heap.size w wr)
    case atStart => exact ⟨0, by omega, rfl, HR, Below.refl _ _⟩
    case round =>
      obtain ⟨i, him, rfl, HI, hbr⟩ := hrel
      cases gm : gk with
      | zero =>
        subst gm
        have hi := HI.out
        rw [List.drop_of_length_le (by omega), List.drop_of_length_le (by have := HN.out; omega)] at hi
        have hi' : true = r := by simpa using hi
        have HI' := Lib.hid hi'
        clear hi hi' HI
        go_wp2_with fail
        go_ret
        exact ⟨bool_ret HI'.out, hbr⟩
      | succ m =>
        subst gm
        have hil : i < xs.length := by omega
        have hil2 : i < ys.length := by have := HN.out; omega
        obtain ⟨xb, xo, rfl, hxb, hxc⟩ := HX.out (by omega)
        obtain ⟨yb, yo, rfl, hyb, hyc⟩ := HY.out (by omega)
        obtain ⟨u, hu, ua, uc, rfl, hui⟩ := hxc i hil
        obtain ⟨v, hv, va, vc, rfl, hvi⟩ := hyc i hil2
        have hu' := below_cell (p := ⟨xb, xo + i, none⟩) hbr hxb hu
        have hv' := below_cell (p := ⟨yb, yo + i, none⟩) hbr hyb hv
        have hi := HI.out
        rw [drop_consZ xs i hil, drop_consZ ys i hil2] at hi
        have ex : xs.getD i default = xs.getD i [] := rfl
        have ey : ys.getD i default = ys.getD i [] := rfl
        rw [ex, ey] at hi
        have hxi := HX2.out i hil
        have hyi := HY2.out i hil2
        have HU := Lib.hid (hui.below hbr)
        have HV := Lib.hid (hvi.below hbr)
        clear hxc hyc hu hv hui hvi ex ey HI
        generalize xs.getD i [] = x at *
        generalize ys.getD i [] = y at *
        cases hxy : decide (x = y) with
        | true =>
          have hcall := equal_ints ua va uc vc x y wr HU.out HV.out (by omega) (by omega) true hxy
          have HC := Lib.hid hcall
          have he : x = y := by simpa using hxy
          have hi2 : decide (xs.drop (i + 1) = ys.drop (i + 1)) = r := by rw [← hi]; simp [he]
          have HI2 := Lib.hid hi2
          clear hi hi2 he hcall hxy
          go_wp2_with fail
          refine HC.out.mono ?_
          rintro e w2 ⟨rfl, hb2⟩
          go_wp2_with fail
          go_roundg m
          case rel => exact ⟨i + 1, by omega, by go_num, HI2, hbr.trans (hb2.mono hbr.size)⟩
          case measure => omega
        | false =>
          have hcall := equal_ints ua va uc vc x y wr HU.out HV.out (by omega) (by omega) false hxy
          have HC := Lib.hid hcall
          have he : ¬ x = y := by simpa using hxy
          have hi2 : false = r := by rw [← hi]; simp [he]
          have HI2 := Lib.hid hi2
          clear hi hi2 he hcall hxy
          go_wp2_with fail
          refine HC.out.mono ?_
          rintro e w2 ⟨rfl, hb2⟩
          go_wp2_with fail
          go_ret
          exact ⟨bool_ret HI2.out, hbr.trans (hb2.mono hbr.size)⟩
  · have hd : ((xs.length : Int) != (ys.length : Int)) = true := by rw [bne_iff_ne]; omega
    have hi2 : false = r := by
      rw [← HR.out]
      have : ¬ xs = ys := fun h => hn (by rw [h])
      simp [this]
    have HI2 := Lib.hid hi2
    clear hn hi2
    go_enter Try.func32, Try.ntmps32
    go_wp2_with fail
    go_ret
    exact ⟨bool_ret HI2.out, Below.refl _ _⟩

theorem same_g (a b : Option Addr) (ac bc : Nat) (xs ys : List (List Int)) (w : World) (hx : RowsIn w a xs) (hy : RowsIn w b ys) (hxl : xs.length ≤ 1000000000) (hyl : ys.length ≤ 1000000000) (hx2 : ∀ j, j < xs.length → (xs.getD j []).length ≤ 1000000000) (hy2 : ∀ j, j < ys.length → (ys.getD j []).length ≤ 1000000000)
    (r : Bool) (hr : decide (xs = ys) = r) :
    Calls Try.prog 18 #[.slice a xs.length ac, .slice b ys.length bc] w fun e w' => e = .returned (.bool r) ∧ Below w.heap.size w w' := by
  have hcall := eqfunc_g a b ac bc xs ys w hx hy hxl hyl hx2 hy2 r hr
  have HC := Lib.hid hcall
  clear hcall hx hy hr hx2 hy2
  go_enter Try.func18, Try.ntmps18
  go_wp2_with fail
  refine HC.out.mono ?_
  rintro e w2 ⟨rfl, hb2⟩
  go_wp2_with fail
  go_ret
  exact ⟨rfl, hb2⟩

end Go.Proofs.Ytnejjgolmikplaa
