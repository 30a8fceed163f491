/- The walks of (*group).kernel's closure and of slices.IndexFunc with it. -/
import Derived.Test.YtnejjgolmikplaaNest
namespace Go.Proofs.Ytnejjgolmikplaa
open Go.RowKit Go.Proofs

theorem ker1_g (cb c : Nat) (v : Value) (l : List Nat) (w : World) (hv : HVec w noBad v l) (hc : c < l.length) (hl : l.length ≤ 1000) (hcell : w.cell? ⟨cb, 0, none⟩ = some (.int .i64 c)) :
    Calls Try.prog 83 #[v, .pointer (some ⟨cb, 0, none⟩)] w fun e w' => e = .returned (.bool (((l.getD c 0 : Nat) : Int) != 0)) ∧ w = w' := by
  obtain ⟨a, cc, rfl, h⟩ := hv
  obtain ⟨b, o, rfl, hb, -, hcells⟩ := h (by omega)
  obtain ⟨u, hu, rfl⟩ := hcells c hc
  have e : (default : Nat) = 0 := rfl
  rw [e] at hu
  generalize l.getD c 0 = x at *
  clear hcells h e
  go_enter Try.func83, Try.ntmps83
  go_wp2
  go_ret
  exact ⟨rfl, rfl⟩

/-- The first row that is not 0 at c. -/
def firstNZ (c : Nat) : List (List Nat) → Nat → Option Nat
  | [], _ => none
  | r :: l, i => if r.getD c 0 = 0 then firstNZ c l (i + 1) else some i
def idxI : Option Nat → Int
  | none => -1
  | some i => i

theorem drop_cons {α : Type} [Inhabited α] (l : List α) (i : Nat) (h : i < l.length) : l.drop i = l.getD i default :: l.drop (i + 1) := by
  rw [List.drop_eq_getElem_cons h, List.getD_eq_getElem?_getD, List.getElem?_eq_getElem h]; rfl

set_option maxHeartbeats 1000000 in
theorem idxv_g (cb c : Nat) (v : Value) (rows : List (List Nat)) (w : World) (hv : HRows w noBad v rows) (hn : rows.length ≤ 1000) (hr : ∀ j, j < rows.length → c < (rows.getD j default).length ∧ (rows.getD j default).length ≤ 1000) (hcell : w.cell? ⟨cb, 0, none⟩ = some (.int .i64 c)) :
    Calls Try.prog 82 #[v, .func (.func 83) #[] #[.pointer (some ⟨cb, 0, none⟩)]] w fun e w' => e = .returned (.int .i64 (idxI (firstNZ c rows 0))) ∧ w = w' := by
  obtain ⟨a, cc, rfl, h⟩ := hv
  have HV := Lib.hid h
  have HC := Lib.hid hcell
  have HR := Lib.hid hr
  generalize hres : firstNZ c rows 0 = res
  have HRES := Lib.hid hres
  clear h hcell hr hres
  go_enter Try.func82, Try.ntmps82
  go_wp2_with fail
  go_loopg [8] rows.length (fun m iv wr => ∃ i : Nat, i + m = rows.length ∧ iv = .int .i64 i ∧ wr = w ∧ Hid (firstNZ c (rows.drop i) i = res))
  case atStart => exact ⟨0, by omega, rfl, rfl, Lib.hid (by simpa using HRES.out)⟩
  case round =>
    obtain ⟨i, him, rfl, rfl, HI⟩ := hrel
    cases gm : gk with
    | zero =>
      subst gm
      obtain rfl : i = rows.length := by omega
      have hi := HI.out
      rw [List.drop_length] at hi
      simp only [firstNZ] at hi
      subst hi
      go_wp2_with fail
      go_ret
      exact ⟨rfl, rfl⟩
    | succ m =>
      subst gm
      have hil : i < rows.length := by omega
      obtain ⟨b, o, rfl, hb, -, hcells⟩ := HV.out (by omega)
      obtain ⟨u, hu, hur⟩ := hcells i hil
      have hi := HI.out
      rw [drop_cons rows i hil] at hi
      simp only [firstNZ] at hi
      obtain ⟨hr1, hr2⟩ := HR.out i hil
      have HU := Lib.hid hur
      clear hcells hur
      generalize rows.getD i default = row at *
      by_cases h0 : row.getD c 0 = 0
      · rw [if_pos h0] at hi
        have HI2 := Lib.hid hi
        have hq : (((row.getD c 0 : Nat) : Int) != 0) = false := by rw [h0]; rfl
        have hcall := ker1_g cb c u row wr HU.out hr1 hr2 HC.out
        rw [hq] at hcall
        have HCALL := Lib.hid hcall
        clear hi h0 hq hcall
        go_wp2_with fail
        refine HCALL.out.mono ?_
        rintro e w' ⟨rfl, rfl⟩
        go_wp2_with fail
        go_roundg m
        case rel => exact ⟨i + 1, by omega, by go_num, rfl, HI2⟩
        case measure => omega
      · rw [if_neg h0] at hi
        have HI2 := Lib.hid hi
        have hq : (((row.getD c 0 : Nat) : Int) != 0) = true := by rw [bne_iff_ne]; omega
        have hcall := ker1_g cb c u row wr HU.out hr1 hr2 HC.out
        rw [hq] at hcall
        have HCALL := Lib.hid hcall
        clear hi h0 hq hcall
        go_wp2_with fail
        refine HCALL.out.mono ?_
        rintro e w' ⟨rfl, rfl⟩
        go_wp2_with fail
        go_ret
        exact ⟨by rw [← HI2.out]; rfl, rfl⟩

end Go.Proofs.Ytnejjgolmikplaa
