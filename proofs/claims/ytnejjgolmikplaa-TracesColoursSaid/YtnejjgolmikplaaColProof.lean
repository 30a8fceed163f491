/- The statement: for every input TracesColours returns true, and its arguments read as they did. No condition. -/
import Derived.Test.YtnejjgolmikplaaRows
import Derived.Test.YtnejjgolmikplaaColours
import Derived.ProofKit
import Derived.Deep.Matrix
namespace Go.Proofs.Ytnejjgolmikplaa
open Go.ChangeShapes Go.WideShapes Go.ChangeAt Go.RowKit Go.Deep

theorem own_col : ownKnob Try.prog.godebug = none := by kernel_rfl
theorem laidOut_col : laidOutB Try.prog = true := by kernel_rfl
theorem cells_row : Try.prog.cellsOf 30 = 1 := by kernel_rfl
theorem cells_int : Try.prog.cellsOf 3 = 1 := by kernel_rfl
theorem maxLen_is : maxLen = 9223372036854775807 := rfl

/-- What an argument of type [][]int holds. -/
theorem open_rows {H : Type} {enc : TypeId × Value → H} {W : World} {base : Nat} {held : Bool} {fuel : Nat} {cs : List Value} {x : DataW H × List MemPlace}
    (h : DataW.trod enc Try.prog W base (fun _ => true) held fuel 22 cs = some x) :
    ∃ (a : Option Addr) (c : Nat) (gs : List (List Int)), cs = [.slice a gs.length c] ∧ gs.length ≤ 9223372036854775807 ∧ ArgRows W a gs := by
  rcases open_int_rows Try.underlying22 Try.underlying30 Try.underlying3 cells_row cells_int h with ⟨hcs, -⟩ | ⟨a, len, cap, A, L, C, Z, hcs, -, hl, hm, -, hrows⟩
  · exact ⟨none, 0, [], hcs, by simp, fun hp => absurd hp (by simp)⟩
  · rw [maxLen_is] at hm
    refine ⟨some a, cap, (List.range len).map fun r => (Z r).take (L r), by simpa using hcs, by simp; omega, fun hp => ?_⟩
    have hp' : 0 < len := by simpa using hp
    have hadd : ∀ (a : Addr) (v : Value), W.cell? (a.add 0) = some v → ∃ b o, a = ⟨b, o, none⟩ := fun a v hv => by
      obtain ⟨b, o, s⟩ := a
      have : s = none := by simpa [Addr.add] using World.cell?_spot hv
      exact ⟨b, o, by rw [this]⟩
    obtain ⟨b, o, rfl⟩ := hadd a _ (hrows 0 (by omega)).1
    have h0 := (hrows 0 (by omega)).1
    refine ⟨b, o, rfl, ?_, fun j hj => ?_⟩
    · have := World.block_lt_of_cell? _ _ h0
      rw [add_plain] at this
      exact this
    · have hj' : j < len := by simpa using hj
      obtain ⟨r1, r2, r3, r4, r5, r6, r7⟩ := hrows j (by omega)
      rw [add_plain] at r1
      rw [maxLen_is] at r3
      have hg : ((List.range len).map fun r => (Z r).take (L r)).getD j [] = (Z j).take (L j) := by
        simp [List.getD_eq_getElem?_getD, hj']
      have hlen : ((Z j).take (L j)).length = L j := by rw [List.length_take]; omega
      refine ⟨_, r1, A j, C j, ?_, ?_, r3, r6, fun hpj => ?_⟩
      · rw [hg, hlen]
      · rw [hg, hlen]; exact r2
      · rw [hg, hlen] at hpj
        cases hA : A j with
        | none => have := r6 hA; omega
        | some ad =>
          obtain ⟨-, hc⟩ := r7 ad hA
          obtain ⟨b', o', rfl⟩ := hadd ad _ (hc 0 (by omega))
          have h00 := hc 0 (by omega)
          refine ⟨b', o', rfl, ?_, fun i hi => ?_⟩
          · have := World.block_lt_of_cell? _ _ h00
            rw [add_plain] at this
            exact this
          · rw [hg, hlen] at hi
            have := hc i (by omega)
            rw [add_plain] at this
            rw [this, hg]
            congr 2
            rw [List.getD_eq_getElem?_getD, List.getD_eq_getElem?_getD, List.getElem?_take_of_lt hi]

set_option maxRecDepth 100000 in
theorem colours_lifted (os : Os) (started : os.Started) (H : Type) (enc : TypeId × Value → H) :
    ReturnsInHanded {} Try.checked os 3 .any (Rows.tracesColoursSpec.pre6 enc Try.prog Try.f3 Rows.tracesColoursRow.domain false) (Rows.tracesColoursSpec.post enc Try.prog Try.f3 false true false false) := by
  refine returnsInHanded_of_change (C := Try.checked) own_col started (by kernel_rfl) Try.func3
    (ChangeSpec.witness6 (enc := enc) (C := Try.checked) false ⟨#[], #[.slice none 0 0, .int .i64 0], []⟩ 8 (by kernel_rfl) (by kernel_rfl) (by kernel_rfl) (by kernel_rfl)) ?_
  intro W base args ds gs before hval0 hW hcnd _
  have hval : ∀ (j : Nat) t v, Try.f3.params[j]? = some t → args[j]? = some v → Value.okWide Try.prog W .any base t v := hval0
  have hW' := hW
  obtain ⟨p, q, hA0, hV, rfl, hfz, hnd⟩ := hW
  have hA : DataW.TrodAll enc Try.prog W 0 (fun _ => true) true Try.f3.params.toList args.toList ds p := hA0
  rw [Try.params3] at hA hval
  obtain ⟨v0, v1, d0, d1, p0, p1, rfl, rfl, rfl, h0, h1⟩ := trodAll_two hA
  obtain ⟨rfl, rfl⟩ := trodVars_none hV
  obtain ⟨a0, len, cap, rfl⟩ := okWide_slice Try.underlying22 (hval 0 22 v0 rfl rfl)
  obtain ⟨k, rfl, rfl, rfl, wk⟩ := open_int Try.underlying3 (hval 1 3 v1 rfl rfl) h1
  have h0k := h0
  obtain ⟨fuel, hf⟩ := h0
  obtain ⟨a, c, gs, hcs, hgl, hrows⟩ := open_rows hf
  simp [Value.cells] at hcs
  obtain ⟨rfl, rfl, rfl⟩ := hcs
  clear hA0 hval0 hA hf
  simp only [List.append_nil] at hW'
  have hlt : ∀ x ∈ p0, x.block < W.heap.size := fun x hx => hW'.lt x (by simp [hx])
  refine (colours_any a0 cap gs k W hrows hgl).mono fun e W' ⟨he, hb⟩ => ?_
  subst he
  have ht0 := Go.RowKit.Below.trod laidOut_col (by kernel_rfl) (of_decide_eq_true (by kernel_rfl)) h0k hb hlt
  refine ⟨_, rfl, _, _, _, [], p0, [], hW', ?_, ?_, ?_, hb.frame _, fun h => by cases h⟩
  · have tb : DataW.Trod enc Try.prog W' W.heap.size (fun _ => false) false 4 (.bool true) (.lit (.bool true)) [] := ⟨1, by simp [DataW.trod, Value.cells, Try.underlying4]⟩
    exact trodAll_mk1 tb
  · have := trodAll_mk2 ht0 (shut_int (enc := enc) (P := Try.prog) (w := W') (base := 0) (spare := fun b => decide (b < W.heap.size)) (held := true) Try.underlying3 wk)
    rw [List.append_nil] at this
    exact this
  · exact hV

theorem colours_holds : Rows.TracesColoursSaid :=
  OpenClaim.holds_of_wide 3 Try.f3 rfl rfl rfl rfl rfl rfl rfl ⟨rfl, rfl, rfl, rfl, rfl⟩ rfl rfl rfl rfl rfl (by kernel_rfl) Try.func3 (by kernel_rfl)
    (of_decide_eq_true (by kernel_rfl)) (by unfold Func.isWrapper; first | (rw [if_pos (by decide +kernel)]; kernel_rfl) | (rw [if_neg (by decide +kernel)]; exact ⟨rfl, rfl⟩))
    (fun os started H enc _ => colours_lifted os started H enc)
#print axioms colours_holds

end Go.Proofs.Ytnejjgolmikplaa
