/- All groups that generators make lie in the catalogue. -/
import Derived.Test.YtnejjgolmikplaaCatK1
import Derived.Test.YtnejjgolmikplaaCatK2
import Derived.Test.YtnejjgolmikplaaCatK3
import Derived.Test.YtnejjgolmikplaaCatK4
import Derived.Test.YtnejjgolmikplaaCatK5
namespace Go.Proofs.Ytnejjgolmikplaa
open Go.RowKit Go.Proofs

theorem in_part {x : List Nat × Nat} (h : x ∈ catN) : ∃ k, k < 16 ∧ x ∈ (catN.drop (10 * k)).take 10 := by
  obtain ⟨i, hi, rfl⟩ := List.mem_iff_getElem.1 h
  have hl := cat_len
  refine ⟨i / 10, by omega, List.mem_iff_getElem.2 ⟨i % 10, by simp; omega, ?_⟩⟩
  rw [List.getElem_take, List.getElem_drop]
  congr 1
  omega

theorem catOk : ∀ x ∈ catN, okM x = true := by
  intro x hx
  obtain ⟨k, hk, hm⟩ := in_part hx
  have : k = 0 ∨ k = 1 ∨ k = 2 ∨ k = 3 ∨ k = 4 ∨ k = 5 ∨ k = 6 ∨ k = 7 ∨ k = 8 ∨ k = 9 ∨ k = 10 ∨ k = 11 ∨ k = 12 ∨ k = 13 ∨ k = 14 ∨ k = 15 := by omega
  rcases this with rfl | rfl | rfl | rfl | rfl | rfl | rfl | rfl | rfl | rfl | rfl | rfl | rfl | rfl | rfl | rfl
  · exact allL_get catOk0 x hm
  · exact allL_get catOk1 x hm
  · exact allL_get catOk2 x hm
  · exact allL_get catOk3 x hm
  · exact allL_get catOk4 x hm
  · exact allL_get catOk5 x hm
  · exact allL_get catOk6 x hm
  · exact allL_get catOk7 x hm
  · exact allL_get catOk8 x hm
  · exact allL_get catOk9 x hm
  · exact allL_get catOk10 x hm
  · exact allL_get catOk11 x hm
  · exact allL_get catOk12 x hm
  · exact allL_get catOk13 x hm
  · exact allL_get catOk14 x hm
  · exact allL_get catOk15 x hm

theorem deg_cases {P : Nat → Prop} (h1 : P 1) (h2 : P 2) (h3 : P 3) (h4 : P 4) (h5 : P 5) : ∀ d, 1 ≤ d → d ≤ 5 → P d := by
  intro d hd hd5
  have : d = 1 ∨ d = 2 ∨ d = 3 ∨ d = 4 ∨ d = 5 := by omega
  rcases this with rfl | rfl | rfl | rfl | rfl <;> assumption

theorem allOK : AllOK := by
  have hd := dcl_ok
  simp only [Bool.and_eq_true] at hd
  obtain ⟨d1, d2, d3, d4, d5⟩ := hd
  refine ⟨⟨tab_ok, catOk, fun x hx => allL_get cl_ok x hx, one_ok, fun i hi => ?_, fun i hi => ?_, triv_ok⟩, deg_cases perm1 perm2 perm3 perm4 perm5, deg_cases d1 d2 d3 d4 d5, fun x hx => ?_⟩
  · have := allTo_get okp_ok i hi
    simp only [Bool.and_eq_true, Nat.blt_eq, okDig] at this
    obtain ⟨h, a0, a1, a2, a3, a4⟩ := this
    refine ⟨h, fun j hj => ?_⟩
    have : j = 0 ∨ j = 1 ∨ j = 2 ∨ j = 3 ∨ j = 4 := by omega
    rcases this with rfl | rfl | rfl | rfl | rfl <;> assumption
  · have := allTo_get inc_ok i hi
    simpa [Nat.blt_eq] using this
  · have := List.all_eq_true.1 recs_at x hx
    simp only [Bool.and_eq_true] at this
    obtain ⟨r1, r2, r3, r4, r5⟩ := this
    exact deg_cases (P := fun d => recAt x d = true) r1 r2 r3 r4 r5

theorem allGood : AllGood := good_of allOK (fun r hr => List.all_eq_true.1 recs_ok r hr)

/-- The group of generators is one of the catalogue. -/
theorem grp_rec (gs : List (List Int)) : grpOf gs = .bad ∨ grpOf gs = .big ∨ ∃ r ∈ recsN, grpOf gs = .ok r.d r.els r.q ∧ GoodR r := by
  unfold grpOf
  by_cases h : okGens gs = true
  · rw [if_pos h]
    obtain ⟨-, h2⟩ := rec_of allOK gs h
    cases hb : bfsF (gs.map permCode) 30 0 [idC] with
    | none => exact .inr (.inl rfl)
    | some fin =>
      cases fin with
      | none => exact .inr (.inl rfl)
      | some E =>
        obtain ⟨r, hr, hd, he⟩ := h2 E hb
        have g := goodB_get (List.all_eq_true.1 recs_ok r hr)
        refine .inr (.inr ⟨r, hr, ?_, g⟩)
        show Grp.ok (deg gs) (sortN E) (primeOf (deg gs) (sortN E)) = _
        rw [← hd, ← he, g.pr]
  · rw [if_neg h]; exact .inl rfl

end Go.Proofs.Ytnejjgolmikplaa
