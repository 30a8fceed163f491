/- The walks of the law's helpers list and table. -/
import Derived.Test.YtnejjgolmikplaaNest
namespace Go.Proofs.Ytnejjgolmikplaa
open Go.RowKit Go.Proofs

/-- An int of any sign. -/
def HIntZ : Holdr Int := fun _ _ v x => v = .int .i64 x
theorem HIntZ.keeps : Keeps HIntZ := fun _ _ _ _ _ _ _ _ _ h => h
abbrev HVecZ : Holdr (List Int) := HList HIntZ
theorem HVecZ.keeps : Keeps HVecZ := HList.keeps HIntZ.keeps
abbrev HRowsZ : Holdr (List (List Int)) := HList HVecZ

theorem HVecZ.intsIn {w : World} {bad : Nat → Prop} {v : Value} {l : List Int} (h : HVecZ w bad v l) : ∃ a c, v = .slice a l.length c ∧ IntsIn w a l := by
  obtain ⟨a, c, hv, h⟩ := h
  refine ⟨a, c, hv, fun hp => ?_⟩
  obtain ⟨b, o, ha, hlt, -, hc⟩ := h hp
  refine ⟨b, o, ha, hlt, fun j hj => ?_⟩
  obtain ⟨u, hu, rfl⟩ := hc j hj
  exact hu

theorem HVecZ.of {w : World} {a : Option Addr} {c : Nat} {l : List Int} (h : IntsIn w a l) : HVecZ w noBad (.slice a l.length c) l := by
  refine ⟨a, c, rfl, fun hp => ?_⟩
  obtain ⟨b, o, ha, hlt, hc⟩ := h hp
  exact ⟨b, o, ha, hlt, fun h => h, fun j hj => ⟨_, hc j hj, rfl⟩⟩

theorem HRowsZ.rowsIn {w : World} {bad : Nat → Prop} {v : Value} {l : List (List Int)} (h : HRowsZ w bad v l) : ∃ a c, v = .slice a l.length c ∧ RowsIn w a l := by
  obtain ⟨a, c, hv, h⟩ := h
  refine ⟨a, c, hv, fun hp => ?_⟩
  obtain ⟨b, o, ha, hlt, -, hc⟩ := h hp
  refine ⟨b, o, ha, hlt, fun j hj => ?_⟩
  obtain ⟨u, hu, hr⟩ := hc j hj
  obtain ⟨a', c', rfl, hi⟩ := hr.intsIn
  exact ⟨_, hu, a', c', rfl, hi⟩

theorem iv_getZ (l : List Int) (j : Nat) (h : j < l.length) : (iv l)[j]? = some (.int .i64 (l.getD j 0)) := iv_get l j h

/-- What a value of the call's own row of ints holds. -/
theorem HVecZ.own {w : World} {B T : Nat} {v : Value} {n : Nat} {l : List Int} (h : w.ownsRow B T 1 v n (iv l)) (hn : n = l.length) (bad : Nat → Prop) (hbad : ∀ k, bad k → k < B) : HVecZ w bad v l := by
  subst hn
  rcases h.2 with ⟨hv, h0⟩ | ⟨g, cap, cur, hv, hB, hg, h1⟩
  · exact ⟨none, 0, by rw [hv, h0], fun hp => by omega⟩
  · refine ⟨some ⟨g, 0, none⟩, cap, hv, fun hp => ⟨g, 0, rfl, (Array.getElem?_eq_some_iff.1 hg).1, fun hb => by have := hbad g hb; omega, fun j hj => ⟨_, ?_, rfl⟩⟩⟩
    rw [hv] at h
    rw [Nat.zero_add, h.cellAt j (by omega), iv_get l j hj]; rfl

/-- An argument: a slice of ints, its capacity too. -/
def ArgInts (w : World) (v : Value) (xs : List Int) : Prop := ∃ a c, v = .slice a xs.length c ∧ xs.length ≤ c ∧ c ≤ 9223372036854775807 ∧ (a = none → c = 0) ∧ IntsIn w a xs
theorem ArgInts.below {w w' : World} {v : Value} {xs : List Int} (h : ArgInts w v xs) (hb : Below w.heap.size w w') : ArgInts w' v xs := by
  obtain ⟨a, c, h1, h2, h3, h4, h6⟩ := h
  exact ⟨a, c, h1, h2, h3, h4, h6.below hb⟩

theorem take_len30 (xs : List Int) : (xs.take 30).length = min xs.length 30 := by rw [List.length_take]; exact Nat.min_comm _ _

set_option maxHeartbeats 1000000 in
theorem list_g (v : Value) (xs : List Int) (w : World) (hv : ArgInts w v xs) :
    Calls Try.prog 12 #[v] w fun e w' => ∃ v', e = .returned v' ∧ HVecZ w' (fun k => k < w.heap.size) v' (xs.take 30) ∧ Below w.heap.size w w' := by
  obtain ⟨a, c, rfl, hle, hc, hnil, hin⟩ := hv
  have hmin : ((min (xs.length : Int) 30) : Int) = ((min xs.length 30 : Nat) : Int) := by omega
  have hcall : Calls Try.prog 17 #[.slice a (min xs.length 30) c] w fun e w' => ∃ v', e = .returned v' ∧ HVecZ w' (fun k => k < w.heap.size) v' (xs.take 30) ∧ Below w.heap.size w w' := by
    cases a with
    | none =>
      have h0 : xs.length = 0 := by have := hnil rfl; omega
      have hx : xs = [] := List.length_eq_zero_iff.1 h0
      subst hx
      refine (Try.slices_Clone_int_nil _ c w).mono ?_
      rintro e w' ⟨rfl, rfl⟩
      exact ⟨_, rfl, ⟨none, 0, rfl, fun hp => by simp at hp⟩, Below.refl _ _⟩
    | some ad =>
      by_cases hx0 : xs.length = 0
      · have hx : xs = [] := List.length_eq_zero_iff.1 hx0
        subst hx
        refine (Try.slices_Clone_int_zero ad c w).mono ?_
        rintro e w' ⟨v', rfl, hown, -, hb⟩
        exact ⟨v', rfl, HVecZ.own (l := []) hown rfl _ (fun k hk => hk), hb⟩
      obtain ⟨b, o, hbo, -, -⟩ := id hin (by omega)
      obtain rfl : ad = ⟨b, o, none⟩ := by simpa using hbo
      have hcl := Try.slices_Clone_int b o (min xs.length 30) c (xs.take 30) w (by rw [take_len30]; exact Nat.le_refl _) (by omega) (fun j hj => by
        rw [take_len30] at hj
        obtain ⟨b', o', hb', -, hcc⟩ := hin (by omega)
        obtain ⟨rfl, rfl⟩ : b = b' ∧ o = o' := by simpa using hb'
        rw [hcc j (by omega)]
        congr 2
        rw [List.getD_eq_getElem?_getD, List.getD_eq_getElem?_getD, List.getElem?_take_of_lt (by omega)])
      refine hcl.mono ?_
      rintro e w' ⟨v', rfl, hown, -, hb⟩
      rw [List.take_of_length_le (by rw [take_len30]; exact Nat.le_refl _)] at hown
      exact ⟨v', rfl, HVecZ.own (l := xs.take 30) hown (take_len30 xs).symm _ (fun k hk => hk), hb⟩
  rw [show min xs.length 30 = (min (xs.length : Int) 30).toNat from by omega] at hcall
  have HC := Lib.hid hcall
  clear hcall hmin hin hnil
  go_enter Try.func12, Try.ntmps12
  go_wp2_with fail
  refine HC.out.mono ?_
  rintro e w' ⟨v', rfl, h1, h2⟩
  go_wp2_with fail
  obtain ⟨a', c', rfl, h3⟩ := h1
  exact bodyPost_ret (v := .slice a' (xs.take 30).length c') (by simp [results, Try.results12, go_sem]) rfl ⟨_, rfl, ⟨a', c', rfl, h3⟩, h2⟩

end Go.Proofs.Ytnejjgolmikplaa
