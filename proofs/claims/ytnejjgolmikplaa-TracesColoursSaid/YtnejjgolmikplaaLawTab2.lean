/- The walk of the law's helper table. -/
import Derived.Test.YtnejjgolmikplaaLawTab
namespace Go.Proofs.Ytnejjgolmikplaa
open Go.RowKit Go.Proofs

/-- An argument: a slice of slices of ints. -/
def ArgRows (w : World) (a : Option Addr) (gs : List (List Int)) : Prop := 0 < gs.length → ∃ b o, a = some ⟨b, o, none⟩ ∧ b < w.heap.size ∧ ∀ j, j < gs.length → ∃ v, w.cell? ⟨b, o + j, none⟩ = some v ∧ ArgInts w v (gs.getD j [])
theorem ArgRows.below {w w' : World} {a : Option Addr} {gs : List (List Int)} (h : ArgRows w a gs) (hb : Below w.heap.size w w') : ArgRows w' a gs := fun hp => by
  obtain ⟨b, o, ha, hlt, hc⟩ := h hp
  refine ⟨b, o, ha, Nat.lt_of_lt_of_le hlt hb.size, fun j hj => ?_⟩
  obtain ⟨v, hv, hr⟩ := hc j hj
  exact ⟨v, below_cell (p := ⟨b, o + j, none⟩) hb hlt hv, hr.below hb⟩

/-- What table leaves of a table. -/
def tabF (gs : List (List Int)) : List (List Int) := (gs.take 6).map fun l => l.take 30
theorem tabF_len (gs : List (List Int)) : (tabF gs).length ≤ 6 := by simp [tabF]; omega
theorem tabF_row (gs : List (List Int)) (j : Nat) : ((tabF gs).getD j []).length ≤ 30 := by
  unfold tabF
  rw [List.getD_eq_getElem?_getD, List.getElem?_map]
  cases (gs.take 6)[j]? with
  | none => simp
  | some x => simp; omega

theorem tabF_snoc (gs : List (List Int)) (i : Nat) (h : i < gs.length) (h6 : i < 6) : tabF (gs.take (i + 1)) = tabF (gs.take i) ++ [(gs.getD i []).take 30] := by
  unfold tabF
  rw [List.take_take, List.take_take, Nat.min_eq_right (by omega), Nat.min_eq_right (by omega), List.take_add_one, List.map_append, List.getElem?_eq_getElem h, List.getD_eq_getElem?_getD, List.getElem?_eq_getElem h]
  rfl
theorem tabF_skip (gs : List (List Int)) (i : Nat) (h6 : ¬ i < 6) : tabF (gs.take (i + 1)) = tabF (gs.take i) := by
  unfold tabF
  rw [List.take_take, List.take_take, Nat.min_eq_left (by omega), Nat.min_eq_left (by omega)]

set_option maxHeartbeats 2000000 in
set_option maxRecDepth 100000 in
theorem table_g (a : Option Addr) (c : Nat) (gs : List (List Int)) (w : World) (h : ArgRows w a gs) (hl : gs.length ≤ 9223372036854775807) :
    Calls Try.prog 6 #[.slice a gs.length c] w fun e w' => ∃ a' c', e = .returned (.slice a' (tabF gs).length c') ∧ RowsIn w' a' (tabF gs) ∧ Below w.heap.size w w' := by
  obtain ⟨i30, hi30⟩ := info_parts (by kernel_rfl : (Try.prog.info? 30).map (fun i => (i.zero, i.size, i.bytes)) = some (some (.slice none 0 0), 1, 24))
  have HI30 := Lib.hid hi30
  have HA := Lib.hid h
  clear h hi30
  go_enter Try.func6, Try.ntmps6
  go_wp2_with fail
  go_loopg [3, 8] gs.length (fun m ov iv wr => ∃ (i : Nat) (vals : List Value), i + m = gs.length ∧ iv = .int .i64 i ∧ OwnV HVecZ wr w.heap.size 30 (fun k => ov.ownBlock = some k) ov vals (tabF (gs.take i)) ∧ Below w.heap.size w wr)
  case atStart => exact ⟨0, [], by omega, rfl, OwnV.nil _ _ _ _ _, Below.refl _ _⟩
  case round =>
    obtain ⟨i, vals, him, rfl, hown, hbr⟩ := hrel
    have hsr := hbr.size
    cases gm : gk with
    | zero =>
      subst gm
      obtain rfl : i = gs.length := by omega
      rw [List.take_length] at hown
      obtain ⟨a', c', rfl, hri⟩ := HRowsZ.rowsIn (hown.hold HVecZ.keeps)
      clear hown
      go_wp2_with fail
      go_ret
      exact ⟨a', c', rfl, hri, hbr⟩
    | succ m =>
      subst gm
      have hil : i < gs.length := by omega
      obtain ⟨b, o, rfl, hb, hc⟩ := HA.out (by omega)
      obtain ⟨v, hv, hav⟩ := hc i hil
      have hv' := below_cell (p := ⟨b, o + i, none⟩) hbr hb hv
      clear hv hc
      by_cases h6 : i < 6
      · have hlist := list_g v _ wr (hav.below hbr)
        have hsn := tabF_snoc gs i hil h6
        have HS := Lib.hid hsn
        have HL := Lib.hid hlist
        have HOWN := Lib.hid hown
        have hln : (tabF (gs.take i)).length = i := by simp [tabF]; omega
        have HLN := Lib.hid hln
        clear hlist hav hsn hown hln
        go_wp2_with fail
        refine HL.out.mono ?_
        rintro e w2 ⟨v2, rfl, hv2, hb2⟩
        obtain ⟨a2, c2, hv2e, hv2h⟩ := hv2
        have hv2 : HVecZ w2 (fun k => k < wr.heap.size) (.slice a2 ((gs.getD i []).take 30).length c2) ((gs.getD i []).take 30) := ⟨a2, c2, rfl, hv2h⟩
        clear hv2h
        subst hv2e
        generalize ((gs.getD i []).take 30) = row at *
        generalize hrl : row.length = rl at *
        have HRL := Lib.hid hrl
        clear hrl
        have hown2 := HOWN.out.below HVecZ.keeps hb2
        have hbW : Below wr.heap.size wr (w2.alloc (.cells #[.slice a2 rl c2] 30)) := hb2.alloc hb2.size _
        have hown3 := HOWN.out.below HVecZ.keeps hbW
        have hown3' := hown3.own
        rw [HLN.out] at hown3'
        have HO3 := Lib.hid hown3'
        have HOW := Lib.hid hown3
        have hs2 := hb2.size
        have hv3 : HVecZ (w2.alloc (.cells #[.slice a2 rl c2] 30)) (fun k => u3.ownBlock = some k) (.slice a2 rl c2) row := HVecZ.keeps.below hv2 ((Below.refl _ _).alloc (Nat.le_refl _) _) (fun k hk h => (HOWN.out.own.lt k h).2)
        have HV3 := Lib.hid hv3
        clear hown2 hown3 hown3' hv2 hv3 HL
        go_wp2_with (at_builtin; refine wpList_append_lies _ rfl (.tmp 15) (.tmp 18) 22 rfl w.heap.size 30 i30 (.slice none 0 0) 1 24 Try.underlying22 HI30.out.1 HI30.out.2.1 HI30.out.2.2.1 HI30.out.2.2.2 rfl (by omega) u3 i vals rfl HO3.out ⟨w2.heap.size, 0, none⟩ 1 1 [.slice a2 rl c2] rfl rfl (World.news_of_block (heap_alloc_new w2 _)) (by simp [Value.oneCell']) (by omega) (by unfold maxLen; omega) (by omega) (by simp; omega) (w2.heap.size + 1) (by simp) ?_; intro g8 cap8 w8 hown8 hgrow8 hat8 hlt8)
        go_roundg m
        case rel =>
          refine ⟨i + 1, vals ++ [.slice a2 rl c2], by omega, by go_num, ?_, ?_⟩
          · rw [HS.out]
            have hp := OwnV.push HVecZ.keeps HOW.out HV3.out (by rw [HLN.out]; exact hown8) hgrow8 (hat8.imp id (fun h => by simp; omega))
            rw [HLN.out] at hp
            have e : (fun k => (Value.slice (some ⟨g8, 0, none⟩) (i + 1) cap8).ownBlock = some k) = (fun k => k = g8) := by
              funext k
              simp only [Value.ownBlock, Option.some.injEq, eq_iff_iff]
              exact eq_comm
            rw [e]; exact hp
          · exact ((hbr.trans (hb2.mono hsr)).alloc (by omega) _).grown hgrow8 (by simp; omega) (fun k hk => (HOWN.out.own.lt k hk).1)
        case measure => omega
      · have hsn := tabF_skip gs i h6
        have HS := Lib.hid hsn
        have HOWN := Lib.hid hown
        have hd : decide ((i : Int) < 6) = false := by simp; omega
        clear hav hsn hown
        go_wp2_with fail
        go_roundg m
        case rel => exact ⟨i + 1, vals, by omega, by go_num, by rw [HS.out]; exact HOWN.out, hbr⟩
        case measure => omega

end Go.Proofs.Ytnejjgolmikplaa
