/- The walk of traces.read where it refuses its argument. -/
import Derived.Test.YtnejjgolmikplaaRead
namespace Go.Proofs.Ytnejjgolmikplaa
open Go.RowKit Go.Proofs

set_option maxHeartbeats 4000000 in
set_option maxRecDepth 100000 in
theorem read_bad (ga : Option Addr) (gc : Nat) (gs : List (List Int)) (w : World) (hrows : RowsIn w ga gs) (hg1 : 1 ≤ gs.length) (hg4 : gs.length ≤ 4) (hd1 : 1 ≤ (gs.getD 0 []).length) (hd5 : (gs.getD 0 []).length ≤ 5)
    (hsm : ∀ j, j < gs.length → (gs.getD j []).length ≤ 1000) (hnp : ∃ j, j < gs.length ∧ isPermB (gs.getD j []) (gs.getD 0 []).length = false) :
    Calls Try.prog 15 #[.slice ga gs.length gc] w fun e w' => e = .returned (.tuple #[.pointer none, .int .i64 2]) ∧ Below w.heap.size w w' := by
  obtain ⟨gb0, go0, rfl, hgb0, hrow⟩ := hrows.row (by omega)
  obtain ⟨a0, c0, hc0, -⟩ := hrow 0 (by omega)
  rw [Nat.add_zero] at hc0
  generalize hd : (gs.getD 0 []).length = d at *
  have HD := Lib.hid hd
  have HSM := Lib.hid hsm
  have HROW := Lib.hid hrow
  have hq1 : decide ((gs.length : Int) < 1) = false := by simp; omega
  have hq2 : decide (4 < (gs.length : Int)) = false := by simp; omega
  have hq3 : decide ((d : Int) < 1) = false := by simp; omega
  have hq4 : decide (5 < (d : Int)) = false := by simp; omega
  obtain ⟨i46, hi46⟩ := info_parts (by kernel_rfl : (Try.prog.info? 46).map (fun i => (i.zero, i.size, i.bytes)) = some (some (.agg #[.int .i64 0, .int .i64 0, .int .i64 0, .int .i64 0, .int .i64 0]), 5, 40))
  have HI46 := Lib.hid hi46
  have hsz3 : (Try.prog.info? 3).map (·.size) = some 1 := by kernel_rfl
  have HSZ := Lib.hid hsz3
  have HNP := Lib.hid hnp
  clear hnp
  clear hd hsm hrow hrows hi46 hsz3
  go_enter Try.func15, Try.ntmps15
  go_wp2_with fail
  have hW1b : Below w.heap.size w ((w.alloc (.cells #[.int .i64 d, .slice none 0 0, .map none, .slice none 0 0, .slice none 0 0, .slice none 0 0, .int .i64 0] 44)).alloc (.cells (cellsP idC) 46)) :=
    ((Below.refl _ _).alloc (Nat.le_refl _) _).alloc (by simp) _
  have hW1g : ((w.alloc (.cells #[.int .i64 d, .slice none 0 0, .map none, .slice none 0 0, .slice none 0 0, .slice none 0 0, .int .i64 0] 44)).alloc (.cells (cellsP idC) 46)).heap[w.heap.size]? = some (.cells #[.int .i64 d, .slice none 0 0, .map none, .slice none 0 0, .slice none 0 0, .slice none 0 0, .int .i64 0] 44 (0, 0)) := by
    rw [Below.heap_alloc _ _ _ (by simp)]; exact heap_alloc_new w _
  have hW1o : ((w.alloc (.cells #[.int .i64 d, .slice none 0 0, .map none, .slice none 0 0, .slice none 0 0, .slice none 0 0, .int .i64 0] 44)).alloc (.cells (cellsP idC) 46)).heap[w.heap.size + 1]? = some (.cells (cellsP idC) 46 (0, 0)) := by
    have := heap_alloc_new (w.alloc (.cells #[.int .i64 d, .slice none 0 0, .map none, .slice none 0 0, .slice none 0 0, .slice none 0 0, .int .i64 0] 44)) (.cells (cellsP idC) 46)
    simpa using this
  have hW1s : ((w.alloc (.cells #[.int .i64 d, .slice none 0 0, .map none, .slice none 0 0, .slice none 0 0, .slice none 0 0, .int .i64 0] 44)).alloc (.cells (cellsP idC) 46)).heap.size = w.heap.size + 2 := by simp
  change Code.wp _ _ _ _ ((w.alloc (.cells #[.int .i64 d, .slice none 0 0, .map none, .slice none 0 0, .slice none 0 0, .slice none 0 0, .int .i64 0] 44)).alloc (.cells (cellsP idC) 46))
  generalize hW1 : (w.alloc (.cells #[.int .i64 d, .slice none 0 0, .map none, .slice none 0 0, .slice none 0 0, .slice none 0 0, .int .i64 0] 44)).alloc (.cells (cellsP idC) 46) = W1 at *
  clear hW1
  have HWB := Lib.hid hW1b
  have HWG := Lib.hid hW1g
  have HWO := Lib.hid hW1o
  have HWS := Lib.hid hW1s
  clear hW1b hW1g hW1o hW1s
  go_loopg [6, 46] gs.length (fun k byv iv wr => GensRel W1 46 (w.heap.size + 2) gs k byv iv wr ∧ ∀ i, i + k < gs.length → isPermB (gs.getD i []) d = true)
  case atStart => exact ⟨⟨0, by omega, rfl, World.ownsRow_nil _ _ _ _, Below.refl _ _⟩, fun i hi => absurd hi (by omega)⟩
  case round =>
    obtain ⟨⟨j, hjk, rfl, hown, hbel⟩, hpre⟩ := hrel
    have HPRE := Lib.hid hpre
    clear hpre
    have hww : Below w.heap.size w wr := HWB.out.trans (hbel.mono (by omega))
    have hsr : w.heap.size + 2 ≤ wr.heap.size := by have := hbel.size; have := HWS.out; omega
    have hgr : wr.heap[w.heap.size]? = _ := (hbel.block _ (by omega)).trans HWG.out
    have hor : wr.heap[w.heap.size + 1]? = _ := (hbel.block _ (by omega)).trans HWO.out
    have hg0 : wr.cell? ⟨w.heap.size, 0, none⟩ = some (.int .i64 d) := by rw [cell_of_row wr _ 0 _ _ _ hgr]; rfl
    have ho0 : wr.cell? ⟨w.heap.size + 1, 0, none⟩ = some (.int .i64 0) := by rw [cell_of_row wr _ 0 _ _ _ hor]; rfl
    have ho1 : wr.cell? ⟨w.heap.size + 1, 1, none⟩ = some (.int .i64 1) := by rw [cell_of_row wr _ 1 _ _ _ hor]; rfl
    have ho2 : wr.cell? ⟨w.heap.size + 1, 2, none⟩ = some (.int .i64 2) := by rw [cell_of_row wr _ 2 _ _ _ hor]; rfl
    have ho3 : wr.cell? ⟨w.heap.size + 1, 3, none⟩ = some (.int .i64 3) := by rw [cell_of_row wr _ 3 _ _ _ hor]; rfl
    have ho4 : wr.cell? ⟨w.heap.size + 1, 4, none⟩ = some (.int .i64 4) := by rw [cell_of_row wr _ 4 _ _ _ hor]; rfl
    have HGR := Lib.hid hgr
    have HOR := Lib.hid hor
    clear hgr hor
    cases gk with
    | zero =>
      exfalso
      obtain ⟨j0, hj0, hf⟩ := HNP.out
      rw [HPRE.out j0 (by omega)] at hf
      cases hf
    | succ m =>
      have hjl : j < gs.length := by omega
      obtain ⟨ra, rc, hrc, hri⟩ := HROW.out j hjl
      by_cases hp : isPermB (gs.getD j []) d = true
      · have hsl := HSM.out j hjl
        have hrc' := below_cell hww hgb0 hrc
        have hri' := hri.below hww
        generalize hl : gs.getD j [] = l at *
        have HRI := Lib.hid hri
        have hcall := isPerm_any ra rc l d wr hd1 hd5 hsl hri'
        rw [hp] at hcall
        have HCALL := Lib.hid hcall
        have HL := Lib.hid hl
        have HP := Lib.hid hp
        clear hl hp hrc hri hri' hcall hc0
        go_wp2_with (go_at_call 25; refine HCALL.out.mono ?_; rintro e w1 ⟨rfl, rfl⟩)
        obtain ⟨hll, hlb⟩ := isPermB_facts HP.out
        obtain ⟨sb, so, rfl, hsb, hsc⟩ := HRI.out (by omega)
        have hpb0 : (wr.alloc (.cells #[.int .i64 0, .int .i64 1, .int .i64 2, .int .i64 3, .int .i64 4] 46)).heap[wr.heap.size]? = some (.cells #[.int .i64 0, .int .i64 1, .int .i64 2, .int .i64 3, .int .i64 4] 46 (0, 0)) := heap_alloc_new wr _
        have hba : Below wr.heap.size wr (wr.alloc (.cells #[.int .i64 0, .int .i64 1, .int .i64 2, .int .i64 3, .int .i64 4] 46)) := (Below.refl _ _).alloc (Nat.le_refl _) _
        rw [run_copy_row Try.prog _ 30 30 3 3 wr.heap.size 0 5 5 ⟨sb, so, none⟩ l.length rc #[.int .i64 0, .int .i64 1, .int .i64 2, .int .i64 3, .int .i64 4] 46 (iv l) Try.underlying30 HSZ.out hpb0 (by rw [iv_length]; exact (Nat.min_eq_left (by omega)).symm)
          (fun i u hi => by
            have ha : (⟨sb, so, none⟩ : Addr).add i = ⟨sb, so + i, none⟩ := by unfold Addr.add; split <;> simp_all
            have hil : i < l.length := by
              rcases Nat.lt_or_ge i l.length with h | h
              · exact h
              · rw [List.getElem?_eq_none (by rw [iv_length]; exact h)] at hi; cases hi
            rw [ha, ← hi, iv_get l i hil]
            exact below_cell (hww.trans (hba.mono hww.size)) hsb (hsc i hil)) (by rw [iv_length]; simp; omega) (fun u hu => by simp only [iv, List.mem_map] at hu; obtain ⟨x, _, rfl⟩ := hu; rfl)]
        have hg2 := setRow_heap _ wr.heap.size _ ((#[Value.int .i64 0, .int .i64 1, .int .i64 2, .int .i64 3, .int .i64 4] : Array Value).toList.take 0 ++ iv l ++ (#[Value.int .i64 0, .int .i64 1, .int .i64 2, .int .i64 3, .int .i64 4] : Array Value).toList.drop (0 + (iv l).length)).toArray 46 (0, 0) hpb0
        have hb2 := below_setRow (g := wr.heap.size) hba (Nat.le_refl _) ((#[Value.int .i64 0, .int .i64 1, .int .i64 2, .int .i64 3, .int .i64 4] : Array Value).toList.take 0 ++ iv l ++ (#[Value.int .i64 0, .int .i64 1, .int .i64 2, .int .i64 3, .int .i64 4] : Array Value).toList.drop (0 + (iv l).length)).toArray
        rw [copy_code l d hll hd5 hlb] at hg2 hb2 ⊢
        generalize hW2 : (wr.alloc (.cells #[.int .i64 0, .int .i64 1, .int .i64 2, .int .i64 3, .int .i64 4] 46)).setRow wr.heap.size (cellsP (permCode l)) = W2 at *
        have hs2 : W2.heap.size = wr.heap.size + 1 := by rw [← hW2]; simp [World.setRow]
        have hp0 : W2.cell? ⟨wr.heap.size, 0, none⟩ = some (.int .i64 (dg (permCode l) 0 : Nat)) := by rw [cell_of_row W2 _ 0 _ _ _ hg2]; rfl
        have hp1 : W2.cell? ⟨wr.heap.size, 1, none⟩ = some (.int .i64 (dg (permCode l) 1 : Nat)) := by rw [cell_of_row W2 _ 1 _ _ _ hg2]; rfl
        have hp2 : W2.cell? ⟨wr.heap.size, 2, none⟩ = some (.int .i64 (dg (permCode l) 2 : Nat)) := by rw [cell_of_row W2 _ 2 _ _ _ hg2]; rfl
        have hp3 : W2.cell? ⟨wr.heap.size, 3, none⟩ = some (.int .i64 (dg (permCode l) 3 : Nat)) := by rw [cell_of_row W2 _ 3 _ _ _ hg2]; rfl
        have hp4 : W2.cell? ⟨wr.heap.size, 4, none⟩ = some (.int .i64 (dg (permCode l) 4 : Nat)) := by rw [cell_of_row W2 _ 4 _ _ _ hg2]; rfl
        have hown2 := ownsRow_below hown hb2
        have HW2 := Lib.hid hW2
        have HB2 := Lib.hid hb2
        have HS2 := Lib.hid hs2
        clear hW2 hpb0 hba hg2 hb2 hs2 hg0 ho0 ho1 ho2 ho3 ho4
        go_wp2_with (at_builtin; refine wpList_append_lies _ rfl (.tmp 61) (.tmp 63) 41 rfl (w.heap.size + 2) 46 i46 _ 5 40 Try.underlying41 HI46.out.1 HI46.out.2.1 HI46.out.2.2.1 HI46.out.2.2.2 rfl (by omega) u6 j (flat ((gs.map permCode).take j)) rfl (hown2.alloc _) ⟨W2.heap.size, 0, none⟩ 1 1 (cellsP (permCode l)).toList rfl rfl (World.news_of_block (heap_alloc_new W2 _)) (by simp [Value.oneCell', cellsP]) (by omega) (by unfold maxLen; omega) (by omega) (by have := HS2.out; simp; omega) (W2.heap.size + 1) (by simp) ?_; intro g5 cap5 w6 hown6 hgrow6 hat6 hlt6)
        go_roundg m
        case rel =>
          refine ⟨⟨j + 1, by omega, by go_num, ?_, ?_⟩, fun i hi => ?_⟩
          · have hsn : (gs.map permCode).take (j + 1) = (gs.map permCode).take j ++ [permCode l] := by
              rw [List.take_add_one, List.getElem?_map, List.getElem?_eq_getElem hjl]
              have := HL.out
              rw [List.getD_eq_getElem?_getD, List.getElem?_eq_getElem hjl] at this
              simp only [Option.getD_some] at this
              simp [this]
            rw [hsn, flat_snoc]
            exact hown6
          · exact ((hbel.trans (HB2.out.mono hsr)).alloc (by have := HS2.out; omega) _).grown hgrow6 (by have := HS2.out; simp; omega) (fun k hk => (hown2.lt k hk).1)
          · by_cases hij : i = j
            · rw [hij, HL.out]; exact HP.out
            · exact HPRE.out i (by omega)
        case measure => omega
      · have hpf : isPermB (gs.getD j []) d = false := by simpa using hp
        have hsl := HSM.out j hjl
        have hrc' := below_cell hww hgb0 hrc
        have hri' := hri.below hww
        generalize hl : gs.getD j [] = l at *
        have hcall := isPerm_any ra rc l d wr hd1 hd5 hsl hri'
        rw [hpf] at hcall
        have HCALL := Lib.hid hcall
        clear hl hp hrc hri hri' hcall hc0 ho0 ho1 ho2 ho3 ho4 hpf
        go_wp2_with (go_at_call 25; refine HCALL.out.mono ?_; rintro e w1 ⟨rfl, rfl⟩)
        exact bodyPost_ret (v := .tuple #[.pointer none, .int .i64 2]) (by simp [results, Try.results15, go_sem]) rfl ⟨rfl, hww⟩

set_option maxHeartbeats 1000000 in
theorem read_len (ga : Option Addr) (n gc : Nat) (w : World) (hn : n ≤ 1000) (h : n < 1 ∨ 4 < n) :
    Calls Try.prog 15 #[.slice ga n gc] w fun e w' => e = .returned (.tuple #[.pointer none, .int .i64 2]) ∧ Below w.heap.size w w' := by
  go_enter Try.func15, Try.ntmps15
  by_cases h1 : n < 1
  · have hq1 : decide ((n : Int) < 1) = true := by simp; omega
    go_wp2_with fail
    exact bodyPost_ret (v := .tuple #[.pointer none, .int .i64 2]) (by simp [results, Try.results15, go_sem]) rfl ⟨rfl, Below.refl _ _⟩
  · have hq1 : decide ((n : Int) < 1) = false := by simp; omega
    have hq2 : decide (4 < (n : Int)) = true := by simp; omega
    go_wp2_with fail
    exact bodyPost_ret (v := .tuple #[.pointer none, .int .i64 2]) (by simp [results, Try.results15, go_sem]) rfl ⟨rfl, Below.refl _ _⟩

set_option maxHeartbeats 1000000 in
theorem read_deg (ga : Option Addr) (gc : Nat) (gs : List (List Int)) (w : World) (hrows : RowsIn w ga gs) (hg1 : 1 ≤ gs.length) (hg4 : gs.length ≤ 4) (hdl : (gs.getD 0 []).length ≤ 1000) (h : (gs.getD 0 []).length < 1 ∨ 5 < (gs.getD 0 []).length) :
    Calls Try.prog 15 #[.slice ga gs.length gc] w fun e w' => e = .returned (.tuple #[.pointer none, .int .i64 2]) ∧ Below w.heap.size w w' := by
  obtain ⟨gb0, go0, rfl, hgb0, hrow⟩ := hrows.row (by omega)
  obtain ⟨a0, c0, hc0, -⟩ := hrow 0 (by omega)
  rw [Nat.add_zero] at hc0
  generalize hd : (gs.getD 0 []).length = d at *
  have hq1 : decide ((gs.length : Int) < 1) = false := by simp; omega
  have hq2 : decide (4 < (gs.length : Int)) = false := by simp; omega
  clear hrow hrows
  go_enter Try.func15, Try.ntmps15
  by_cases h1 : d < 1
  · have hq3 : decide ((d : Int) < 1) = true := by simp; omega
    go_wp2_with fail
    exact bodyPost_ret (v := .tuple #[.pointer none, .int .i64 2]) (by simp [results, Try.results15, go_sem]) rfl ⟨rfl, (Below.refl _ _).alloc (Nat.le_refl _) _⟩
  · have hq3 : decide ((d : Int) < 1) = false := by simp; omega
    have hq4 : decide (5 < (d : Int)) = true := by simp; omega
    go_wp2_with fail
    exact bodyPost_ret (v := .tuple #[.pointer none, .int .i64 2]) (by simp [results, Try.results15, go_sem]) rfl ⟨rfl, (Below.refl _ _).alloc (Nat.le_refl _) _⟩
end Go.Proofs.Ytnejjgolmikplaa
