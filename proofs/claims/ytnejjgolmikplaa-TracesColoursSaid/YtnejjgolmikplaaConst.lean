/- The walk of (*group).constants. -/
import Derived.Test.YtnejjgolmikplaaImage
import Derived.Test.YtnejjgolmikplaaKerSpec
import Derived.Test.YtnejjgolmikplaaRepeat
import Derived.Lib.QuietBelow
namespace Go.Proofs.Ytnejjgolmikplaa
open Go.RowKit Go.Proofs Go.Sort

/-- What holds of each group's classes. -/
structure ClsOK (els : List Nat) : Prop where
  cl : ∀ i, i < els.length → 0 ≤ (clsOf els).1.getD i 0 ∧ (clsOf els).1.getD i 0 < ((clsOf els).2.length : Int)
  mem : ∀ j, j < (clsOf els).2.length → ∀ i, i < ((clsOf els).2.getD j []).length → ((clsOf els).2.getD j []).getD i 0 < els.length
  ne : ∀ j, j < (clsOf els).2.length → 0 < ((clsOf els).2.getD j []).length ∧ ((clsOf els).2.getD j []).length ≤ 24
  few : (clsOf els).2.length ≤ 24
  pos : 0 < (clsOf els).2.length

/-- One product counted. -/
def bump (els : List Nat) (cl : List Int) (cls : List (List Nat)) (a : Nat) (row : List Nat) (b : Nat) : List Nat :=
  if tm els a b = (cls.getD (cl.getD (tm els a b) 0).toNat []).getD 0 0 then row.set (cl.getD (tm els a b) 0).toNat (row.getD (cl.getD (tm els a b) 0).toNat 0 + 1) else row

def bumpB (els : List Nat) (cl : List Int) (cls : List (List Nat)) (D : List Nat) (row : List Nat) (a : Nat) : List Nat := D.foldl (bump els cl cls a) row
def constRow (els : List Nat) (cl : List Int) (cls : List (List Nat)) (C D : List Nat) : List Nat := C.foldl (bumpB els cl cls D) (List.replicate cls.length 0)
def constF (els : List Nat) (c : Nat) : List (List Nat) := (clsOf els).2.map fun D => constRow els (clsOf els).1 (clsOf els).2 ((clsOf els).2.getD c []) D

theorem bump_length (els : List Nat) (cl : List Int) (cls : List (List Nat)) (a : Nat) (row : List Nat) (b : Nat) : (bump els cl cls a row b).length = row.length := by unfold bump; split <;> simp
theorem bump_le (els : List Nat) (cl : List Int) (cls : List (List Nat)) (a : Nat) (row : List Nat) (b M : Nat) (h : ∀ k, row.getD k 0 ≤ M) : ∀ k, (bump els cl cls a row b).getD k 0 ≤ M + 1 := by
  intro k
  unfold bump
  generalize (cl.getD (tm els a b) 0).toNat = t
  have h1 := h t
  have h2 := h k
  split
  · rw [List.getD_eq_getElem?_getD, List.getElem?_set]
    split
    · split
      · exact Nat.succ_le_succ h1
      · exact Nat.zero_le _
    · rw [List.getD_eq_getElem?_getD] at h2; omega
  · omega

/-- The rows that are done, and the block of their slices. -/
structure ConstAt (w0 wr : World) (T TS ob n d : Nat) (vals : List Value) (done : List (List Nat)) : Prop where
  hb : Below w0.heap.size w0 wr
  len : vals.length = d
  blk : wr.heap[ob]? = some (.cells (vals ++ List.replicate (n - d) (Value.slice none 0 0)).toArray TS (0, 0))
  rows : RowsOwn wr w0.heap.size vals done (fun k => k = ob)

theorem ConstAt.below {w0 wr w' : World} {T TS ob n d : Nat} {vals : List Value} {done : List (List Nat)} (h : ConstAt w0 wr T TS ob n d vals done) (hb : Below wr.heap.size wr w') : ConstAt w0 w' T TS ob n d vals done :=
  ⟨h.hb.trans (hb.mono h.hb.size), h.len, (hb.block ob (Array.getElem?_eq_some_iff.1 h.blk).1).trans h.blk, h.rows.keep hb.size (fun k _ hk _ => hb.block k hk) (fun _ _ e => e)⟩

theorem madeCells_one (v : Value) (n : Nat) : madeCells #[v] n = (List.replicate n v).toArray := by
  apply Array.ext
  · simp [madeCells]
  · intro i h1 h2
    simp [madeCells, Nat.mod_one]

theorem bump_fold_le (els : List Nat) (cl : List Int) (cls : List (List Nat)) (a : Nat) : ∀ (D : List Nat) (row : List Nat) (M : Nat), (∀ k, row.getD k 0 ≤ M) → ∀ k, (D.foldl (bump els cl cls a) row).getD k 0 ≤ M + D.length
  | [], row, M, h, k => by simpa using h k
  | b :: D, row, M, h, k => by
    have := bump_fold_le els cl cls a D (bump els cl cls a row b) (M + 1) (bump_le els cl cls a row b M h) k
    simp only [List.foldl_cons, List.length_cons]
    omega
theorem bumpB_length (els : List Nat) (cl : List Int) (cls : List (List Nat)) (a : Nat) : ∀ (D row : List Nat), (D.foldl (bump els cl cls a) row).length = row.length
  | [], row => rfl
  | b :: D, row => by
    have := bumpB_length els cl cls a D (bump els cl cls a row b)
    simp only [List.foldl_cons]
    rw [this, bump_length]
theorem constRow_length (els : List Nat) (cl : List Int) (cls : List (List Nat)) (D : List Nat) : ∀ (C row : List Nat), (C.foldl (bumpB els cl cls D) row).length = row.length
  | [], row => rfl
  | a :: C, row => by
    have := constRow_length els cl cls D C (bumpB els cl cls D row a)
    simp only [List.foldl_cons]
    rw [this]
    exact bumpB_length els cl cls a D row

/-- The row on its way: only its block turns. -/
structure RowWay (w5 wx : World) (rd T n : Nat) (row : List Nat) : Prop where
  kb : KeepBut rd w5.heap.size w5 wx
  blk : wx.heap[rd]? = some (.cells (iv (ints row)).toArray T (0, 0))
  len : row.length = n

set_option maxHeartbeats 4000000 in
set_option maxRecDepth 100000 in
theorem constants_g {gb d q : Nat} {els : List Nat} (G : GOK els) (K : ClsOK els) (c : Nat) (w : World) (h : GrpAt w gb d els q) (hc : c < (clsOf els).2.length) :
    Calls Try.prog 34 #[.pointer (some ⟨gb, 0, none⟩), .int .i64 c] w fun e w' =>
      ∃ a cc, e = .returned (.slice a (clsOf els).2.length cc) ∧ RowsIn w' a ((constF els c).map ints) ∧ Below w.heap.size w w' := by
  have hmk1 := fun W => run_make_row' (P := Try.prog) 22 30 (.slice none 0 0) 24 Try.underlying22 (by kernel_rfl) rfl .i64 .i64 (clsOf els).2.length (by have := K.few; omega) (by have := K.few; omega) W
  have hmk2 := fun W => run_make_row' (P := Try.prog) 30 3 (.int .i64 0) 8 Try.underlying30 (by kernel_rfl) rfl .i64 .i64 (clsOf els).2.length (by have := K.few; omega) (by have := K.few; omega) W
  obtain ⟨⟨eb, mb, cap, hA⟩, hdeg, ⟨ca, cc, h3, hcls⟩, ⟨kb, hkl, h4, hkc⟩, -, -, hgl⟩ := h
  obtain ⟨cb, co, rfl, hcb, hcr⟩ := hcls.row (by rw [List.length_map]; exact K.pos)
  have HA := Lib.hid hA
  have HCR := Lib.hid hcr
  have HKC := Lib.hid hkc
  have HKL := Lib.hid hkl
  have HG := Lib.hid G
  have hfew := K.few
  have hpos := K.pos
  have hKcl := K.cl
  have hKmem := K.mem
  have hKne := K.ne
  have hlen24 := G.len
  have hF : constF els c = (clsOf els).2.map fun D => constRow els (clsOf els).1 (clsOf els).2 ((clsOf els).2.getD c []) D := rfl
  generalize (clsOf els).1 = cl at *
  generalize (clsOf els).2 = cls at *
  generalize hn : cls.length = n at *
  have HN := Lib.hid hn
  have HF := Lib.hid hF
  have HKCL := Lib.hid hKcl
  have HKMEM := Lib.hid hKmem
  have HKNE := Lib.hid hKne
  clear hn hF hA hdeg hcls hkc hcr K G hKcl hKmem hKne
  go_enter Try.func34, Try.ntmps34
  go_wp2_with fail
  have hst : ConstAt w (w.alloc (.cells (madeCells #[.slice none 0 0] n) 30)) 3 30 w.heap.size n 0 [] [] := by
    refine ⟨(Below.refl _ _).alloc (Nat.le_refl _) _, rfl, ?_, rfl, fun j hj => absurd hj (by simp)⟩
    have := heap_alloc_new w (.cells (madeCells #[.slice none 0 0] n) 30)
    rw [madeCells_one] at this
    rw [madeCells_one]
    simpa using this
  have HST := Lib.hid hst
  clear hst
  go_loopg [20] n (fun m iv0 wr => ∃ (d : Nat) (vals : List Value), d + m = n ∧ iv0 = .int .i64 d ∧ ConstAt w wr 3 30 w.heap.size n d vals ((constF els c).take d))
  case atStart => exact ⟨0, [], by omega, rfl, HST.out⟩
  case round =>
    obtain ⟨d, vals, hdm, rfl, hat⟩ := hrel
    have hbr := hat.hb
    have hsr := hbr.size
    have hg3 := below_cell hbr hgl h3
    have hg4 := below_cell hbr hgl h4
    cases gm : gk with
    | zero =>
      subst gm
      obtain rfl : d = n := by omega
      have HAT := Lib.hid hat
      clear hat
      go_wp2_with fail
      refine bodyPost_ret (v := .slice (some ⟨w.heap.size, 0, none⟩) d d) (by simp [results, Try.results34, go_sem]) rfl ⟨some ⟨w.heap.size, 0, none⟩, d, rfl, ?_, hbr⟩
      have hfl : (constF els c).length = d := by rw [HF.out, List.length_map]; exact HN.out
      have hrows := HAT.out.rows
      rw [List.take_of_length_le (by omega)] at hrows
      intro _
      refine ⟨w.heap.size, 0, rfl, (Array.getElem?_eq_some_iff.1 HAT.out.blk).1, fun j hj => ?_⟩
      have hj' : j < (constF els c).length := by simpa using hj
      obtain ⟨ra, rcap, hv, hr⟩ := hrows.2 j hj'
      have hvl := HAT.out.len
      refine ⟨.slice ra ((constF els c).getD j []).length rcap, ?_, ra, rcap, by rw [rows_getD, ints_length], fun hp => ?_⟩
      · rw [Nat.zero_add, cell_of_row _ _ j _ _ _ HAT.out.blk]
        rw [← hv]
        simp [List.getElem?_append_left (show j < vals.length by omega), List.getD_eq_getElem?_getD, List.getElem?_eq_getElem (show j < vals.length by omega)]
      · rw [rows_getD] at hp ⊢
        rw [ints_length] at hp
        obtain ⟨rb, rfl, h1, h2, h3, h4⟩ := hr hp
        exact ⟨rb, 0, rfl, h2, fun i hi => by rw [ints_length] at hi; rw [Nat.zero_add, h4 i hi, ints_getD]⟩
    | succ m =>
      subst gm
      have hdn : d < n := by omega
      have hdn2 : (0 : Int) ≤ (d : Int) ∧ (d : Int) < (n : Int) := by omega
      have HAT := Lib.hid hat
      clear hat
      have hobd : wr.cell? ⟨w.heap.size, d, none⟩ = some (.slice none 0 0) := by
        rw [cell_of_row wr _ d _ _ _ HAT.out.blk]
        have := HAT.out.len
        simp [List.getElem?_append_right, this, List.getElem?_replicate]; omega
      have hobf : wr.frozen? ⟨w.heap.size, d, none⟩ = false := frozen_of_row wr _ d _ _ HAT.out.blk
      have hobl : w.heap.size < wr.heap.size := (Array.getElem?_eq_some_iff.1 HAT.out.blk).1
      obtain ⟨ra, rcap, hrc, hrci⟩ := HCR.out c (by rw [List.length_map, HN.out]; exact hc)
      rw [rows_getD] at hrc hrci
      rw [ints_length] at hrc
      obtain ⟨da, dcap, hdc, hdci⟩ := HCR.out d (by rw [List.length_map, HN.out]; exact hdn)
      rw [rows_getD] at hdc hdci
      rw [ints_length] at hdc
      have hb5 : Below w.heap.size w ((wr.setCell ⟨w.heap.size, d, none⟩ (.slice (some ⟨wr.heap.size, 0, none⟩) n n)).alloc (.cells (madeCells #[.int .i64 0] n) 3)) :=
        (hbr.setCell (by exact Nat.le_refl _) _).alloc (by simp [World.setCell]; omega) _
      have hr5 : ((wr.setCell ⟨w.heap.size, d, none⟩ (.slice (some ⟨wr.heap.size, 0, none⟩) n n)).alloc (.cells (madeCells #[.int .i64 0] n) 3)).heap[wr.heap.size]? = some (.cells (iv (ints (List.replicate n 0))).toArray 3 (0, 0)) := by
        have := heap_alloc_new (wr.setCell ⟨w.heap.size, d, none⟩ (.slice (some ⟨wr.heap.size, 0, none⟩) n n)) (.cells (madeCells #[.int .i64 0] n) 3)
        rw [show (wr.setCell ⟨w.heap.size, d, none⟩ (.slice (some ⟨wr.heap.size, 0, none⟩) n n)).heap.size = wr.heap.size from by simp [World.setCell]] at this
        rw [this, madeCells_one]
        simp [iv, ints]
      have ho5 : ((wr.setCell ⟨w.heap.size, d, none⟩ (.slice (some ⟨wr.heap.size, 0, none⟩) n n)).alloc (.cells (madeCells #[.int .i64 0] n) 3)).heap[w.heap.size]? = some (.cells (vals ++ [Value.slice (some ⟨wr.heap.size, 0, none⟩) n n] ++ List.replicate (n - (d + 1)) (Value.slice none 0 0)).toArray 30 (0, 0)) := by
        rw [Below.heap_alloc _ _ _ (by simp [World.setCell]; exact hobl), World.setCell, Array.getElem?_modify]
        simp only [if_true, HAT.out.blk, Option.map_some]
        have hvl := HAT.out.len
        have e : (vals ++ List.replicate (n - d) (Value.slice none 0 0)).set d (Value.slice (some ⟨wr.heap.size, 0, none⟩) n n) = vals ++ [Value.slice (some ⟨wr.heap.size, 0, none⟩) n n] ++ List.replicate (n - (d + 1)) (Value.slice none 0 0) := by
          rw [List.set_append_right _ _ (by omega), hvl, Nat.sub_self, show n - d = (n - (d + 1)) + 1 from by omega, List.replicate_succ, List.set_cons_zero, List.append_assoc]
          rfl
        rw [← e]
        simp
      have hk5 : ∀ k, k < wr.heap.size → k ≠ w.heap.size → ((wr.setCell ⟨w.heap.size, d, none⟩ (.slice (some ⟨wr.heap.size, 0, none⟩) n n)).alloc (.cells (madeCells #[.int .i64 0] n) 3)).heap[k]? = wr.heap[k]? := fun k hk hne => by
        rw [Below.heap_alloc _ _ _ (by simp [World.setCell]; exact hk), Below.heap_setCell _ _ _ _ (by show k ≠ w.heap.size; exact hne)]
      have hs5 : ((wr.setCell ⟨w.heap.size, d, none⟩ (.slice (some ⟨wr.heap.size, 0, none⟩) n n)).alloc (.cells (madeCells #[.int .i64 0] n) 3)).heap.size = wr.heap.size + 1 := by simp [World.setCell]
      have hdec : decide (d < n) = true := decide_eq_true hdn
      go_upto_region 6 with fail
      generalize (wr.setCell ⟨w.heap.size, d, none⟩ (.slice (some ⟨wr.heap.size, 0, none⟩) n n)).alloc (.cells (madeCells #[.int .i64 0] n) 3) = w5 at *
      have hrc5 := below_cell (p := ⟨cb, co + c, none⟩) hb5 hcb hrc
      have hg35 := below_cell hb5 hgl h3
      have hcc : (0 : Int) ≤ (c : Int) ∧ (c : Int) < (n : Int) := by omega
      have HB5 := Lib.hid hb5
      have HR5 := Lib.hid hr5
      have HO5 := Lib.hid ho5
      have HK5 := Lib.hid hk5
      have HS5 := Lib.hid hs5
      have HRCI := Lib.hid hrci
      have HDCI := Lib.hid hdci
      have HDC := Lib.hid hdc
      have HKNc := Lib.hid (HKNE.out c hc)
      have HKNd := Lib.hid (HKNE.out d hdn)
      have HMC := Lib.hid (HKMEM.out c hc)
      have HMD := Lib.hid (HKMEM.out d hdn)
      obtain ⟨hC1, hC2⟩ := HKNc.out
      obtain ⟨hD1, hD2⟩ := HKNd.out
      clear hb5 hr5 ho5 hk5 hs5 hrci hdci hdc hrc hg3 hg4 hobd hobf
      generalize hCl : cls.getD c [] = C at *
      generalize hDl : cls.getD d [] = D at *
      have HCL := Lib.hid hCl
      have HDL := Lib.hid hDl
      clear hCl hDl
      go_wp2_with fail
      clear hrc5 hg35
      obtain ⟨wo, hwo⟩ : ∃ wo : World, wo = wr := ⟨_, rfl⟩
      subst hwo
      go_loopg [40] C.length (fun l iv0 wx => ∃ (i : Nat) (row : List Nat), i + l = C.length ∧ iv0 = .int .i64 i ∧ RowWay w5 wx wo.heap.size 3 n row ∧ Hid (∀ k, row.getD k 0 ≤ i * 24) ∧ Hid ((C.drop i).foldl (bumpB els cl cls D) row = constRow els cl cls C D))
      case atStart => exact ⟨0, List.replicate n 0, by omega, rfl, ⟨KeepBut.refl (Nat.le_refl _), HR5.out, by simp⟩, Lib.hid (fun k => by simp [List.getD_eq_getElem?_getD, List.getElem?_replicate]; split <;> simp), Lib.hid (by rw [List.drop_zero]; unfold constRow; rw [HN.out])⟩
      case round =>
        obtain ⟨i, row, hil, rfl, hway, HLE, HI⟩ := hrel
        have hW : ∀ p v, p.block < w.heap.size → w.cell? p = some v → wr.cell? p = some v := fun p v hp hv => hway.kb.cell (by have := HB5.out.size; omega) (by omega) (below_cell HB5.out hp hv)
        have HW := Lib.hid hW
        clear hW
        cases gl : gk with
        | zero =>
          subst gl
          obtain rfl : i = C.length := by omega
          have hi := HI.out
          rw [List.drop_length] at hi
          simp only [List.foldl_nil] at hi
          have HI2 := Lib.hid hi
          clear hi HI
          go_wp2_with fail
          go_roundg m
          case rel =>
            have hdone : (constF els c).take (d + 1) = (constF els c).take d ++ [row] := by
              have hdl : d < (constF els c).length := by rw [HF.out, List.length_map, HN.out]; exact hdn
              rw [List.take_add_one, List.getElem?_eq_getElem hdl]
              congr 1
              have e : (constF els c)[d] = constRow els cl cls C D := by
                simp only [HF.out, List.getElem_map]
                congr 1
                rw [← HDL.out, List.getD_eq_getElem?_getD, List.getElem?_eq_getElem (by rw [HN.out]; exact hdn)]
                rfl
              rw [e, HI2.out]; rfl
            refine ⟨d + 1, vals ++ [.slice (some ⟨wo.heap.size, 0, none⟩) n n], by omega, by go_num, ?_⟩
            have hs5 := HS5.out
            have hkb := hway.kb
            refine ⟨⟨hkb.os.trans HB5.out.os, hkb.tape.trans HB5.out.tape, hkb.output.trans HB5.out.output, Nat.le_trans HB5.out.size hkb.size, fun k hk => (hkb.block k (by have := HB5.out.size; omega) (by omega)).trans (HB5.out.block k hk)⟩, by rw [List.length_append, HAT.out.len]; rfl, ?_, ?_⟩
            · rw [hkb.block w.heap.size (by omega) (by omega)]; exact HO5.out
            · rw [hdone]
              have hro := HAT.out.rows.keep (w' := wr) (bad' := fun k => k = w.heap.size) (by have := hkb.size; omega) (fun k _ hk hb => (hkb.block k (by omega) (by omega)).trans (HK5.out k hk hb)) (fun _ _ e => e)
              have hsn := RowsOwn.snoc hro (some ⟨wo.heap.size, 0, none⟩) n row (fun hp => ⟨wo.heap.size, rfl, by omega, (Array.getElem?_eq_some_iff.1 hway.blk).1, (by intro e; omega), fun t ht => by
                rw [cell_iv hway.blk t (by rw [ints_length]; exact ht), ints_getD]⟩)
              rw [hway.len] at hsn
              exact hsn
          case measure => omega
        | succ l =>
          subst gl
          have hiC : i < C.length := by omega
          have haM := HMC.out i hiC
          obtain ⟨qb, qo, rfl, hqb, hqc⟩ := HRCI.out (by rw [ints_length]; exact hC1)
          have hqi := HW.out ⟨qb, qo + i, none⟩ _ hqb (hqc i (by rw [ints_length]; exact hiC))
          rw [ints_getD] at hqi
          have hg3x := HW.out ⟨gb, 3, none⟩ _ hgl h3
          have hdx := HW.out ⟨cb, co + d, none⟩ _ hcb HDC.out
          have hi := HI.out
          rw [drop_cons C i hiC] at hi
          simp only [List.foldl_cons] at hi
          have edf : C.getD i default = C.getD i 0 := rfl
          rw [edf] at hi
          have HI2 := Lib.hid hi
          clear hi HI hqc edf
          generalize C.getD i 0 = a at *
          obtain ⟨wq, hwq⟩ : ∃ wq : World, wq = wr := ⟨_, rfl⟩
          have hii : (0 : Int) ≤ (i : Int) ∧ (i : Int) < (C.length : Int) := by omega
          go_wp2_with fail
          clear hqi hg3x hdx
          have HWAY := Lib.hid hway
          clear hway hwq HW
          go_loopg [52] D.length (fun t iv0 wx => ∃ (j : Nat) (row' : List Nat), j + t = D.length ∧ iv0 = .int .i64 j ∧ RowWay w5 wx wo.heap.size 3 n row' ∧ Hid (∀ k, row'.getD k 0 ≤ i * 24 + j) ∧ Hid ((D.drop j).foldl (bump els cl cls a) row' = bumpB els cl cls D row a))
          case atStart => exact ⟨0, row, by omega, rfl, HWAY.out, Lib.hid (fun k => by have := HLE.out k; omega), Lib.hid (by rw [List.drop_zero]; rfl)⟩
          case round =>
            obtain ⟨j, row', hjt, rfl, hway, HLE2, HI⟩ := hrel
            have hs5 := HS5.out
            have hW : ∀ p v, p.block < w.heap.size → w.cell? p = some v → wr.cell? p = some v := fun p v hp hv => hway.kb.cell (by have := HB5.out.size; omega) (by omega) (below_cell HB5.out hp hv)
            cases gt : gk with
            | zero =>
              subst gt
              obtain rfl : j = D.length := by omega
              have hi := HI.out
              rw [List.drop_length] at hi
              simp only [List.foldl_nil] at hi
              have HI3 := Lib.hid hi
              have HWAY3 := Lib.hid hway
              clear hi HI hW hway
              go_wp2_with fail
              go_roundg l
              case rel => exact ⟨i + 1, row', by omega, by go_num, HWAY3.out, Lib.hid (fun k => by have := HLE2.out k; omega), by rw [HI3.out]; exact HI2⟩
              case measure => omega
            | succ t =>
              subst gt
              have hjD : j < D.length := by omega
              have hbM := HMD.out j hjD
              obtain ⟨pb, po, rfl, hpb, hpc⟩ := HDCI.out (by rw [ints_length]; exact hD1)
              have hpj := hW ⟨pb, po + j, none⟩ _ hpb (hpc j (by rw [ints_length]; exact hjD))
              rw [ints_getD] at hpj
              have hg4x := hW ⟨gb, 4, none⟩ _ hgl h4
              have hg3x := hW ⟨gb, 3, none⟩ _ hgl h3
              have hi := HI.out
              rw [drop_cons D j hjD] at hi
              simp only [List.foldl_cons] at hi
              have edf : D.getD j default = D.getD j 0 := rfl
              rw [edf] at hi
              generalize D.getD j 0 = b at *
              have hT := tm_lt HG.out haM hbM
              have hkT := hW ⟨kb, tm els a b, none⟩ _ HKL.out (HKC.out _ hT)
              obtain ⟨hk0, hk1⟩ := HKCL.out _ hT
              have hA5 := HA.out.below (HB5.out.mono (Nat.le_refl _))
              have hAx := hway.kb.gat hA5 (by have := HB5.out.size; omega) (by have := HB5.out.size; have := HA.out.he; omega) (by have := HB5.out.size; have := HA.out.hm; omega) (by omega) (by have := HA.out.he; omega) (by have := HA.out.hm; omega)
              generalize hTe : tm els a b = T at *
              generalize hke : cl.getD T 0 = kI at *
              obtain ⟨kk, rfl⟩ : ∃ kk : Nat, kI = kk := ⟨kI.toNat, by omega⟩
              have hkn : kk < n := by omega
              obtain ⟨sa, sc, hsc, hsci⟩ := HCR.out kk (by rw [List.length_map, HN.out]; exact hkn)
              rw [rows_getD, ints_length] at hsc
              rw [rows_getD] at hsci
              have hskx := hW ⟨cb, co + kk, none⟩ _ hcb hsc
              obtain ⟨hS1, hS2⟩ := HKNE.out kk hkn
              obtain ⟨sb, so, rfl, hsb, hsc2⟩ := hsci (by rw [ints_length]; exact hS1)
              have hs0 := hW ⟨sb, so + 0, none⟩ _ hsb (hsc2 0 (by rw [ints_length]; exact hS1))
              rw [ints_getD, Nat.add_zero] at hs0
              have hbump : bump els cl cls a row' b = if T = (cls.getD kk []).getD 0 0 then row'.set kk (row'.getD kk 0 + 1) else row' := by
                unfold bump
                rw [hTe, hke, Int.toNat_natCast]
              generalize (cls.getD kk []).getD 0 0 = fst at *
              generalize (cls.getD kk []).length = sl at *
              have ct := fun d os => Calls.regrown_of (times_g HG.out a b _ (hAx.below (below_regrown wr d os)) haM hbM)
              rw [hTe] at ct
              have k1 := cell_regrown hg4x
              have k2 := cell_regrown hkT
              have hjj : (0 : Int) ≤ (j : Int) ∧ (j : Int) < (D.length : Int) := by omega
              have hTT : (0 : Int) ≤ (T : Int) ∧ (T : Int) < (els.length : Int) := by omega
              have HI3 := Lib.hid hi
              have HBU := Lib.hid hbump
              have HCT := Lib.hid ct
              have HAX := Lib.hid hAx
              have HWAY3 := Lib.hid hway
              have HTE := Lib.hid hTe
              have hg3y := cell_regrown hg3x
              have hsky := cell_regrown hskx
              have hs0y := cell_regrown hs0
              have HG3 := Lib.hid hg3x
              have HSK := Lib.hid hskx
              have HS0 := Lib.hid hs0
              clear hi HI hpc hA5 hAx hke hsc2 hbump ct hway hTe hW hg4x hkT hg3x hskx hs0 hg3y hsky hs0y edf
              go_wp2_with fail
              refine wp_region_quiet_below (by kernel_rfl) (by kernel_rfl) ?_
              repeat (quiet_step (exact HCT.out _ _))
              refine wpQuiet_nil ?_
              intro _ hw'
              obtain ⟨⟨dq, osq⟩, hw''⟩ := hw'
              subst hw''
              have hb6 := below_regrown wr dq osq
              generalize grow (redrawn wr dq) osq = w6 at *
              have hway6 : RowWay w5 w6 wo.heap.size 3 n row' := ⟨HWAY3.out.kb.trans (KeepBut.below (by have := HWAY3.out.kb.size; omega) hb6), (hb6.block _ (Array.getElem?_eq_some_iff.1 HWAY3.out.blk).1).trans HWAY3.out.blk, HWAY3.out.len⟩
              have hg36 := below_cell hb6 (by have := HWAY3.out.kb.size; have := HB5.out.size; show gb < _; omega) HG3.out
              have hsk6 := below_cell (p := ⟨cb, co + kk, none⟩) hb6 (by have := HWAY3.out.kb.size; have := HB5.out.size; show cb < _; omega) HSK.out
              have hs06 := below_cell (p := ⟨sb, so, none⟩) hb6 (by have := HWAY3.out.kb.size; have := HB5.out.size; show sb < _; omega) HS0.out
              have ct6 := fun d os => Calls.regrown_of (times_g HG.out a b _ ((HAX.out.below hb6).below (below_regrown w6 d os)) haM hbM)
              rw [HTE.out] at ct6
              have HCT6 := Lib.hid ct6
              have HWAY6 := Lib.hid hway6
              have q1 := cell_regrown hg36
              have q2 := cell_regrown hsk6
              have q3 := cell_regrown hs06
              have hkk : (0 : Int) ≤ (kk : Int) ∧ (kk : Int) < (n : Int) := by omega
              have hsl0 : (0 : Int) < (sl : Int) := by omega
              clear HCT k1 k2 ct6 hway6 hg36 hsk6 hs06
              go_wp2_with fail
              refine wp_region_quiet_below (by kernel_rfl) (by kernel_rfl) ?_
              repeat (quiet_step (exact HCT6.out _ _))
              refine wpQuiet_nil ?_
              intro _ hw'
              obtain ⟨⟨dq, osq⟩, hw''⟩ := hw'
              subst hw''
              have hb7 := below_regrown w6 dq osq
              generalize grow (redrawn w6 dq) osq = w7 at *
              have hsz7 := hb7.size
              have hsz6 := hb6.size
              have hkb3 := HWAY3.out.kb.size
              have hB5s := HB5.out.size
              have hway7 : RowWay w5 w7 wo.heap.size 3 n row' := ⟨HWAY6.out.kb.trans (KeepBut.below (by omega) hb7), (hb7.block _ (Array.getElem?_eq_some_iff.1 HWAY6.out.blk).1).trans HWAY6.out.blk, HWAY6.out.len⟩
              have hwl : ∀ x, x < n → w7.cell? ⟨wo.heap.size, x, none⟩ = some (.int .i64 (row'.getD x 0 : Nat)) := fun x hx => by
                rw [cell_iv hway7.blk x (by rw [ints_length, hway7.len]; exact hx), ints_getD]
              clear q1 q2 q3 HCT6
              by_cases hT0 : T = fst
              · have hd : ((T : Int) == (fst : Int)) = true := by rw [beq_iff_eq]; omega
                have hbu := HBU.out
                rw [if_pos hT0] at hbu
                have hob7 : w7.cell? ⟨w.heap.size, d, none⟩ = some (.slice (some ⟨wo.heap.size, 0, none⟩) n n) := by
                  have e1 := hway7.kb.block w.heap.size (by omega) (by omega)
                  have e2 : w7.heap[w.heap.size]? = some (.cells (vals ++ [Value.slice (some ⟨wo.heap.size, 0, none⟩) n n] ++ List.replicate (n - (d + 1)) (Value.slice none 0 0)).toArray 30 (0, 0)) := e1.trans HO5.out
                  rw [cell_of_row _ _ d _ _ _ e2]
                  have hvl := HAT.out.len
                  simp [List.getElem?_append_left (show d < (vals ++ [Value.slice (some ⟨wo.heap.size, 0, none⟩) n n]).length by simp; omega), List.getElem?_append_right (show vals.length ≤ d by omega), hvl]
                have hrk := hwl kk hkn
                have hfr := frz_iv hway7.blk kk
                have hle := HLE2.out kk
                have hset := set_iv hway7.blk kk (((row'.getD kk 0 : Nat) : Int) + 1)
                have e3 : (ints row').set kk (((row'.getD kk 0 : Nat) : Int) + 1) = ints (row'.set kk (row'.getD kk 0 + 1)) := by simp [ints, List.map_set]
                rw [e3] at hset
                have HSET := Lib.hid hset
                have HWAY7 := Lib.hid hway7
                have HBU2 := Lib.hid hbu
                have HT0 := Lib.hid hT0
                generalize hxx : row'.getD kk 0 = xx at *
                have HXX := Lib.hid hxx
                clear hset hway7 hbu hT0 hwl e3 hxx
                go_wp2_with fail
                go_roundg t
                case rel =>
                  refine ⟨j + 1, row'.set kk (xx + 1), by omega, by go_num, ⟨HWAY7.out.kb.trans (KeepBut.set (by omega) kk _), HSET.out, by rw [List.length_set]; exact HWAY7.out.len⟩, Lib.hid (fun k => ?_), Lib.hid ?_⟩
                  · have h1 := HLE2.out k
                    rw [show (row'.set kk (xx + 1)).getD k 0 = (row'.set kk (xx + 1)).getD k default from rfl, getD_set_list]
                    split
                    · omega
                    · have e : row'.getD k default = row'.getD k 0 := rfl
                      rw [e]; omega
                  · rw [← HI3.out, HBU2.out]
                case measure => omega
              · have hd : ((T : Int) == (fst : Int)) = false := by rw [beq_eq_false_iff_ne]; omega
                have hbu := HBU.out
                rw [if_neg hT0] at hbu
                have HBU2 := Lib.hid hbu
                have HT0 := Lib.hid hT0
                have HWAY7 := Lib.hid hway7
                clear hbu hT0 hway7 hwl
                go_wp2_with fail
                go_roundg t
                case rel => exact ⟨j + 1, row', by omega, by go_num, HWAY7.out, Lib.hid (fun k => by have := HLE2.out k; omega), Lib.hid (by rw [← HI3.out, HBU2.out])⟩
                case measure => omega

end Go.Proofs.Ytnejjgolmikplaa
