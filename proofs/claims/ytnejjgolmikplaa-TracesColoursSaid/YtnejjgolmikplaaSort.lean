/- The walk of (*group).sort: the classes, the class of each element, the classes of the inverses. -/
import Derived.Test.YtnejjgolmikplaaSortSpec
import Derived.Sort.OwnSortedInts
import Derived.Deep.Onto
namespace Go.Proofs.Ytnejjgolmikplaa
open Go.RowKit Go.Proofs

/-- The rows of a slice of slices that the call itself made: each in a block of its own. -/
def RowsOwn (w : World) (B : Nat) (vals : List Value) (rows : List (List Nat)) (bad : Nat → Prop) : Prop :=
  vals.length = rows.length ∧ ∀ j, j < rows.length → ∃ ra cap, vals[j]? = some (.slice ra (rows.getD j []).length cap) ∧ (0 < (rows.getD j []).length → ∃ rb, ra = some ⟨rb, 0, none⟩ ∧ B ≤ rb ∧ rb < w.heap.size ∧ ¬ bad rb ∧
    ∀ i, i < (rows.getD j []).length → w.cell? ⟨rb, i, none⟩ = some (.int .i64 ((rows.getD j []).getD i 0 : Nat)))

theorem RowsOwn.keep {w w' : World} {B : Nat} {vals : List Value} {rows : List (List Nat)} {bad bad' : Nat → Prop} (h : RowsOwn w B vals rows bad) (hs : w.heap.size ≤ w'.heap.size)
    (hblk : ∀ k, B ≤ k → k < w.heap.size → ¬ bad k → w'.heap[k]? = w.heap[k]?) (hbad : ∀ rb, rb < w.heap.size → bad' rb → bad rb) : RowsOwn w' B vals rows bad' :=
  ⟨h.1, fun j hj => by
    obtain ⟨ra, cap, h1, h2⟩ := h.2 j hj
    refine ⟨ra, cap, h1, fun hp => ?_⟩
    obtain ⟨rb, h3, h4, h5, h6, h7⟩ := h2 hp
    exact ⟨rb, h3, h4, Nat.lt_of_lt_of_le h5 hs, fun e => h6 (hbad _ h5 e), fun i hi => (World.cell?_of_block (a := ⟨rb, i, none⟩) (hblk rb h4 h5 h6)).trans (h7 i hi)⟩⟩

theorem RowsOwn.base {w : World} {B B' : Nat} {vals : List Value} {rows : List (List Nat)} {bad : Nat → Prop} (h : RowsOwn w B vals rows bad) (hB : B' ≤ B) : RowsOwn w B' vals rows bad :=
  ⟨h.1, fun j hj => by
    obtain ⟨ra, cap, h1, h2⟩ := h.2 j hj
    refine ⟨ra, cap, h1, fun hp => ?_⟩
    obtain ⟨rb, h3, h4, h5⟩ := h2 hp
    exact ⟨rb, h3, Nat.le_trans hB h4, h5⟩⟩

theorem RowsOwn.snoc {w : World} {B : Nat} {vals : List Value} {rows : List (List Nat)} {bad : Nat → Prop} (h : RowsOwn w B vals rows bad) (ra : Option Addr) (cap : Nat) (l : List Nat)
    (hl : 0 < l.length → ∃ rb, ra = some ⟨rb, 0, none⟩ ∧ B ≤ rb ∧ rb < w.heap.size ∧ ¬ bad rb ∧ ∀ i, i < l.length → w.cell? ⟨rb, i, none⟩ = some (.int .i64 (l.getD i 0 : Nat))) :
    RowsOwn w B (vals ++ [.slice ra l.length cap]) (rows ++ [l]) bad := by
  refine ⟨by simp [h.1], fun j hj => ?_⟩
  by_cases hjl : j < rows.length
  · have e : (rows ++ [l]).getD j [] = rows.getD j [] := by simp [List.getD_eq_getElem?_getD, List.getElem?_append_left hjl]
    rw [e]
    obtain ⟨ra', cap', h1, h2⟩ := h.2 j hjl
    exact ⟨ra', cap', by rw [List.getElem?_append_left (by rw [h.1]; exact hjl)]; exact h1, h2⟩
  · have hj' : j = rows.length := by simp at hj; omega
    subst hj'
    have e : (rows ++ [l]).getD rows.length [] = l := by simp [List.getD_eq_getElem?_getD]
    rw [e]
    exact ⟨ra, cap, by rw [← h.1]; simp, hl⟩

theorem GStep.later {gb : Nat} {S : Nat → Prop} {w wo W : World} (h : GStep gb S w wo) (h1 : W.os = wo.os) (h2 : W.tape = wo.tape) (h3 : W.output = wo.output) (h4 : wo.heap.size ≤ W.heap.size)
    (hb : ∀ k, k < w.heap.size → W.heap[k]? = wo.heap[k]?) : GStep gb S w W :=
  ⟨⟨h1.trans h.grown.os, h2.trans h.grown.tape, h3.trans h.grown.output, Nat.le_trans h.grown.size h4, fun k hk hne => (hb k hk).trans (h.grown.block k hk hne)⟩, h.lt,
    fun i hi => (World.cell?_of_block (a := ⟨gb, i, none⟩) (hb gb h.lt)).trans (h.keep i hi), fun i => (World.frozen?_of_block (a := ⟨gb, i, none⟩) (hb gb h.lt)).trans (h.frz i)⟩

/-- slices.Sort on a slice of the call's own. -/
theorem sort_own (w : World) (H T : Nat) (la : Option Addr) (lc : Nat) (l : List Nat) (hown : w.ownsRow H T 1 (.slice la l.length lc) l.length (iv (ints l))) (hl : l.length ≤ 1000) :
    Calls Try.prog 23 #[.slice la l.length lc] w fun e w' => e = .returned (.tuple #[]) ∧ w'.ownsRow H T 1 (.slice la l.length lc) l.length (iv (ints (sortN l))) ∧ w.grownBy w' (Value.slice la l.length lc).ownBlock := by
  rcases hown.2 with ⟨h1, h2⟩ | ⟨g, cap, cur, hv, hg, hh, hn, hcap, hcs, ht⟩
  · have h0 : l = [] := List.eq_nil_of_length_eq_zero h2
    subst h0
    simp only [List.length_nil] at h1 ⊢
    refine (Try.slices_Sort_int_none la lc w).mono ?_
    rintro e w' ⟨rfl, rfl⟩
    refine ⟨rfl, ?_, ⟨rfl, rfl, rfl, Nat.le_refl _, fun _ _ _ => rfl⟩⟩
    have : sortN [] = [] := by simp [sortN]
    rw [this]; exact hown
  · cases hv
    have hlen : (ints l).length = l.length := ints_length l
    have hH := holds_of_blockI (ss := ints l) hh (by rw [hlen, ← Nat.mul_one l.length]; exact ht)
    have hs := Try.slices_Sort_int g 0 lc (ints l) w hH (Array.getElem?_eq_some_iff.1 hh).1 (by rw [hlen]; omega)
    rw [hlen, ints_sortN] at hs
    refine hs.mono ?_
    rintro e w' ⟨rfl, n, os, rfl⟩
    refine ⟨rfl, ?_, grownBy_sortedI _⟩
    have := ownsRow_sortedI (n := n) (os := os) (ss := ints l) (ts := ints (sortN l)) (by rw [ints_length, ints_length, sortN_length]) hg hh (by rw [hlen]; exact hn) hcap hcs
    rw [hlen] at this
    exact this

/-- The inner loop's relation. -/
def InnerRel (W : World) (T kb H : Nat) (els : List Nat) (a k : Nat) (fin : List Int × List Nat) (m : Nat) (iv0 lv : Value) (wr : World) : Prop :=
  ∃ (c : Nat) (cl : List Int) (l : List Nat), c + m = els.length ∧ iv0 = .int .i64 c ∧ innerF els a k m c cl l = fin ∧ cl.length = els.length ∧ l.length ≤ c ∧ (∀ x ∈ l, x < els.length) ∧
    wr.heap[kb]? = some (.cells (iv cl).toArray T (0, 0)) ∧ wr.ownsRow H T 1 lv l.length (iv (ints l)) ∧ KeepBut kb H W wr

theorem ownsRow_below {w w' : World} {base : Nat} {e : TypeId} {size : Nat} {v : Value} {n : Nat} {xs : List Value} (h : w.ownsRow base e size v n xs) (hb : Below w.heap.size w w') : w'.ownsRow base e size v n xs :=
  h.kept (row := none) ⟨hb.os, hb.tape, hb.output, hb.size, fun k hk _ => hb.block k hk⟩ (by cases hv : v.ownBlock <;> simp)

/-- What sort leaves in g. -/
def SortedAt (w : World) (B T TS gb : Nat) (els : List Nat) : Prop :=
  ∃ (kb : Nat) (ca ba : Option Addr) (cc bc : Nat) (vals : List Value), B ≤ kb ∧ w.cell? ⟨gb, 4, none⟩ = some (.slice (some ⟨kb, 0, none⟩) els.length els.length) ∧ w.heap[kb]? = some (.cells (iv (clsOf els).1).toArray T (0, 0)) ∧ (clsOf els).1.length = els.length ∧
    w.cell? ⟨gb, 3, none⟩ = some (.slice ca (clsOf els).2.length cc) ∧ w.ownsRow B TS 1 (.slice ca (clsOf els).2.length cc) (clsOf els).2.length vals ∧ RowsOwn w B vals (clsOf els).2 (fun _ => False) ∧
    w.cell? ⟨gb, 5, none⟩ = some (.slice ba (clsOf els).2.length bc) ∧ w.ownsRow B T 1 (.slice ba (clsOf els).2.length bc) (clsOf els).2.length (iv (backOf els (clsOf els).1 (clsOf els).2)) ∧ (clsOf els).2.length ≤ els.length

theorem grownBy_refl (w : World) (row : Option Nat) : w.grownBy w row := ⟨rfl, rfl, rfl, Nat.le_refl _, fun _ _ _ => rfl⟩
theorem grownBy_trans {a b c : World} {row : Option Nat} (h : a.grownBy b row) (k : b.grownBy c row) : a.grownBy c row :=
  ⟨k.os.trans h.os, k.tape.trans h.tape, k.output.trans h.output, Nat.le_trans h.size k.size, fun i hi hn => (k.block i (Nat.lt_of_lt_of_le hi h.size) hn).trans (h.block i hi hn)⟩
theorem grownBy_below {w w' : World} (row : Option Nat) (hb : Below w.heap.size w w') : w.grownBy w' row := ⟨hb.os, hb.tape, hb.output, hb.size, fun k hk _ => hb.block k hk⟩
theorem grownBy_cell {w w' : World} {row : Option Nat} (h : w.grownBy w' row) {p : Addr} {v : Value} (hc : w.cell? p = some v) (hn : row ≠ some p.block) : w'.cell? p = some v :=
  (h.cell_far p (lt_of_cell hc) (fun e => hn e.symm)).trans hc

/-- The last loop's relation. -/
def BackRel (wo : World) (T gb : Nat) (all : List Int) (m : Nat) (iv0 : Value) (wr : World) : Prop :=
  ∃ (j : Nat) (ba : Option Addr) (bc : Nat), j + m = all.length ∧ iv0 = .int .i64 j ∧ wr.cell? ⟨gb, 5, none⟩ = some (.slice ba j bc) ∧ wr.ownsRow wo.heap.size T 1 (.slice ba j bc) j (iv (all.take j)) ∧ GStep gb (fun i => i = 5) wo wr

theorem back_step {wo wr w9 : World} {T gb m j bc g9 cap9 l0 : Nat} {ba : Option Addr} {els : List Nat} {cl : List Int} {cs : List (List Nat)} {cv : Int} (hbl : (backOf els cl cs).length = cs.length) (hjl : j < cs.length) (hjm : j + (m + 1) = cs.length)
    (hgst : GStep gb (fun i => i = 5) wo wr) (hgr9 : wr.grownBy w9 (Value.slice ba j bc).ownBlock) (hgb' : gb < wo.heap.size) (hgbr : gb < wr.heap.size)
    (hown9 : w9.ownsRow wo.heap.size T 1 (.slice (some ⟨g9, 0, none⟩) (j + 1) cap9) (j + 1) (iv ((backOf els cl cs).take j) ++ [.int .i64 cv])) (hc59 : w9.cell? ⟨gb, 5, none⟩ = some (.slice ba j bc))
    (hcv : cl.getD (inv els l0) 0 = cv) (hl0 : (cs.getD j []).getD 0 0 = l0) (hownl : ∀ k, (Value.slice ba j bc).ownBlock = some k → wo.heap.size ≤ k) :
    BackRel wo T gb (backOf els cl cs) m (.int .i64 ((j : Int) + 1)) (w9.setCell ⟨gb, 5, none⟩ (.slice (some ⟨g9, 0, none⟩) (j + 1) cap9)) := by
  refine ⟨j + 1, some ⟨g9, 0, none⟩, cap9, by rw [hbl]; omega, by go_num, cell_setCell_same hc59 _, ?_, ?_⟩
  · have hsn : (backOf els cl cs).take (j + 1) = (backOf els cl cs).take j ++ [cv] := by
      rw [List.take_add_one]
      congr 1
      simp only [backOf, List.getElem?_map]
      rw [List.getElem?_eq_getElem hjl]
      simp only [Option.map_some, Option.toList_some]
      rw [← hcv, ← hl0]
      simp [List.getD_eq_getElem?_getD, List.getElem?_eq_getElem hjl]
    rw [hsn, show iv ((backOf els cl cs).take j ++ [cv]) = iv ((backOf els cl cs).take j) ++ [.int .i64 cv] from by simp [iv]]
    exact ownsRow_setCell_below hown9 hgb' _
  · have h9 : GStep gb (fun i => i = 5) wo w9 := by
      have hne : ∀ k, k < wo.heap.size → w9.heap[k]? = wr.heap[k]? := fun k hk => hgr9.block k (Nat.lt_of_lt_of_le hk hgst.grown.size) (fun e => by have := hownl k e.symm; omega)
      exact GStep.later hgst hgr9.os hgr9.tape hgr9.output hgr9.size hne
    exact h9.trans (GStep.set (S := fun i => i = 5) (Nat.lt_of_lt_of_le hgbr hgr9.size) 5 rfl _)

theorem GStep.mono {gb : Nat} {S S' : Nat → Prop} {w w' : World} (h : GStep gb S w w') (hs : ∀ i, S i → S' i) : GStep gb S' w w' :=
  ⟨h.grown, h.lt, fun i hi => h.keep i (fun e => hi (hs i e)), h.frz⟩

/-- The outer loop's relation. -/
def OuterRel (w : World) (T TS gb kb : Nat) (els : List Nat) (fin : List Int × List (List Nat)) (m : Nat) (iv0 : Value) (wr : World) : Prop :=
  ∃ (a : Nat) (cl : List Int) (cs : List (List Nat)) (ca : Option Addr) (cc : Nat) (vals : List Value), a + m = els.length ∧ iv0 = .int .i64 a ∧ outerF els m a cl cs = fin ∧ cl.length = els.length ∧ cs.length ≤ a ∧
    wr.heap[kb]? = some (.cells (iv cl).toArray T (0, 0)) ∧ wr.cell? ⟨gb, 3, none⟩ = some (.slice ca cs.length cc) ∧ wr.cell? ⟨gb, 4, none⟩ = some (.slice (some ⟨kb, 0, none⟩) els.length els.length) ∧
    wr.ownsRow (kb + 1) TS 1 (.slice ca cs.length cc) cs.length vals ∧ RowsOwn wr (kb + 1) vals cs (fun rb => rb = kb ∨ (Value.slice ca cs.length cc).ownBlock = some rb) ∧ GStep gb (fun i => i = 3 ∨ i = 4) w wr

set_option maxHeartbeats 4000000 in
set_option maxRecDepth 100000 in
theorem sort_g {gb eb mb cap : Nat} {els : List Nat} (G : GOK els) (w : World) (h : GAt w gb eb mb cap els) (heg : eb ≠ gb) (hmg : mb ≠ gb)
    (h3 : w.cell? ⟨gb, 3, none⟩ = some (.slice none 0 0)) (h4 : ∃ v, w.cell? ⟨gb, 4, none⟩ = some v) (h5 : w.cell? ⟨gb, 5, none⟩ = some (.slice none 0 0))
    (hf3 : w.frozen? ⟨gb, 3, none⟩ = false) (hf4 : w.frozen? ⟨gb, 4, none⟩ = false) (hf5 : w.frozen? ⟨gb, 5, none⟩ = false)
    (hne : ∀ j, j < (clsOf els).2.length → 0 < ((clsOf els).2.getD j []).length ∧ ((clsOf els).2.getD j []).getD 0 0 < els.length) :
    Calls Try.prog 30 #[.pointer (some ⟨gb, 0, none⟩)] w fun e w' => e = .returned (.tuple #[]) ∧ GStep gb (fun i => i = 3 ∨ i = 4 ∨ i = 5) w w' ∧ SortedAt w' w.heap.size 3 30 gb els := by
  have hn := G.len
  have hn0 := G.pos
  have h1 := h.at_.he
  have hgb := h.hg
  obtain ⟨v4, h4⟩ := h4
  have HG := Lib.hid G
  have HA := Lib.hid h
  have H3 := Lib.hid h3
  have H5 := Lib.hid h5
  have HF3 := Lib.hid hf3
  have HF4 := Lib.hid hf4
  have HF5 := Lib.hid hf5
  have HNE := Lib.hid hne
  clear hne
  obtain ⟨i3, hi3⟩ := info_parts (by kernel_rfl : (Try.prog.info? 3).map (fun i => (i.zero, i.size, i.bytes)) = some (some (.int .i64 0), 1, 8))
  have HI3 := Lib.hid hi3
  obtain ⟨i30, hi30⟩ := info_parts (by kernel_rfl : (Try.prog.info? 30).map (fun i => (i.zero, i.size, i.bytes)) = some (some (.slice none 0 0), 1, 24))
  have HI30 := Lib.hid hi30
  clear hi3 hi30
  clear G h h3 h5 hf3 hf5
  go_enter Try.func30, Try.ntmps30
  go_wp2_with fail
  have hb0 : Below w.heap.size w (w.alloc (.cells #[.int .i64 (-1)] 3)) := (Below.refl _ _).alloc (Nat.le_refl _) _
  refine (repeat_one w.heap.size 0 1 els.length (-1) (w.alloc (.cells #[.int .i64 (-1)] 3)) (by go_simp) hn0 (by omega)).mono ?_
  rintro e w1 ⟨rfl, hk1, hb1⟩
  have hb1' : Below w.heap.size w w1 := hb0.trans (hb1.mono (by simp))
  have h4w := below_cell hb1' hgb h4
  have hf4w : w1.frozen? ⟨gb, 4, none⟩ = false := (hb1'.frozen (p := ⟨gb, 4, none⟩) hgb).trans HF4.out
  have h1w := below_cell hb1' hgb h1
  have hkb : (w.alloc (.cells #[.int .i64 (-1)] 3)).heap.size = w.heap.size + 1 := by simp
  rw [hkb] at hk1
  simp only [hkb]
  have hsz1 : w.heap.size + 1 < w1.heap.size := (Array.getElem?_eq_some_iff.1 hk1).1
  have HK1 := Lib.hid hk1
  have HB1 := Lib.hid hb1'
  clear hk1 hb1 hb1' hb0 hf4 h4 h1 hkb
  go_wp2_with fail
  go_loopg [23] els.length (fun k iv wr => OuterRel w 3 30 gb (w.heap.size + 1) els (clsOf els) k iv wr)
  case atStart =>
    have hg0 : GStep gb (fun i => i = 3 ∨ i = 4) w (w1.setCell ⟨gb, 4, none⟩ (.slice (some ⟨w.heap.size + 1, 0, none⟩) els.length els.length)) :=
      (GStep.below hgb HB1.out).trans (GStep.set (Nat.lt_of_lt_of_le hgb HB1.out.size) 4 (Or.inr rfl) _)
    refine ⟨0, List.replicate els.length (-1), [], none, 0, [], by omega, rfl, rfl, by simp, by simp, ?_, ?_, ?_, ?_, ⟨rfl, fun j hj => absurd hj (by simp)⟩, hg0⟩
    · rw [Below.heap_setCell _ _ _ _ (by show w.heap.size + 1 ≠ gb; omega), HK1.out]; simp [iv]
    · rw [cell_setCell_off _ _ _ _ _ (by omega)]; exact below_cell HB1.out hgb H3.out
    · exact cell_setCell_same h4w _
    · exact World.ownsRow_nil _ _ _ _
  case round =>
    obtain ⟨a, cl, cs, ca, cc, vals, ham, rfl, hfin, hcl, hcs, hk, hg3, hg4, hown, hrows, hgs⟩ := hrel
    clear h4w hf4w h1w
    have hgb' : gb < wr.heap.size := Nat.lt_of_lt_of_le hgb hgs.grown.size
    have HH := Lib.hid (hgs.gat HA.out (by simp) (by simp) heg hmg)
    have h1r := HH.out.at_.he
    cases gk with
    | zero =>
      simp only [outerF] at hfin
      have hfc : cl = (clsOf els).1 := congrArg Prod.fst hfin
      have hfs : cs = (clsOf els).2 := congrArg Prod.snd hfin
      subst hfc hfs
      clear hfin h1r
      generalize hcl2 : (clsOf els).2 = cs at *
      generalize hcl1 : (clsOf els).1 = cl at *
      have hcl24 : cs.length ≤ 24 := by omega
      have hbl : (backOf els cl cs).length = cs.length := by simp [backOf]
      have HK := Lib.hid hk
      have HCL := Lib.hid hcl
      have HG3 := Lib.hid hg3
      have HG4 := Lib.hid hg4
      have HC1 := Lib.hid hcl1
      have HC2 := Lib.hid hcl2
      clear hk hcl hg4 hcl1 hcl2
      have hdl : decide (a < els.length) = false := by simp; omega
      have hdl2 : ¬ a < els.length := by omega
      go_wp2_with fail
      clear hg3
      obtain ⟨wo, hwo⟩ : ∃ wo : World, wo = wr := ⟨_, rfl⟩
      subst hwo
      have hkbw : w.heap.size + 1 < wo.heap.size := (Array.getElem?_eq_some_iff.1 HK.out).1
      have HBL := Lib.hid hbl
      clear hbl
      have h5o := (hgs.keep 5 (by simp)).trans H5.out
      go_loopg [93] cs.length (fun k iv wr => BackRel wo 3 gb (backOf els cl cs) k iv wr)
      case atStart => exact ⟨0, none, 0, by rw [HBL.out]; omega, rfl, h5o, World.ownsRow_nil _ _ _ _, GStep.refl hgb'⟩
      case round =>
        obtain ⟨j, ba, bc, hjm, rfl, hb5, hownb, hgst⟩ := hrel
        rw [HBL.out] at hjm
        clear h5o
        have hkbl := HK.out
        have hnk : ∀ k, k < wo.heap.size → k ≠ gb → wr.heap[k]? = wo.heap[k]? := fun k hk hne => hgst.grown.block k hk (fun e => hne (by injection e))
        have hHr := Lib.hid (hgst.gat HH.out (by simp) (by simp) heg hmg)
        have hgbr : gb < wr.heap.size := Nat.lt_of_lt_of_le hgb' hgst.grown.size
        have hszr := hgst.grown.size
        cases gk with
        | zero =>
          obtain rfl : j = cs.length := by omega
          have hall : (backOf els cl cs).take cs.length = backOf els cl cs := List.take_of_length_le (by rw [HBL.out]; exact Nat.le_refl _)
          rw [hall] at hownb
          have HOB := Lib.hid hownb
          clear hownb hall
          go_wp2_with fail
          go_end0
          have hgend : GStep gb (fun i => i = 3 ∨ i = 4 ∨ i = 5) w wr := (hgs.mono (fun i hi => by omega)).trans (hgst.mono (fun i hi => by omega))
          refine ⟨rfl, hgend, ?_⟩
          have hc1 := HC1.out
          have hc2 := HC2.out
          unfold SortedAt
          rw [hc1, hc2]
          refine ⟨w.heap.size + 1, ca, ba, cc, bc, vals, by omega, (hgst.keep 4 (by simp)).trans HG4.out, (hnk _ hkbw (by omega)).trans HK.out, HCL.out, (hgst.keep 3 (by simp)).trans HG3.out, ?_, ?_, hb5, HOB.out.mono (by have := hgs.grown.size; omega), by omega⟩
          · refine (hown.kept (row := some gb) ⟨hgst.grown.os, hgst.grown.tape, hgst.grown.output, hgst.grown.size, hgst.grown.block⟩ (Or.inr (fun e => by have := (hown.lt _ e).1; omega))).mono (by omega)
          · refine (RowsOwn.keep hrows hgst.grown.size ?_ (fun _ _ h => h.elim)).base (by omega)
            intro k hk1 hk2 _
            exact hnk k hk2 (by omega)
        | succ m =>
          have hjl : j < cs.length := by omega
          have hnej := HNE.out
          obtain ⟨hnp, hnl⟩ := hnej j hjl
          obtain ⟨ra, rcap, hrv, hrc⟩ := hrows.2 j hjl
          obtain ⟨rb, rfl, hrb1, hrb2, hrb3, hrbc⟩ := hrc hnp
          obtain ⟨cg, ccap, hcav, hcgb, hcgl⟩ := hown.form (by omega)
          obtain ⟨rfl, rfl⟩ : ca = some ⟨cg, 0, none⟩ ∧ cc = ccap := by simpa using hcav
          have hcgc : wo.cell? ⟨cg, j, none⟩ = vals[j]? := hown.cellAt j (by omega)
          rw [hrv] at hcgc
          have hrb0 := hrbc 0 hnp
          clear hcav hrbc hrv
          generalize hl0 : (cs.getD j []).getD 0 0 = l0 at *
          have HL0 := Lib.hid hl0
          clear hl0
          generalize (cs.getD j []).length = ln at *
          have hil := inv_lt HG.out l0
          have hcg' : wr.cell? ⟨cg, j, none⟩ = some (.slice (some ⟨rb, 0, none⟩) ln rcap) := (World.cell?_of_block (a := ⟨cg, j, none⟩) (hnk cg hcgl (by omega))).trans hcgc
          have hr0' : wr.cell? ⟨rb, 0, none⟩ = some (.int .i64 (l0 : Nat)) := (World.cell?_of_block (a := ⟨rb, 0, none⟩) (hnk rb hrb2 (by omega))).trans hrb0
          have hk' : wr.cell? ⟨w.heap.size + 1, inv els l0, none⟩ = some (.int .i64 (cl.getD (inv els l0) 0)) := (World.cell?_of_block (a := ⟨w.heap.size + 1, inv els l0, none⟩) (hnk (w.heap.size + 1) hkbw (by omega))).trans (cell_iv HK.out _ (by rw [HCL.out]; exact hil))
          have hg4' : wr.cell? ⟨gb, 4, none⟩ = some (.slice (some ⟨w.heap.size + 1, 0, none⟩) els.length els.length) := (hgst.keep 4 (by simp)).trans HG4.out
          have hf5' : wr.frozen? ⟨gb, 5, none⟩ = false := (hgst.frz 5).trans ((hgs.frz 5).trans HF5.out)
          have hownl : ∀ k, (Value.slice ba j bc).ownBlock = some k → wo.heap.size ≤ k := fun k hk => (hownb.lt k hk).1
          have hS : ∀ w', wr.grownBy w' (Value.slice ba j bc).ownBlock → (w'.cell? ⟨gb, 5, none⟩ = some (.slice ba j bc) ∧ w'.frozen? ⟨gb, 5, none⟩ = false ∧ w'.cell? ⟨gb, 4, none⟩ = some (.slice (some ⟨w.heap.size + 1, 0, none⟩) els.length els.length) ∧ w'.cell? ⟨rb, 0, none⟩ = some (.int .i64 (l0 : Nat)) ∧ w'.cell? ⟨w.heap.size + 1, inv els l0, none⟩ = some (.int .i64 (cl.getD (inv els l0) 0))) := by
            intro w' hw'
            have hne : ∀ b, b < wo.heap.size → (Value.slice ba j bc).ownBlock ≠ some b := fun b hb e => by have := hownl b e; omega
            exact ⟨grownBy_cell hw' hb5 (hne gb hgb'), (hw'.frozen_far ⟨gb, 5, none⟩ hgbr (fun e => hne gb hgb' e.symm)).trans hf5', grownBy_cell hw' hg4' (hne gb hgb'), grownBy_cell hw' hr0' (hne rb hrb2), grownBy_cell hw' hk' (hne _ hkbw)⟩
          have HS := Lib.hid hS
          have HOWNB := Lib.hid hownb
          have hii : (0 : Int) ≤ (inv els l0 : Int) ∧ (inv els l0 : Int) < (els.length : Int) := by omega
          have hln : (0 : Int) < (ln : Int) := by omega
          clear hS hownb hk' hr0' hg4' hf5' hb5
          generalize hcv : cl.getD (inv els l0) 0 = cv at *
          have HCV := Lib.hid hcv
          clear hcv
          go_wp2_with fail
          obtain ⟨hc5, hfr5, hc4, hcr, hck⟩ := HS.out wr (grownBy_refl _ _)
          go_region_law ((first
            | (go_simp; go_at_call 51; refine (inverse_g HG.out l0 _ (hHr.out.below ((Below.refl _ _).drew)) hnl).mono ?_; rintro e w5 ⟨rfl, hw5⟩; have hgr5 : wr.grownBy w5 (Value.slice ba j bc).ownBlock := grownBy_below _ (((Below.refl _ _).drew).trans hw5); have hown5 : w5.ownsRow wo.heap.size 3 1 (.slice ba j bc) j (iv ((backOf els cl cs).take j)) := ownsRow_below HOWNB.out (((Below.refl _ _).drew).trans hw5); have hsz5 : wr.heap.size ≤ w5.heap.size := hw5.size; obtain ⟨hc55, hfr55, hc45, hcr5, hck5⟩ := HS.out w5 hgr5; have hgb5 : gb < w5.heap.size := by omega)
            | (refine step_append_lies _ (by rfl) (.tmp 101) (.tmp 113) 30 (by rfl) wo.heap.size 3 i3 (.int .i64 0) 1 8 Try.underlying30 HI3.out.1 HI3.out.2.1 HI3.out.2.2.1 HI3.out.2.2.2 rfl (by omega) (.slice ba j bc) j (iv ((backOf els cl cs).take j)) (by simp [Act.eval, Act.put]) (hown5.alloc _) ⟨w5.heap.size, 0, none⟩ 1 1 [.int .i64 cv] (by simp [Act.eval, Act.put]) (by rfl) (World.news_of_block (cs := #[.int .i64 cv]) (t := 3) (fr := (0, 0)) (heap_alloc_new w5 _)) (by simp [Value.oneCell']) (by omega) (by unfold maxLen; omega) (by omega) (by simp; omega) (w5.heap.size + 1) (by simp) ?_; intro g9 cap9 w9 hown9 hgrow9 hat9 hlt9; have hgr9 : wr.grownBy w9 (Value.slice ba j bc).ownBlock := grownBy_trans hgr5 (grownBy_trans (grownBy_below _ ((Below.refl _ _).alloc (Nat.le_refl _) _)) hgrow9); obtain ⟨hc59, hfr59, _, _, _⟩ := HS.out w9 hgr9)))
          all_goals
            go_wp2
            go_roundg m
            case rel => exact back_step HBL.out hjl hjm hgst hgr9 hgb' hgbr hown9 hc59 HCV.out HL0.out hownl
            case measure => omega
    | succ m =>
      have hlt : a < els.length := by omega
      have hka := cell_iv hk a (by omega)
      simp only [outerF] at hfin
      by_cases hneg : cl.getD a 0 < 0
      · rw [if_pos hneg] at hfin
        generalize hinn : innerF els a cs.length els.length 0 cl [] = fin0 at *
        have HFIN := Lib.hid hfin
        have HINN := Lib.hid hinn
        have HK := Lib.hid hk
        have HCL := Lib.hid hcl
        have HG3 := Lib.hid hg3
        have HG4 := Lib.hid hg4
        clear hfin hinn hk hcl hg3
        generalize hx : cl.getD a 0 = x at *
        clear hx
        go_wp2_with fail
        clear hg4 hka h1r
        obtain ⟨wo, hwo⟩ : ∃ wo : World, wo = wr := ⟨_, rfl⟩
        subst hwo
        have hkbw : w.heap.size + 1 < wo.heap.size := (Array.getElem?_eq_some_iff.1 HK.out).1
        have hgbk : gb ≠ w.heap.size + 1 := by omega
        have hebk : eb ≠ w.heap.size + 1 := by have := HA.out.he; omega
        have hmbk : mb ≠ w.heap.size + 1 := by have := HA.out.hm; omega
        have hebo := HH.out.he
        have hmbo := HH.out.hm
        go_loopg [3, 39] els.length (fun m lv iv wr => InnerRel wo 3 (w.heap.size + 1) wo.heap.size els a cs.length fin0 m iv lv wr)
        case atStart => exact ⟨0, cl, [], by omega, rfl, HINN.out, HCL.out, by simp, by simp, HK.out, World.ownsRow_nil _ _ _ _, KeepBut.refl (Nat.le_refl _)⟩
        case round =>
          obtain ⟨c, cl', l, hcm, rfl, hfi, hcl', hll, hlx, hk', hown', hkp⟩ := hrel
          have HHI := Lib.hid (hkp.gat HH.out hgb' hebo hmbo hgbk hebk hmbk)
          have h1i := HHI.out.at_.he
          cases gk with
          | zero =>
            simp only [innerF] at hfi
            obtain rfl : c = els.length := by omega
            have HFI := Lib.hid hfi
            have HK' := Lib.hid hk'
            have HCL' := Lib.hid hcl'
            clear hfi hk' hcl'
            obtain ⟨la, lc, rfl, hlsome, hlnil⟩ := ownsRow_slice hown'
            go_wp2_with fail
            refine (sort_own wr wo.heap.size 3 la lc l hown' (by omega)).mono ?_
            rintro e w7 ⟨rfl, hown7, hgr7⟩
            have hkp7 : KeepBut (w.heap.size + 1) wo.heap.size wo w7 := hkp.trans (KeepBut.grown hkp.size hgr7 (fun k hk => Or.inl (hown'.lt k hk).1))
            have hk7 : w7.heap[w.heap.size + 1]? = some (.cells (iv cl').toArray 3 (0, 0)) :=
              (hgr7.block _ (Nat.lt_of_lt_of_le hkbw hkp.size) (fun e => by have := (hown'.lt _ e.symm).1; omega)).trans HK'.out
            have hg37 := hkp7.cell (p := ⟨gb, 3, none⟩) hgb' hgbk HG3.out
            have hg47 := hkp7.cell (p := ⟨gb, 4, none⟩) hgb' hgbk HG4.out
            have hcs7 : w7.ownsRow (w.heap.size + 1 + 1) 30 1 (.slice ca cs.length cc) cs.length vals := hown.kept (row := some (w.heap.size + 1)) ⟨hkp7.os, hkp7.tape, hkp7.output, hkp7.size, fun k hk hne => hkp7.block k hk (fun e => hne (by rw [e]))⟩ (Or.inr (fun e => by have := (hown.lt _ e).1; omega))
            have hf37 : w7.frozen? ⟨gb, 3, none⟩ = false := (World.frozen?_of_block (hkp7.block gb hgb' hgbk)).trans ((hgs.frz 3).trans HF3.out)
            have hgb7 : gb < w7.heap.size := Nat.lt_of_lt_of_le hgb' hkp7.size
            have hsz7 := hkp7.size
            have HK7 := Lib.hid hk7
            have HG47 := Lib.hid hg47
            have HOWN7 := Lib.hid hown7
            have HCS7 := Lib.hid hcs7
            have HF37 := Lib.hid hf37
            have HG37 := Lib.hid hg37
            clear hk7 hg47 hown7 hcs7 hf37 h1i
            go_wp2_with (at_builtin; (refine wpList_append_lies _ rfl (.tmp 81) (.tmp 83) 22 rfl (w.heap.size + 1 + 1) 30 i30 (.slice none 0 0) 1 24 Try.underlying22 HI30.out.1 HI30.out.2.1 HI30.out.2.2.1 HI30.out.2.2.2 rfl (by omega) (.slice ca cs.length cc) cs.length vals rfl (HCS7.out.alloc _) ⟨w7.heap.size, 0, none⟩ 1 1 [.slice la l.length lc] rfl rfl (World.news_of_block (heap_alloc_new w7 _)) (by simp [Value.oneCell']) (by omega) (by unfold maxLen; omega) (by omega) (by simp; omega) (w7.heap.size + 1) (by simp) ?_); intro g8 cap8 w8 hown8 hgrow8 hat8 hlt8; have hg38 : w8.cell? ⟨gb, 3, none⟩ = some (.slice ca cs.length cc) := (hgrow8.cell_far ⟨gb, 3, none⟩ (by simp; omega) (fun e => by have := (HCS7.out.lt _ e.symm).1; simp at this; omega)).trans ((World.cell?_alloc_past _ _ _ hgb7).trans HG37.out); have hf38 : w8.frozen? ⟨gb, 3, none⟩ = false := (hgrow8.frozen_far ⟨gb, 3, none⟩ (by simp; omega) (fun e => by have := (HCS7.out.lt _ e.symm).1; simp at this; omega)).trans ((World.frozen?_alloc_past _ _ _ hgb7).trans HF37.out))
            have hblk8 : ∀ k, k < w7.heap.size → (Value.slice ca cs.length cc).ownBlock ≠ some k → w8.heap[k]? = w7.heap[k]? := fun k hk hne => (hgrow8.block k (by simp; omega) (fun e => hne e.symm)).trans (Below.heap_alloc _ _ _ hk)
            have hsz8 : w7.heap.size ≤ w8.heap.size := by have := hgrow8.size; simp at this; omega
            have hcsl : ∀ k, (Value.slice ca cs.length cc).ownBlock = some k → w.heap.size + 1 + 1 ≤ k ∧ k < wo.heap.size := hown.lt
            go_roundg m
            case rel =>
              refine ⟨a + 1, cl', cs ++ [sortN l], some ⟨g8, 0, none⟩, cap8, vals ++ [.slice la (sortN l).length lc], by omega, by go_num, ?_, HCL'.out, by simp; omega, ?_, ?_, ?_, ?_, ?_, ?_⟩
              · have := HFIN.out
                rw [← HFI.out] at this
                exact this
              · rw [Below.heap_setCell _ _ _ _ (by show w.heap.size + 1 ≠ gb; omega), hblk8 _ (by omega) (fun e => by have := (hcsl _ e).1; omega)]
                exact HK7.out
              · rw [show (cs ++ [sortN l]).length = cs.length + 1 from by simp]; exact cell_setCell_same hg38 _
              · rw [cell_setCell_off _ _ _ _ _ (by omega)]
                exact (World.cell?_of_block (a := ⟨gb, 4, none⟩) (hblk8 gb hgb7 (fun e => by have := (hcsl _ e).1; omega))).trans HG47.out
              · rw [show (cs ++ [sortN l]).length = cs.length + 1 from by simp, sortN_length]
                exact ownsRow_setCell_below hown8 (by show gb < _; omega) _
              · refine RowsOwn.snoc (RowsOwn.keep hrows (by simp [World.setCell]; omega) ?_ ?_) _ _ _ ?_
                · intro k hBk hk hbad
                  rw [Below.heap_setCell _ _ _ _ (by show k ≠ gb; omega), hblk8 k (by omega) (fun e => hbad (Or.inr e))]
                  exact hkp7.block k hk (fun e => hbad (Or.inl e))
                · intro rb hrb hbad
                  rcases hbad with hbad | hbad
                  · exact Or.inl hbad
                  · have e : g8 = rb := by simpa [Value.ownBlock] using hbad
                    rcases hat8 with h | h
                    · exact Or.inr (by rw [h, e])
                    · omega
                · intro hpos
                  rw [sortN_length] at hpos
                  obtain ⟨lg, rfl⟩ := hlsome hpos
                  have hlg := HOWN7.out.lt lg rfl
                  have hlg7 := hlg.2
                  refine ⟨lg, rfl, by omega, by simp [World.setCell]; omega, ?_, fun i hi => ?_⟩
                  · rintro (h | h)
                    · omega
                    · have e : g8 = lg := by simpa [Value.ownBlock] using h
                      rcases hat8 with h | h
                      · have := (hcsl _ h).2; omega
                      · omega
                  · rw [World.cell?_setCell_far _ _ _ _ (by show gb ≠ lg; omega)]
                    rw [World.cell?_of_block (a := ⟨lg, i, none⟩) (hblk8 lg hlg7 (fun e => by have := (hcsl _ e).2; omega))]
                    rw [sortN_length] at hi
                    rw [HOWN7.out.cellAt i (by omega)]
                    rw [iv_get _ _ (by rw [ints_length, sortN_length]; exact hi), ints_getD]
              · refine (GStep.later hgs (hgrow8.os.trans hkp7.os) (hgrow8.tape.trans hkp7.tape) (hgrow8.output.trans hkp7.output) (by omega) ?_).trans (GStep.set (by omega) 3 (Or.inl rfl) _)
                intro k hk
                rw [hblk8 k (by have := hgs.grown.size; omega) (fun e => by have := (hcsl _ e).1; omega)]
                exact hkp7.block k (by have := hgs.grown.size; omega) (by omega)
            case measure => omega
          | succ m' =>
            have hcn : c < els.length := by omega
            simp only [innerF] at hfi
            have hb1 := tm_lt HG.out hcn hlt
            have hb2 := inv_lt HG.out c
            have hb3 := tm_lt HG.out hb1 hb2
            have hg4i := hkp.cell (p := ⟨gb, 4, none⟩) hgb' hgbk HG4.out
            have hg3i := hkp.cell (p := ⟨gb, 3, none⟩) hgb' hgbk HG3.out
            have hkc := cell_iv hk' _ (by rw [hcl']; exact hb3)
            have hgbi : gb < wr.heap.size := Nat.lt_of_lt_of_le hgb' hkp.size
            have hkbi : w.heap.size + 1 < wr.heap.size := Nat.lt_of_lt_of_le hkbw hkp.size
            have HFI := Lib.hid hfi
            have HK' := Lib.hid hk'
            have HCL' := Lib.hid hcl'
            clear hfi hk' hcl'
            go_wp2_with fail
            refine (times_g HG.out c a _ HHI.out hcn hlt).mono ?_
            rintro e w2 ⟨rfl, hw2⟩
            have HH2 := Lib.hid (HHI.out.below hw2)
            go_wp2_with fail
            refine (inverse_g HG.out c _ HH2.out hcn).mono ?_
            rintro e w3 ⟨rfl, hw3⟩
            have HH3 := Lib.hid (HH2.out.below hw3)
            go_wp2_with fail
            refine (times_g HG.out (tm els c a) (inv els c) _ HH3.out hb1 hb2).mono ?_
            rintro e w4 ⟨rfl, hw4⟩
            have hbel : Below wr.heap.size wr w4 := (hw2.trans (hw3.mono hw2.size)).trans (hw4.mono (Nat.le_trans hw2.size hw3.size))
            have hg4w := below_cell hbel hgbi hg4i
            have hg3w := below_cell hbel hgbi hg3i
            have hkw := below_cell (p := ⟨w.heap.size + 1, _, none⟩) hbel hkbi hkc
            clear hg4i hg3i hkc hw2 hw3 hw4
            generalize hbb : tm els (tm els c a) (inv els c) = b at *
            have hkfr : w4.frozen? ⟨w.heap.size + 1, b, none⟩ = false := (hbel.frozen (p := ⟨w.heap.size + 1, b, none⟩) hkbi).trans (frz_iv HK'.out b)
            have hbi : (0 : Int) ≤ (b : Int) ∧ (b : Int) < (els.length : Int) := by omega
            by_cases hbn : cl'.getD b 0 < 0
            · generalize hy : cl'.getD b 0 = y at *
              have HY := Lib.hid hy
              have HBB := Lib.hid hbb
              clear hy hbb
              go_wp2_with fail
              go_region
              have hs5 := KeepBut.set (kb := w.heap.size + 1) (H := wo.heap.size) (w := w4) (Nat.le_trans hkp.size hbel.size) b (.int .i64 (cs.length : Int))
              have hk5 : ((w4.setCell ⟨w.heap.size + 1, b, none⟩ (.int .i64 (cs.length : Int))).drew).heap[w.heap.size + 1]? = some (.cells (iv (cl'.set b (cs.length : Int))).toArray 3 (0, 0)) :=
                set_iv ((hbel.block _ hkbi).trans HK'.out) b _
              have hkp5 : KeepBut (w.heap.size + 1) wo.heap.size wo ((w4.setCell ⟨w.heap.size + 1, b, none⟩ (.int .i64 (cs.length : Int))).drew) :=
                (hkp.trans (KeepBut.below hkp.size hbel)).trans ⟨hs5.os, hs5.tape, hs5.output, hs5.size, hs5.hH, hs5.block⟩
              have hown5 : ((w4.setCell ⟨w.heap.size + 1, b, none⟩ (.int .i64 (cs.length : Int))).drew).ownsRow wo.heap.size 3 1 u3 l.length (iv (ints l)) :=
                (ownsRow_setCell_below (ownsRow_below hown' hbel) (a := ⟨w.heap.size + 1, b, none⟩) hkbw _).drew
              have HK5 := Lib.hid hk5
              have HKP5 := Lib.hid hkp5
              have HOWN5 := Lib.hid hown5
              clear hs5 hk5 hkp5 hown5 hkfr hkw hg3w hg4w
              have hsz5 : wo.heap.size ≤ ((w4.setCell ⟨w.heap.size + 1, b, none⟩ (.int .i64 (cs.length : Int))).drew).heap.size := HKP5.out.size
              generalize (w4.setCell ⟨w.heap.size + 1, b, none⟩ (.int .i64 (cs.length : Int))).drew = w5 at *
              go_wp2_with (at_builtin; refine wpList_append_lies _ rfl (.tmp 70) (.tmp 72) 30 rfl wo.heap.size 3 i3 (.int .i64 0) 1 8 Try.underlying30 HI3.out.1 HI3.out.2.1 HI3.out.2.2.1 HI3.out.2.2.2 rfl (by omega) u3 l.length (iv (ints l)) rfl (HOWN5.out.alloc _) ⟨w5.heap.size, 0, none⟩ 1 1 [.int .i64 b] rfl rfl (World.news_of_block (heap_alloc_new w5 _)) (by simp [Value.oneCell']) (by omega) (by unfold maxLen; omega) (by omega) (by simp; omega) (w5.heap.size + 1) (by simp) ?_; intro g5 cap5 w6 hown6 hgrow6 hat6 hlt6)
              go_roundg m'
              case rel =>
                refine ⟨c + 1, cl'.set b (cs.length : Int), l ++ [b], by omega, by go_num, ?_, by simp [HCL'.out], by simp; omega, ?_, ?_, ?_, ?_⟩
                · have := HFI.out
                  rw [if_pos hbn] at this
                  exact this
                · intro z hz
                  rcases List.mem_append.1 hz with hz | hz
                  · exact hlx z hz
                  · simp at hz; omega
                · rw [hgrow6.block _ (by simp; omega) (fun e => by have := (HOWN5.out.lt _ e.symm).1; omega)]
                  rw [Below.heap_alloc _ _ _ (by omega)]; exact HK5.out
                · rw [show (l ++ [b]).length = l.length + 1 from by simp, show iv (ints (l ++ [b])) = iv (ints l) ++ [.int .i64 b] from by simp [iv, ints]]
                  exact hown6
                · refine (HKP5.out.trans (KeepBut.below hsz5 ((Below.refl _ _).alloc (Nat.le_refl _) _))).trans (KeepBut.grown (by simp; omega) hgrow6 (fun k hk => Or.inl (HOWN5.out.lt _ hk).1))
              case measure => omega
            · generalize hy : cl'.getD b 0 = y at *
              have HY := Lib.hid hy
              have HBB := Lib.hid hbb
              clear hy hbb
              have hyn : 0 ≤ y := by omega
              go_wp2_with fail
              go_roundg m'
              case rel =>
                refine ⟨c + 1, cl', l, by omega, by go_num, ?_, HCL'.out, by omega, hlx, (hbel.block _ hkbi).trans HK'.out, ?_, hkp.trans (KeepBut.below hkp.size hbel)⟩
                · have := HFI.out
                  rw [if_neg (by omega)] at this
                  exact this
                · exact ownsRow_below hown' hbel
              case measure => omega
      · rw [if_neg hneg] at hfin
        have HFIN := Lib.hid hfin
        have HK := Lib.hid hk
        have HCL := Lib.hid hcl
        have HG3 := Lib.hid hg3
        have HG4 := Lib.hid hg4
        clear hfin hk hcl hg3
        generalize hx : cl.getD a 0 = x at *
        clear hx
        have hge : 0 ≤ x := by omega
        go_wp2_with fail
        go_roundg m
        case rel => exact ⟨a + 1, cl, cs, ca, cc, vals, by omega, by go_num, HFIN.out, HCL.out, by omega, HK.out, HG3.out, HG4.out, hown, hrows, hgs⟩
        case measure => omega
end Go.Proofs.Ytnejjgolmikplaa
