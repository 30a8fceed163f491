/- The walk of (*group).kernel. -/
import Derived.Test.YtnejjgolmikplaaKerSpec
import Derived.BigRegion
namespace Go.Proofs.Ytnejjgolmikplaa
open Go.RowKit Go.Proofs

/-- base and images on the way. -/
structure KerAt (bad : Nat → Prop) (w0 wr : World) (bb ib capb capi m n : Nat) (b im : List (List Nat)) : Prop where
  bel : Below w0.heap.size w0 wr
  ob : ∃ vals, OwnV HVec wr w0.heap.size 51 (fun k => bad k ∨ k = bb ∨ k = ib) (.slice (some ⟨bb, 0, none⟩) m capb) vals b
  oi : ∃ vals, OwnV HVec wr w0.heap.size 51 (fun k => k = bb ∨ k = ib) (.slice (some ⟨ib, 0, none⟩) m capi) vals im
  ne : bb ≠ ib
  lb : b.length = m
  li : im.length = m
  vb : VecsOK n b
  vi : VecsOK n im

theorem OwnV.lower {α : Type} [Inhabited α] {R : Holdr α} {w : World} {B B' : Nat} {T : TypeId} {bad : Nat → Prop} {ov : Value} {vals : List Value} {l : List α} (h : OwnV R w B T bad ov vals l) (hB : B' ≤ B) : OwnV R w B' T bad ov vals l := by
  refine ⟨⟨h.own.1, ?_⟩, h.isBad, h.all⟩
  rcases h.own.2 with h0 | ⟨g, cap, cur, hv, hg, h1⟩
  · exact .inl h0
  · exact .inr ⟨g, cap, cur, hv, Nat.le_trans hB hg, h1⟩

/-- A row of it: its cell, what it holds. -/
theorem OwnV.row {w : World} {B : Nat} {T : TypeId} {bad : Nat → Prop} {g n cap j : Nat} {vals : List Value} {l : List (List Nat)} (h : OwnV HVec w B T bad (.slice (some ⟨g, 0, none⟩) n cap) vals l) (hj : j < l.length) :
    ∃ a c, w.cell? ⟨g, j, none⟩ = some (.slice a (l.getD j default).length c) ∧ vals.getD j default = .slice a (l.getD j default).length c ∧ IntsIn w a (ints (l.getD j default)) := by
  obtain ⟨a, c, h1, h2⟩ := HVec.intsIn (h.all j hj)
  exact ⟨a, c, by rw [h.cell hj, h1], h1, h2⟩

theorem OwnV.cap {α : Type} [Inhabited α] {R : Holdr α} {w : World} {B : Nat} {T : TypeId} {bad : Nat → Prop} {g n cap : Nat} {vals : List Value} {l : List α} (h : OwnV R w B T bad (.slice (some ⟨g, 0, none⟩) n cap) vals l) : n ≤ cap ∧ cap ≤ maxLen := by
  rcases h.own.2 with ⟨h0, _⟩ | ⟨g', cap', cur, hv, _, hg, h1, h2, _⟩
  · cases h0
  · injection hv with e1 e2 e3
    exact ⟨by omega, by omega⟩

/-- What is behind its first i. -/
theorem OwnV.dropHold {α : Type} [Inhabited α] {R : Holdr α} (hR : Keeps R) {w : World} {B : Nat} {T : TypeId} {bad : Nat → Prop} {g n cap : Nat} {vals : List Value} {l : List α} (h : OwnV R w B T bad (.slice (some ⟨g, 0, none⟩) n cap) vals l) (hn : n = l.length) (i c : Nat) (hi : i ≤ n) (bad' : Nat → Prop) (hb1 : ¬ bad' g) (hb2 : ∀ k, bad' k → bad k) :
    HList R w bad' (.slice (some ⟨g, i, none⟩) (n - i) c) (l.drop i) := by
  subst hn
  refine ⟨_, c, by rw [List.length_drop], fun hp => ⟨g, i, rfl, h.lt.2, hb1, fun j hj => ⟨vals.getD (i + j) default, ?_, ?_⟩⟩⟩
  · rw [List.length_drop] at hj
    exact h.cell (by omega)
  · rw [List.length_drop] at hj
    have e : (l.drop i).getD j default = l.getD (i + j) default := by simp [List.getD_eq_getElem?_getD, List.getElem?_drop]
    rw [e]
    exact hR w w bad bad' _ _ (Nat.le_refl _) (fun _ _ _ => rfl) (fun k _ h => hb2 k h) (h.all (i + j) (by omega))

theorem KerAt.below {bad : Nat → Prop} {w0 wr w' : World} {bb ib capb capi m n : Nat} {b im : List (List Nat)} (h : KerAt bad w0 wr bb ib capb capi m n b im) (hb : Below wr.heap.size wr w') : KerAt bad w0 w' bb ib capb capi m n b im := by
  obtain ⟨v1, h1⟩ := h.ob
  obtain ⟨v2, h2⟩ := h.oi
  exact ⟨h.bel.trans (hb.mono h.bel.size), ⟨v1, h1.below HVec.keeps hb⟩, ⟨v2, h2.below HVec.keeps hb⟩, h.ne, h.lb, h.li, h.vb, h.vi⟩

theorem overF_lt (q : Nat) (n : Int) : ∀ (k x r : Nat), overF q n k x = some r → r < x + k
  | 0, x, r, h => by simp [overF] at h
  | k + 1, x, r, h => by
    simp only [overF] at h
    by_cases h0 : ((x : Int) * n) % (q : Int) = 1
    · rw [if_pos h0] at h
      injection h with h
      omega
    · rw [if_neg h0] at h
      have := overF_lt q n k (x + 1) r h
      omega



/-- Two cells of it change places. -/
theorem OwnV.swap {w : World} {B : Nat} {T : TypeId} {bad : Nat → Prop} {g n cap i j : Nat} {vals : List Value} {l : List (List Nat)} {vi vj : Value} (h : OwnV HVec w B T bad (.slice (some ⟨g, 0, none⟩) n cap) vals l) (hn : n = l.length) (hi : i < n) (hj : j < n)
    (hvi : w.cell? ⟨g, i, none⟩ = some vi) (hvj : w.cell? ⟨g, j, none⟩ = some vj) :
    OwnV HVec (((w.setCell ⟨g, i, none⟩ vj).setCell ⟨g, j, none⟩ vi).drew) B T bad (.slice (some ⟨g, 0, none⟩) n cap) ((vals.set i vj).set j vi) (swapL l i j) := by
  have hall := h.all
  have e1 : vals.getD i default = vi := by
    have := h.cell (j := i) (by omega)
    rw [hvi] at this
    injection this with this
    exact this.symm
  have e2 : vals.getD j default = vj := by
    have := h.cell (j := j) (by omega)
    rw [hvj] at this
    injection this with this
    exact this.symm
  have hri := hall i (by omega)
  have hrj := hall j (by omega)
  rw [e1] at hri
  rw [e2] at hrj
  have h1 := h.set HVec.keeps hn hi hrj
  have hri1 : HVec (w.setCell ⟨g, i, none⟩ vj) bad vi (l.getD i default) := HVec.keeps w _ bad bad _ _ (by simp [World.setCell])
    (fun k _ hn => Below.heap_setCell _ _ _ _ (fun e => hn (h.isBad k (by show some g = some k; rw [e])))) (fun _ _ h => h) hri
  have h2 := h1.set HVec.keeps (by rw [List.length_set]; exact hn) hj hri1
  exact h2.keep HVec.keeps (Nat.le_refl _) (fun _ _ _ => rfl) (fun _ _ => rfl) (fun _ _ h => h) h2.isBad

theorem KerAt.swapB {bad : Nat → Prop} {w0 W : World} {bb ib capb capi m n i j : Nat} {b im : List (List Nat)} {vi vj : Value} (h : KerAt bad w0 W bb ib capb capi m n b im) (hi : i < m) (hj : j < m) (hvi : W.cell? ⟨bb, i, none⟩ = some vi) (hvj : W.cell? ⟨bb, j, none⟩ = some vj) :
    KerAt bad w0 (((W.setCell ⟨bb, i, none⟩ vj).setCell ⟨bb, j, none⟩ vi).drew) bb ib capb capi m n (swapL b i j) im := by
  obtain ⟨v1, h1⟩ := h.ob
  obtain ⟨v2, h2⟩ := h.oi
  have hb0 : w0.heap.size ≤ bb := h1.lt.1
  have hk : ∀ k, k ≠ bb → (((W.setCell ⟨bb, i, none⟩ vj).setCell ⟨bb, j, none⟩ vi).drew).heap[k]? = W.heap[k]? := fun k hk => (Below.heap_setCell _ _ _ _ hk).trans (Below.heap_setCell _ _ _ _ hk)
  refine ⟨((h.bel.setCell (by exact hb0) _).setCell (by exact hb0) _).drew, ⟨_, h1.swap h.lb.symm hi hj hvi hvj⟩, ⟨v2, h2.keep HVec.keeps (by simp [World.setCell]) (fun k _ hn => hk k (fun e => hn (.inl e))) (fun k hkk => hk k (fun e => ?_)) (fun _ _ h => h) h2.isBad⟩, h.ne, by rw [swapL_length]; exact h.lb, h.li, h.vb.swap (by rw [h.lb]; exact hi) (by rw [h.lb]; exact hj), h.vi⟩
  have : some ib = some k := hkk
  injection this with this
  exact h.ne (by rw [← e, this])

theorem KerAt.swapI {bad : Nat → Prop} {w0 W : World} {bb ib capb capi m n i j : Nat} {b im : List (List Nat)} {vi vj : Value} (h : KerAt bad w0 W bb ib capb capi m n b im) (hi : i < m) (hj : j < m) (hvi : W.cell? ⟨ib, i, none⟩ = some vi) (hvj : W.cell? ⟨ib, j, none⟩ = some vj) :
    KerAt bad w0 (((W.setCell ⟨ib, i, none⟩ vj).setCell ⟨ib, j, none⟩ vi).drew) bb ib capb capi m n b (swapL im i j) := by
  obtain ⟨v1, h1⟩ := h.ob
  obtain ⟨v2, h2⟩ := h.oi
  have hb0 : w0.heap.size ≤ ib := h2.lt.1
  have hk : ∀ k, k ≠ ib → (((W.setCell ⟨ib, i, none⟩ vj).setCell ⟨ib, j, none⟩ vi).drew).heap[k]? = W.heap[k]? := fun k hk => (Below.heap_setCell _ _ _ _ hk).trans (Below.heap_setCell _ _ _ _ hk)
  refine ⟨((h.bel.setCell (by exact hb0) _).setCell (by exact hb0) _).drew, ⟨v1, h1.keep HVec.keeps (by simp [World.setCell]) (fun k _ hn => hk k (fun e => hn (.inr (.inr e)))) (fun k hkk => hk k (fun e => ?_)) (fun _ _ h => h) h1.isBad⟩, ⟨_, h2.swap h.li.symm hi hj hvi hvj⟩, h.ne, h.lb, by rw [swapL_length]; exact h.li, h.vb, h.vi.swap (by rw [h.li]; exact hi) (by rw [h.li]; exact hj)⟩
  have : some bb = some k := hkk
  injection this with this
  exact h.ne (by rw [← e, this])

theorem KerAt.setB {bad : Nat → Prop} {w0 W : World} {bb ib capb capi m n i : Nat} {b im : List (List Nat)} {v : Value} {row : List Nat} (h : KerAt bad w0 W bb ib capb capi m n b im) (hi : i < m) (hv : HVec W (fun k => bad k ∨ k = bb ∨ k = ib) v row) (hl : row.length = n) (hle : ∀ i, row.getD i 0 ≤ 1000) :
    KerAt bad w0 (W.setCell ⟨bb, i, none⟩ v) bb ib capb capi m n (b.set i row) im := by
  obtain ⟨v1, h1⟩ := h.ob
  obtain ⟨v2, h2⟩ := h.oi
  have hb0 : w0.heap.size ≤ bb := h1.lt.1
  have hk : ∀ k, k ≠ bb → (W.setCell ⟨bb, i, none⟩ v).heap[k]? = W.heap[k]? := fun k hk => Below.heap_setCell _ _ _ _ hk
  refine ⟨h.bel.setCell (by exact hb0) _, ⟨_, h1.set HVec.keeps h.lb.symm hi hv⟩, ⟨v2, h2.keep HVec.keeps (by simp [World.setCell]) (fun k _ hn => hk k (fun e => hn (.inl e))) (fun k hkk => hk k (fun e => ?_)) (fun _ _ h => h) h2.isBad⟩, h.ne, by rw [List.length_set]; exact h.lb, h.li, h.vb.set hl hle, h.vi⟩
  have : some ib = some k := hkk
  injection this with this
  exact h.ne (by rw [← e, this])

theorem KerAt.setI {bad : Nat → Prop} {w0 W : World} {bb ib capb capi m n i : Nat} {b im : List (List Nat)} {v : Value} {row : List Nat} (h : KerAt bad w0 W bb ib capb capi m n b im) (hi : i < m) (hv : HVec W (fun k => k = bb ∨ k = ib) v row) (hl : row.length = n) (hle : ∀ i, row.getD i 0 ≤ 1000) :
    KerAt bad w0 (W.setCell ⟨ib, i, none⟩ v) bb ib capb capi m n b (im.set i row) := by
  obtain ⟨v1, h1⟩ := h.ob
  obtain ⟨v2, h2⟩ := h.oi
  have hb0 : w0.heap.size ≤ ib := h2.lt.1
  have hk : ∀ k, k ≠ ib → (W.setCell ⟨ib, i, none⟩ v).heap[k]? = W.heap[k]? := fun k hk => Below.heap_setCell _ _ _ _ hk
  refine ⟨h.bel.setCell (by exact hb0) _, ⟨v1, h1.keep HVec.keeps (by simp [World.setCell]) (fun k _ hn => hk k (fun e => hn (.inr (.inr e)))) (fun k hkk => hk k (fun e => ?_)) (fun _ _ h => h) h1.isBad⟩, ⟨_, h2.set HVec.keeps h.li.symm hi hv⟩, h.ne, h.lb, by rw [List.length_set]; exact h.li, h.vb, h.vi.set hl hle⟩
  have : some bb = some k := hkk
  injection this with this
  exact h.ne (by rw [← e, this])

/-- A row of base, or of images, as a call reads it. -/
theorem KerAt.rowB {bad : Nat → Prop} {w0 W : World} {bb ib capb capi m n i : Nat} {b im : List (List Nat)} (h : KerAt bad w0 W bb ib capb capi m n b im) (hi : i < m) : ∃ a c, W.cell? ⟨bb, i, none⟩ = some (.slice a n c) ∧ IntsIn W a (ints (b.getD i default)) := by
  obtain ⟨v1, h1⟩ := h.ob
  obtain ⟨a, c, h2, -, h3⟩ := h1.row (j := i) (by rw [h.lb]; exact hi)
  rw [h.vb.len i (by rw [h.lb]; exact hi)] at h2
  exact ⟨a, c, h2, h3⟩
theorem KerAt.rowI {bad : Nat → Prop} {w0 W : World} {bb ib capb capi m n i : Nat} {b im : List (List Nat)} (h : KerAt bad w0 W bb ib capb capi m n b im) (hi : i < m) : ∃ a c, W.cell? ⟨ib, i, none⟩ = some (.slice a n c) ∧ IntsIn W a (ints (im.getD i default)) := by
  obtain ⟨v1, h1⟩ := h.oi
  obtain ⟨a, c, h2, -, h3⟩ := h1.row (j := i) (by rw [h.li]; exact hi)
  rw [h.vi.len i (by rw [h.li]; exact hi)] at h2
  exact ⟨a, c, h2, h3⟩
theorem KerAt.ltB {bad : Nat → Prop} {w0 W : World} {bb ib capb capi m n : Nat} {b im : List (List Nat)} (h : KerAt bad w0 W bb ib capb capi m n b im) : w0.heap.size ≤ bb ∧ bb < W.heap.size ∧ w0.heap.size ≤ ib ∧ ib < W.heap.size := by
  obtain ⟨v1, h1⟩ := h.ob
  obtain ⟨v2, h2⟩ := h.oi
  exact ⟨h1.lt.1, h1.lt.2, h2.lt.1, h2.lt.2⟩
theorem KerAt.frzB {bad : Nat → Prop} {w0 W : World} {bb ib capb capi m n i : Nat} {b im : List (List Nat)} (h : KerAt bad w0 W bb ib capb capi m n b im) : W.frozen? ⟨bb, i, none⟩ = false := by
  obtain ⟨v1, h1⟩ := h.ob
  exact h1.frz
theorem KerAt.frzI {bad : Nat → Prop} {w0 W : World} {bb ib capb capi m n i : Nat} {b im : List (List Nat)} (h : KerAt bad w0 W bb ib capb capi m n b im) : W.frozen? ⟨ib, i, none⟩ = false := by
  obtain ⟨v1, h1⟩ := h.oi
  exact h1.frz

theorem cell_one {W : World} {g i : Nat} {u x : Value} {p : Addr} (hp : p.block ≠ g) (h : W.cell? p = some x) : (W.setCell ⟨g, i, none⟩ u).cell? p = some x := by
  rw [World.cell?_setCell_far _ _ _ _ (Ne.symm hp)]; exact h

/-- A cell elsewhere. -/
theorem cell_two {W : World} {g i j : Nat} {u v x : Value} {p : Addr} (hp : p.block ≠ g) (h : W.cell? p = some x) : (((W.setCell ⟨g, i, none⟩ u).setCell ⟨g, j, none⟩ v).drew).cell? p = some x := by
  rw [World.cell?_drew, World.cell?_setCell_far _ _ _ _ (Ne.symm hp), World.cell?_setCell_far _ _ _ _ (Ne.symm hp)]; exact h

set_option maxHeartbeats 4000000 in
set_option maxRecDepth 100000 in
theorem kernel_g (bad : Nat → Prop) (gb q n m : Nat) (bv iv : Value) (base images : List (List Nat)) (w : World) (hq1 : 1 ≤ q) (hq2 : q ≤ 1000) (hm : base.length = m) (hm2 : images.length = m) (hpos : 0 < m) (hml : m ≤ 24) (hn : 0 < n) (hn24 : n ≤ 24)
    (hB : VecsOK n base) (hI : VecsOK n images) (hbad : ∀ k, bad k → k < w.heap.size) (hb : HRows w bad bv base) (hi : HRows w noBad iv images) (hc : w.cell? ⟨gb, 6, none⟩ = some (.int .i64 q)) (r : List (List Nat)) (hr : kerF q n 0 0 base images = some r) :
    Calls Try.prog 57 #[.pointer (some ⟨gb, 0, none⟩), bv, iv] w fun e w' => ∃ v', e = .returned v' ∧ HRows w' bad v' r ∧ Below w.heap.size w w' := by
  have hcl1 := clone_vecs bv base w bad hb (by omega) (by omega)
  have HC1 := Lib.hid hcl1
  have HI := Lib.hid hi
  have HR := Lib.hid hr
  have HVB := Lib.hid hB
  have HVI := Lib.hid hI
  have HC := Lib.hid hc
  have HM := Lib.hid hm
  have HM2 := Lib.hid hm2
  have hgl := lt_of_cell hc
  clear hcl1 hb hi hr hB hI hc hm hm2
  go_enter Try.func57, Try.ntmps57
  go_wp2_with fail
  refine HC1.out.mono ?_
  rintro e w1 ⟨bb, capb, vb, rfl, hbb, hob, hb1⟩
  rw [HM.out] at hob ⊢
  have hi1 : HRows w1 (fun k => w.heap.size ≤ k) iv images := HRows.keeps.below HI.out hb1 (fun k hk h => absurd h (by show ¬ w.heap.size ≤ k; omega))
  have hcl2 := clone_vecs iv images w1 _ hi1 (by rw [HM2.out]; omega) (by rw [HM2.out]; omega)
  have HC2 := Lib.hid hcl2
  have HOB := Lib.hid hob
  clear hcl2 hob hi1 HC1
  go_wp2_with fail
  refine HC2.out.mono ?_
  rintro e w2 ⟨ib, capi, vi, rfl, hib, hoi, hb2⟩
  rw [HM2.out] at hoi ⊢
  have hbel := hb1.trans (hb2.mono hb1.size)
  have hbl := HOB.out.lt
  have hK : KerAt bad w w2 bb ib capb capi m n base images := by
    refine ⟨hbel, ⟨_, (HOB.out.below HVec.keeps hb2).keep HVec.keeps (Nat.le_refl _) (fun _ _ _ => rfl) (fun _ _ => rfl) (fun k hk h => ?_) (fun k hk => ?_)⟩, ⟨_, ((hoi.lower hb1.size).keep HVec.keeps (Nat.le_refl _) (fun _ _ _ => rfl) (fun _ _ => rfl) (fun k hk h => ?_) (fun k hk => ?_))⟩, by omega, HM.out, HM2.out, HVB.out, HVI.out⟩
    · rcases h with h | rfl | rfl
      · exact .inl h
      · exact .inr hbb
      · exact .inr (by have := hb1.size; omega)
    · have : some bb = some k := hk
      injection this with this
      exact .inr (.inl this.symm)
    · rcases h with rfl | rfl
      · exact .inl hbb
      · exact .inl (by have := hb1.size; omega)
    · have : some ib = some k := hk
      injection this with this
      exact .inr this.symm
  have HK := Lib.hid hK
  clear hK hoi HOB HC2
  obtain ⟨vals0, hvi0⟩ := HK.out.oi
  obtain ⟨a0, c0, hc0, -, -⟩ := hvi0.row (j := 0) (by rw [HK.out.li]; exact hpos)
  rw [HK.out.vi.len 0 (by rw [HK.out.li]; exact hpos)] at hc0
  clear hvi0
  have hCb : m ≤ capb ∧ capb ≤ maxLen := by obtain ⟨_, h⟩ := HK.out.ob; exact h.cap
  have hCi : m ≤ capi ∧ capi ≤ maxLen := by obtain ⟨_, h⟩ := HK.out.oi; exact h.cap
  unfold maxLen at hCb hCi
  go_wp2_with fail
  clear hc0
  go_loopg [7, 21] n (fun k av cv wr => ∃ (at_ c : Nat) (b im : List (List Nat)), at_ < m ∧ c + k = n ∧ av = .int .i64 at_ ∧ cv = .int .i64 c ∧ KerAt bad w wr bb ib capb capi m n b im ∧ Hid (kerF q k c at_ b im = some r))
  case atStart => exact ⟨0, 0, base, images, hpos, by omega, rfl, rfl, HK.out, HR⟩
  case round =>
    obtain ⟨at_, c, b, im, hat, hck, rfl, rfl, hat0, HF⟩ := hrel
    have HAT := Lib.hid hat0
    clear hat0
    cases gm : gk with
    | zero =>
      subst gm
      have hf := HF.out
      simp only [kerF, Option.some.injEq] at hf
      have HF2 := Lib.hid hf
      clear hf HF
      go_wp2_with fail
      refine bodyPost_ret (v := .slice (some ⟨bb, at_, none⟩) (m - at_) (capb - at_)) (by simp [results, Try.results57, go_sem]) rfl ⟨_, rfl, ?_, HAT.out.bel⟩
      obtain ⟨vals, ho⟩ := HAT.out.ob
      rw [← HF2.out]
      exact ho.dropHold HVec.keeps HAT.out.lb.symm at_ _ (by omega) bad (fun h => by have := hbad _ h; omega) (fun k h => .inl h)
    | succ k =>
      subst gm
      have hbA : Below wr.heap.size wr (wr.alloc (.cells #[.int .i64 c] 3)) := (Below.refl _ _).alloc (Nat.le_refl _) _
      have hA1 := HAT.out.below hbA
      obtain ⟨valsi, hoi⟩ := hA1.oi
      have hidx := idxv_g wr.heap.size c (.slice (some ⟨ib, at_, none⟩) (m - at_) (capi - at_)) (im.drop at_) (wr.alloc (.cells #[.int .i64 c] 3)) (hoi.dropHold HVec.keeps hA1.li.symm at_ _ (by omega) noBad (fun h => h) (fun k h => h.elim)) (by rw [List.length_drop, hA1.li]; omega) (fun j hj => by
        rw [List.length_drop] at hj
        have e : (im.drop at_).getD j default = im.getD (at_ + j) default := by simp [List.getD_eq_getElem?_getD, List.getElem?_drop]
        rw [e, hA1.vi.len _ (by omega)]
        omega) (by go_simp)
      have HIDX := Lib.hid hidx
      have HA1 := Lib.hid hA1
      clear hidx hA1 hoi
      go_wp2_with fail
      refine HIDX.out.mono ?_
      rintro e w3 ⟨rfl, rfl⟩
      have hgA := below_cell (HAT.out.bel.trans (hbA.mono HAT.out.bel.size)) hgl HC.out
      have hbox : (wr.alloc (.cells #[.int .i64 c] 3)).cell? ⟨wr.heap.size, 0, none⟩ = some (.int .i64 c) := by go_simp
      have hcbb : bb < wr.heap.size := by obtain ⟨_, h⟩ := HAT.out.ob; exact h.lt.2
      have hcib : ib < wr.heap.size := by obtain ⟨_, h⟩ := HAT.out.oi; exact h.lt.2
      clear HIDX HAT
      generalize wr.heap.size = cbx at *
      generalize (wr.alloc (.cells #[.int .i64 c] 3)) = W at *
      have hf := HF.out
      simp only [kerF] at hf
      cases hz : firstNZ c (im.drop at_) 0 with
      | none =>
        rw [hz] at hf
        have HF2 := Lib.hid hf
        have hk0 : idxI (none : Option Nat) = -1 := rfl
        rw [hk0]
        clear hf HF hk0 hz
        go_wp2_with fail
        go_roundg k
        case rel => exact ⟨at_, c + 1, b, im, hat, by omega, rfl, by go_num, HA1.out, HF2⟩
        case measure => omega
      | some j =>
        rw [hz] at hf
        have hlt := firstNZ_lt c _ _ _ hz
        obtain ⟨-, hj1, -⟩ := hlt
        have hj2 : at_ + j < m := by
          rw [List.length_drop, HA1.out.li] at hj1; omega
        have hk0 : idxI (some j) = (j : Int) := rfl
        rw [hk0]
        obtain ⟨vb1, hob1⟩ := HA1.out.ob
        obtain ⟨ab, cb, hcb, hvb, -⟩ := hob1.row (j := at_) (by rw [HA1.out.lb]; exact hat)
        obtain ⟨ab2, cb2, hcb2, hvb2, -⟩ := hob1.row (j := at_ + j) (by rw [HA1.out.lb]; exact hj2)
        rw [HA1.out.vb.len at_ (by rw [HA1.out.lb]; exact hat)] at hcb hvb
        rw [HA1.out.vb.len (at_ + j) (by rw [HA1.out.lb]; exact hj2)] at hcb2 hvb2
        obtain ⟨y1, hy1⟩ := cell?_setCell_some (w := W) (p := ⟨bb, at_, none⟩) (x := .slice ab2 n cb2) (q := ⟨bb, at_ + j, none⟩) hcb2
        obtain ⟨y2, hy2⟩ := cell?_setCell_some (w := W) (p := ⟨bb, at_ + j, none⟩) (x := .slice ab n cb) (q := ⟨bb, at_, none⟩) hcb
        have hfb := hob1.frz (j := at_)
        have hfb2 := hob1.frz (j := at_ + j)
        have hs1 : IntKind.i64.wrap ((at_ : Int) + (j : Int)) = (at_ : Int) + (j : Int) := IntWalk.i64_in _ (by omega)
        have hs2 : ((at_ : Int) + (j : Int)).toNat = at_ + j := by omega
        have hs3 : (0 : Int) ≤ (at_ : Int) + (j : Int) := by omega
        have hs4 : (at_ : Int) + (j : Int) < (m : Int) := by omega
        have hs5 : (0 : Int) ≤ (at_ : Int) := by omega
        have hs6 : (at_ : Int) < (m : Int) := by omega
        have HF3 := Lib.hid hf
        have HZ := Lib.hid hz
        have HVB1 := Lib.hid hvb
        have HVB2 := Lib.hid hvb2
        clear hk0 hf hz HF hj1 hvb hvb2
        have hj0 : decide ((j : Int) < 0) = false := by simp
        go_wp2_with fail
        go_region
        have hA2 := HA1.out.swapB hat hj2 hcb hcb2
        have hbox2 := cell_two (W := W) (g := bb) (i := at_) (j := at_ + j) (u := .slice ab2 n cb2) (v := .slice ab n cb) (p := ⟨cbx, 0, none⟩) (by show cbx ≠ bb; omega) hbox
        have hg2 := cell_two (W := W) (g := bb) (i := at_) (j := at_ + j) (u := .slice ab2 n cb2) (v := .slice ab n cb) (p := ⟨gb, 6, none⟩) (by show gb ≠ bb; have := hbb; omega) hgA
        clear hy1 hy2 hcb hcb2 hfb hfb2 hob1 HVB1 HVB2 hbox hgA
        generalize (((W.setCell ⟨bb, at_, none⟩ (.slice ab2 n cb2)).setCell ⟨bb, at_ + j, none⟩ (.slice ab n cb)).drew) = W2 at *
        obtain ⟨vi1, hoi1⟩ := hA2.oi
        obtain ⟨ai, ci, hci, -, -⟩ := hoi1.row (j := at_) (by rw [hA2.li]; exact hat)
        obtain ⟨ai2, ci2, hci2, -, hri2⟩ := hoi1.row (j := at_ + j) (by rw [hA2.li]; exact hj2)
        rw [hA2.vi.len at_ (by rw [hA2.li]; exact hat)] at hci
        rw [hA2.vi.len (at_ + j) (by rw [hA2.li]; exact hj2)] at hci2
        obtain ⟨z1, hz1⟩ := cell?_setCell_some (w := W2) (p := ⟨ib, at_, none⟩) (x := .slice ai2 n ci2) (q := ⟨ib, at_ + j, none⟩) hci2
        obtain ⟨z2, hz2⟩ := cell?_setCell_some (w := W2) (p := ⟨ib, at_ + j, none⟩) (x := .slice ai n ci) (q := ⟨ib, at_, none⟩) hci
        have hfi := hoi1.frz (j := at_)
        have hfi2 := hoi1.frz (j := at_ + j)
        have HA2 := Lib.hid hA2
        clear hA2 hoi1 hri2
        go_wp2_with fail
        go_region
        have hA3 := HA2.out.swapI hat hj2 hci hci2
        have hbox3 := cell_two (W := W2) (g := ib) (i := at_) (j := at_ + j) (u := .slice ai2 n ci2) (v := .slice ai n ci) (p := ⟨cbx, 0, none⟩) (by show cbx ≠ ib; omega) hbox2
        have hg3 := cell_two (W := W2) (g := ib) (i := at_) (j := at_ + j) (u := .slice ai2 n ci2) (v := .slice ai n ci) (p := ⟨gb, 6, none⟩) (by show gb ≠ ib; have := hib; have := hb1.size; omega) hg2
        clear hz1 hz2 hci hci2 hfi hfi2 hbox2 hg2 HA2
        generalize (((W2.setCell ⟨ib, at_, none⟩ (.slice ai2 n ci2)).setCell ⟨ib, at_ + j, none⟩ (.slice ai n ci)).drew) = W3 at *
        obtain ⟨vi3, hoi3⟩ := hA3.oi
        obtain ⟨ap, cp, hcp, -, hip⟩ := hoi3.row (j := at_) (by rw [hA3.li]; exact hat)
        have hlp := hA3.vi.len at_ (by rw [hA3.li]; exact hat)
        have hxl := hA3.vi.le at_ (by rw [hA3.li]; exact hat) c
        rw [hlp] at hcp
        obtain ⟨pb, po, rfl, hpb, hpc⟩ := hip (by rw [ints_length, hlp]; exact hn)
        have hpx := hpc c (by rw [ints_length, hlp]; omega)
        rw [ints_getD] at hpx
        have hf := HF3.out
        generalize ((swapL im at_ (at_ + j)).getD at_ default).getD c 0 = x at *
        cases hov : overF q (x : Int) 1000 1 with
        | none => rw [hov] at hf; cases hf
        | some by_ =>
          rw [hov] at hf
          simp only at hf
          have HF4 := Lib.hid hf
          have hover := fun nq => over_q q gb (x : Int) (W3.drewN nq) hq1 hq2 (by omega) (by omega) (by rw [World.cell?_drewN]; exact hg3) 1000 by_ (by omega) hov
          have HOV := Lib.hid hover
          have hbyl : by_ ≤ 1000 := by have := overF_lt q _ _ _ _ hov; omega
          have HA3 := Lib.hid hA3
          have hcn : (0 : Int) ≤ (c : Int) ∧ (c : Int) < (n : Int) := by omega
          clear hf hov hover hoi3 hip hpc hA3 HF3
          go_wp2_with fail
          go_quiet ((go_at_call 45; exact Calls.quiet_of (HOV.out _)))
          have hA4 := fun nq => HA3.out.below (below_drewN W3 nq)
          have hbox4 := fun nq => below_cell (below_drewN W3 nq) (lt_of_cell hbox3) hbox3
          have hg4 := fun nq => below_cell (below_drewN W3 nq) (lt_of_cell hg3) hg3
          generalize hW4 : W3.drewN _ = W4
          have hA5 : KerAt bad w W4 bb ib capb capi m n (swapL b at_ (at_ + j)) (swapL im at_ (at_ + j)) := by rw [← hW4]; exact hA4 _
          have hbox5 : W4.cell? ⟨cbx, 0, none⟩ = some (.int .i64 c) := by rw [← hW4]; exact hbox4 _
          have hg5 : W4.cell? ⟨gb, 6, none⟩ = some (.int .i64 q) := by rw [← hW4]; exact hg4 _
          have hf4 := HF4.out
          rw [show b.length = m from by have := hA5.lb; rw [swapL_length] at this; exact this] at hf4
          clear hA4 hbox4 hg4 hW4 HF4 HA3 hcp hpx hbox3 hg3 HOV HZ HA1
          generalize swapL b at_ (at_ + j) = B1 at *
          generalize swapL im at_ (at_ + j) = I1 at *
          obtain ⟨B2, I2, hE⟩ : ∃ B2 I2, elimF q c at_ by_ (m - (at_ + 1)) (at_ + 1) B1 I1 = (B2, I2) := ⟨_, _, rfl⟩
          rw [hE] at hf4
          simp only at hf4
          have HF5 := Lib.hid hf4
          have HE := Lib.hid hE
          have HA5 := Lib.hid hA5
          clear hf4 hE hA5
          go_wp2_with fail
          go_loopg [11] (m - (at_ + 1)) (fun l iv wx => ∃ (i : Nat) (b' im' : List (List Nat)), i + l = m ∧ at_ < i ∧ iv = .int .i64 i ∧ KerAt bad w wx bb ib capb capi m n b' im' ∧ wx.cell? ⟨cbx, 0, none⟩ = some (.int .i64 c) ∧ wx.cell? ⟨gb, 6, none⟩ = some (.int .i64 q) ∧ Hid (elimF q c at_ by_ l i b' im' = (B2, I2)))
          case atStart => exact ⟨at_ + 1, B1, I1, by omega, by omega, by go_num, HA5.out, hbox5, hg5, HE⟩
          case round =>
            obtain ⟨i, b', im', hil, hai, rfl, hA6, hbox6, hg6, HE6⟩ := hrel
            clear HE HA5 hbox5 hg5
            cases gl : gk with
            | zero =>
              subst gl
              obtain rfl : i = m := by omega
              have he := HE6.out
              simp only [elimF, Prod.mk.injEq] at he
              obtain ⟨rfl, rfl⟩ := he
              have HA6 := Lib.hid hA6
              clear HE6 hA6
              by_cases hlast : at_ + 1 = i
              · have hf5 := HF5.out
                rw [if_pos hlast] at hf5
                have HF6 := Lib.hid (Option.some.inj hf5)
                have hd : ((at_ : Int) + 1 == (i : Int)) = true := by rw [beq_iff_eq]; omega
                have HL := Lib.hid hlast
                clear hf5 HF5 hlast
                have hfin : ∀ a t cc, t = i - (at_ + 1) → HRows wr bad (.slice a t cc) (b'.drop (at_ + 1)) := fun a t cc ht => ⟨a, cc, by rw [List.length_drop, HA6.out.lb, ht], fun hp => by
                  rw [List.length_drop, HA6.out.lb] at hp
                  have := HL.out
                  omega⟩
                have HFIN := Lib.hid hfin
                clear hfin
                by_cases hcap : at_ + 1 = capb
                · go_wp2_with fail
                  exact bodyPost_ret (v := .slice (some ⟨bb, 0, none⟩) 0 0) (by simp [results, Try.results57, go_sem]) rfl ⟨_, rfl, by rw [← HF6.out]; exact HFIN.out _ _ _ (by have := HL.out; omega), HA6.out.bel⟩
                · go_wp2_with fail
                  exact bodyPost_ret (v := .slice (some ⟨bb, at_ + 1, none⟩) (i - (at_ + 1)) (capb - (at_ + 1))) (by simp [results, Try.results57, go_sem]) rfl ⟨_, rfl, by rw [← HF6.out]; exact HFIN.out _ _ _ (by have := HL.out; omega), HA6.out.bel⟩
              · have hf5 := HF5.out
                rw [if_neg hlast] at hf5
                have HF6 := Lib.hid hf5
                have hd : ((at_ : Int) + 1 == (i : Int)) = false := by rw [beq_eq_false_iff_ne]; omega
                clear hf5 HF5
                go_wp2_with fail
                go_roundg k
                case rel => exact ⟨at_ + 1, c + 1, _, _, by omega, by omega, by go_num, by go_num, HA6.out, HF6⟩
                case measure => omega
            | succ l =>
              subst gl
              have him : i < m := by omega
              obtain ⟨ax, cx, hcx, hix⟩ := hA6.rowI him
              have hyl := hA6.vi.le i (by rw [hA6.li]; exact him) c
              have hlx := hA6.vi.len i (by rw [hA6.li]; exact him)
              obtain ⟨xb, xo, rfl, hxb, hxc⟩ := hix (by rw [ints_length, hlx]; exact hn)
              have hy := hxc c (by rw [ints_length, hlx]; omega)
              rw [ints_getD] at hy
              have he6 := HE6.out
              simp only [elimF] at he6
              generalize (im'.getD i default).getD c 0 = y at *
              have hyb : (0 : Int) ≤ (y : Int) * (by_ : Int) ∧ (y : Int) * (by_ : Int) ≤ 1000000 := by
                have h1 : y * by_ ≤ 1000 * 1000 := Nat.mul_le_mul hyl hbyl
                have : ((y * by_ : Nat) : Int) = (y : Int) * (by_ : Int) := by push_cast; rfl
                omega
              obtain ⟨hyb1, hyb2⟩ := hyb
              have hneg : -(y : Int) * (by_ : Int) = -((y : Int) * (by_ : Int)) := Int.neg_mul _ _
              have hw1 : IntKind.i64.wrap (-(y : Int)) = -(y : Int) := IntWalk.i64_in _ (by omega)
              have hw2 : IntKind.i64.wrap (-(y : Int) * (by_ : Int)) = -(y : Int) * (by_ : Int) := IntWalk.i64_in _ (by omega)
              have hii : (0 : Int) ≤ (i : Int) ∧ (i : Int) < (m : Int) := by omega
              have HE7 := Lib.hid he6
              have HNEG := Lib.hid hneg
              have HA6 := Lib.hid hA6
              clear he6 HE6 hxc hix hneg hA6
              go_wp2_with fail
              go_quiet (fail)
              go_wp2_with fail
              generalize hW7 : wr.drewN _ = W7
              have hA7 : KerAt bad w W7 bb ib capb capi m n b' im' := by rw [← hW7]; exact HA6.out.below (below_drewN wr _)
              have hbox7 : W7.cell? ⟨cbx, 0, none⟩ = some (.int .i64 c) := by rw [← hW7]; exact hbox6
              have hg7 : W7.cell? ⟨gb, 6, none⟩ = some (.int .i64 q) := by rw [← hW7]; exact hg6
              clear hW7 hbox6 hg6 HA6 hcx hy hw1 hw2
              obtain ⟨a1, c1, hc1, hi1⟩ := hA7.rowB him
              obtain ⟨a2, c2, hc2, hi2⟩ := hA7.rowB hat
              have hfr := hA7.frzB (i := i)
              have hbd : Below W7.heap.size W7 W7.drew := (Below.refl _ _).drew
              have hl1 := hA7.ltB
              have hpl := plus_g gb q a1 a2 c1 c2 (b'.getD i default) (b'.getD at_ default) n (-(y : Int) * (by_ : Int)) W7.drew hq1 hq2 (hA7.vb.len i (by rw [hA7.lb]; exact him)) (hA7.vb.len at_ (by rw [hA7.lb]; exact hat)) hn hn24
                (fun t _ => hA7.vb.le i (by rw [hA7.lb]; exact him) t) (fun t _ => hA7.vb.le at_ (by rw [hA7.lb]; exact hat) t) (by rw [HNEG.out]; omega) (by rw [HNEG.out]; omega) (hi1.below hbd) (hi2.below hbd) (below_cell hbd (lt_of_cell hg7) hg7)
              have HPL := Lib.hid hpl
              have HA7 := Lib.hid hA7
              clear hpl hi1 hi2 hA7
              go_region_law (go_simp; go_at_call 55; refine HPL.out.mono ?_; rintro e w8 ⟨g8, cap8, rfl, hown8, hb8⟩; have hc8 := below_cell (hbd.trans hb8) hl1.2.1 hc1; have hf8 : w8.frozen? ⟨bb, i, none⟩ = false := ((hbd.trans hb8).frozen (p := ⟨bb, i, none⟩) hl1.2.1).trans hfr)
              all_goals
                have hb78 := hbd.trans hb8
                have hA8 := HA7.out.below hb78
                have hv8 : HVec w8 (fun k => bad k ∨ k = bb ∨ k = ib) (.slice (some ⟨g8, 0, none⟩) n cap8) (plusF q (b'.getD i default) (-(y : Int) * (by_ : Int)) (b'.getD at_ default)) := HVec.own hown8 (by rw [plusF_length]; exact (HA7.out.vb.len i (by rw [HA7.out.lb]; exact him)).symm) _ (fun k hk => by
                  have : W7.drew.heap.size = W7.heap.size := rfl
                  rcases hk with hk | rfl | rfl
                  · have := hbad k hk; omega
                  · omega
                  · omega)
                have hA9 := hA8.setB him hv8 (by rw [plusF_length]; exact HA7.out.vb.len i (by rw [HA7.out.lb]; exact him)) (plusF_le q _ _ _ hq1 hq2)
                have hbox9 := cell_one (g := bb) (i := i) (u := .slice (some ⟨g8, 0, none⟩) n cap8) (p := ⟨cbx, 0, none⟩) (by show cbx ≠ bb; omega) (below_cell hb78 (lt_of_cell hbox7) hbox7)
                have hg9 := cell_one (g := bb) (i := i) (u := .slice (some ⟨g8, 0, none⟩) n cap8) (p := ⟨gb, 6, none⟩) (by show gb ≠ bb; have := hbb; omega) (below_cell hb78 (lt_of_cell hg7) hg7)
                clear hA8 hv8 hown8 hb8 hb78 hc8 hf8 hbox7 hg7 hc1 hc2 hfr hbd hl1 HPL HA7
                generalize w8.setCell ⟨bb, i, none⟩ (.slice (some ⟨g8, 0, none⟩) n cap8) = W9 at *
                obtain ⟨a1, c1, hc1, hi1⟩ := hA9.rowI him
                obtain ⟨a2, c2, hc2, hi2⟩ := hA9.rowI hat
                have hfr := hA9.frzI (i := i)
                have hbd : Below W9.heap.size W9 W9.drew := (Below.refl _ _).drew
                have hl1 := hA9.ltB
                have hpl := plus_g gb q a1 a2 c1 c2 (im'.getD i default) (im'.getD at_ default) n (-(y : Int) * (by_ : Int)) W9.drew hq1 hq2 (hA9.vi.len i (by rw [hA9.li]; exact him)) (hA9.vi.len at_ (by rw [hA9.li]; exact hat)) hn hn24
                  (fun t _ => hA9.vi.le i (by rw [hA9.li]; exact him) t) (fun t _ => hA9.vi.le at_ (by rw [hA9.li]; exact hat) t) (by rw [HNEG.out]; omega) (by rw [HNEG.out]; omega) (hi1.below hbd) (hi2.below hbd) (below_cell hbd (lt_of_cell hg9) hg9)
                have HPL := Lib.hid hpl
                have HA9 := Lib.hid hA9
                clear hpl hi1 hi2 hA9
                go_wp2_with fail
                go_region_law (go_simp; go_at_call 55; refine HPL.out.mono ?_; rintro e w8 ⟨g8, cap8, rfl, hown8, hb8⟩; have hc8 := below_cell (hbd.trans hb8) hl1.2.2.2 hc1; have hf8 : w8.frozen? ⟨ib, i, none⟩ = false := ((hbd.trans hb8).frozen (p := ⟨ib, i, none⟩) hl1.2.2.2).trans hfr)
                all_goals
                  have hb78 := hbd.trans hb8
                  have hA8 := HA9.out.below hb78
                  have hv8 : HVec w8 (fun k => k = bb ∨ k = ib) (.slice (some ⟨g8, 0, none⟩) n cap8) (plusF q (im'.getD i default) (-(y : Int) * (by_ : Int)) (im'.getD at_ default)) := HVec.own hown8 (by rw [plusF_length]; exact (HA9.out.vi.len i (by rw [HA9.out.li]; exact him)).symm) _ (fun k hk => by
                    have : W9.drew.heap.size = W9.heap.size := rfl
                    rcases hk with rfl | rfl <;> omega)
                  have hA10 := hA8.setI him hv8 (by rw [plusF_length]; exact HA9.out.vi.len i (by rw [HA9.out.li]; exact him)) (plusF_le q _ _ _ hq1 hq2)
                  have hbox10 := cell_one (g := ib) (i := i) (u := .slice (some ⟨g8, 0, none⟩) n cap8) (p := ⟨cbx, 0, none⟩) (by show cbx ≠ ib; omega) (below_cell hb78 (lt_of_cell hbox9) hbox9)
                  have hg10 := cell_one (g := ib) (i := i) (u := .slice (some ⟨g8, 0, none⟩) n cap8) (p := ⟨gb, 6, none⟩) (by show gb ≠ ib; have := hib; have := hb1.size; omega) (below_cell hb78 (lt_of_cell hg9) hg9)
                  have HA10 := Lib.hid hA10
                  clear hA8 hv8 hown8 hb8 hb78 hc8 hf8 hbox9 hg9 hc1 hc2 hfr hbd hl1 HPL HA9 hA10
                  generalize w8.setCell ⟨ib, i, none⟩ (.slice (some ⟨g8, 0, none⟩) n cap8) = W10 at *
                  go_wp2_with fail
                  go_roundg l
                  case rel => exact ⟨i + 1, _, _, by omega, by omega, by go_num, HA10.out, hbox10, hg10, HE7⟩
                  case measure => omega

end Go.Proofs.Ytnejjgolmikplaa
