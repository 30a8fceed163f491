/- The walks of (*group).choose and of its closure. -/
import Derived.Test.YtnejjgolmikplaaGroup
namespace Go.Proofs.Ytnejjgolmikplaa
open Go.RowKit Go.Proofs

/-- A value that is a slice of these ints. -/
def SlV (w : World) (v : Value) (xs : List Int) : Prop := ∃ a c, v = .slice a xs.length c ∧ IntsIn w a xs

theorem SlV.below {w w' : World} {v : Value} {xs : List Int} (h : SlV w v xs) (hb : Below w.heap.size w w') : SlV w' v xs := by
  obtain ⟨a, c, hv, hi⟩ := h
  exact ⟨a, c, hv, hi.below hb⟩

/-- A slice of slices of ints: its rows. -/
def RowsIn (w : World) (a : Option Addr) (xss : List (List Int)) : Prop :=
  0 < xss.length → ∃ b o, a = some ⟨b, o, none⟩ ∧ b < w.heap.size ∧ ∀ j, j < xss.length → ∃ v, w.cell? ⟨b, o + j, none⟩ = some v ∧ SlV w v (xss.getD j [])

theorem RowsIn.below {w w' : World} {a : Option Addr} {xss : List (List Int)} (h : RowsIn w a xss) (hb : Below w.heap.size w w') : RowsIn w' a xss := fun hp => by
  obtain ⟨b, o, ha, hlt, hc⟩ := h hp
  refine ⟨b, o, ha, Nat.lt_of_lt_of_le hlt hb.size, fun j hj => ?_⟩
  obtain ⟨v, hv, hs⟩ := hc j hj
  exact ⟨v, (hb.cell (p := ⟨b, o + j, none⟩) hlt).trans hv, hs.below hb⟩

/-- Numbers as Go's ints. -/
def ints (l : List Nat) : List Int := l.map (fun (x : Nat) => (x : Int))
theorem ints_length (l : List Nat) : (ints l).length = l.length := by simp [ints]
theorem ints_getD (l : List Nat) (j : Nat) : (ints l).getD j 0 = ((l.getD j 0 : Nat) : Int) := by
  simp only [ints, List.getD_eq_getElem?_getD, List.getElem?_map]
  cases l[j]? <;> simp

theorem rows_getD (cls : List (List Nat)) (j : Nat) : (cls.map ints).getD j [] = ints (cls.getD j []) := by
  simp only [List.getD_eq_getElem?_getD, List.getElem?_map]
  cases cls[j]? with
  | none => simp [ints]
  | some x => simp
theorem below_cell {B : Nat} {w w' : World} {p : Addr} {v : Value} (hb : Below B w w') (hp : p.block < B) (h : w.cell? p = some v) : w'.cell? p = some v := (hb.cell hp).trans h

/-- Do all orders divide q - 1? -/
def fitsL (ords : List Nat) (q : Nat) : Bool := ords.all fun o => decide ((q - 1) % o = 0)

theorem fitsL_false (ords : List Nat) (q j : Nat) (hj : j < ords.length) (h : ¬ (q - 1) % (ords.getD j 0) = 0) : fitsL ords q = false := by
  unfold fitsL
  rw [List.all_eq_false]
  exact ⟨ords.getD j 0, by rw [List.getD_eq_getElem?_getD, List.getElem?_eq_getElem hj]; exact List.getElem_mem hj, by simpa using h⟩
theorem fitsL_true (ords : List Nat) (q : Nat) (h : ∀ j, j < ords.length → (q - 1) % (ords.getD j 0) = 0) : fitsL ords q = true := by
  unfold fitsL
  rw [List.all_eq_true]
  intro x hx
  obtain ⟨j, hj, rfl⟩ := List.getElem_of_mem hx
  have := h j hj
  rw [List.getD_eq_getElem?_getD, List.getElem?_eq_getElem hj] at this
  simpa using this

theorem bne_cast (n : Nat) : ((n : Int) != 0) = !decide (n = 0) := by
  by_cases h : n = 0
  · simp [h]
  · have : ((n : Int) != 0) = true := by rw [bne_iff_ne]; omega
    rw [this]; simp [h]

set_option maxHeartbeats 2000000 in
theorem fits_g {gb eb mb cap cb ccap : Nat} {els : List Nat} {ca : Option Addr} {cls : List (List Nat)} {ords : List Nat} (G : GOK els) (q : Nat) (w : World) (h : GAt w gb eb mb cap els)
    (hcap : w.cell? ⟨cb, 0, none⟩ = some (.pointer (some ⟨gb, 0, none⟩))) (hcls : w.cell? ⟨gb, 3, none⟩ = some (.slice ca cls.length ccap)) (hrows : RowsIn w ca (cls.map ints))
    (hcl : cls.length ≤ 24) (hq1 : 1 ≤ q) (hq2 : q ≤ 1000) (hords : ords.length = cls.length)
    (ho : ∀ j, j < cls.length → 0 < (cls.getD j []).length ∧ (cls.getD j []).getD 0 0 < els.length ∧ 1 ≤ ords.getD j 0 ∧ ordF els ((cls.getD j []).getD 0 0) 30 ((cls.getD j []).getD 0 0) 1 = some (ords.getD j 0))
    (k : Nat) (p : Bool) (hp : primeN k q 2 = some p) (r : Bool) (hr : (fitsL ords q && p) = r) :
    Calls Try.prog 52 #[.int .i64 q, .pointer (some ⟨cb, 0, none⟩)] w fun e w' => e = .returned (.bool r) ∧ Below w.heap.size w w' := by
  have hn := G.len
  subst hr
  have HG := Lib.hid G
  have HA := Lib.hid h
  have HP := Lib.hid hp
  have HO := Lib.hid ho
  have HOL := Lib.hid hords
  have HR := Lib.hid hrows
  have HC := Lib.hid hcls
  have HCB := Lib.hid hcap
  clear G h hp ho hords
  go_enter Try.func52, Try.ntmps52
  go_wp2
  go_loopg [11] cls.length (fun k iv wr => ∃ j : Nat, j + k = cls.length ∧ iv = .int .i64 j ∧ Below w.heap.size w wr ∧ Hid (∀ i, i < j → (q - 1) % (ords.getD i 0) = 0))
  case atStart => exact ⟨0, by omega, rfl, Below.refl _ _, Lib.hid (fun i hi => absurd hi (by omega))⟩
  case round =>
    obtain ⟨j, hjk, rfl, hbel, HI⟩ := hrel
    clear hcap hcls
    cases gk with
    | zero =>
      have hall := Lib.hid (fitsL_true ords q (fun i hi => HI.out i (by have := HOL.out; omega)))
      go_wp2_with (go_at_call 54; refine (isPrime_any q _ p _ (by omega) HP.out).mono ?_; rintro e w1 ⟨rfl, rfl⟩)
      go_ret
      exact ⟨bool_ret (by rw [hall.out]; simp), hbel⟩
    | succ k =>
      have hlt : j < cls.length := by omega
      obtain ⟨b, o, rfl, hblt, hc⟩ := hrows (by simp; omega)
      obtain ⟨v, hv, a', c', rfl, hin⟩ := hc j (by simp; omega)
      have hO := HO.out j hlt
      rw [show ((cls.map ints).getD j []) = ints (cls.getD j []) from rows_getD cls j] at hin hv
      obtain ⟨hO1, hO2, hO3, hO4⟩ := hO
      rw [ints_length] at hv
      obtain ⟨b2, o2, rfl, hb2, hc2⟩ := hin (by rw [ints_length]; exact hO1)
      have hc20 := hc2 0 (by rw [ints_length]; exact hO1)
      rw [ints_getD, Nat.add_zero] at hc20
      generalize (cls.getD j []).length = ln at *
      generalize (cls.getD j []).getD 0 0 = x at *
      have HORD := Lib.hid hO4
      have HX := Lib.hid (fitsL_false ords q j (by have := HOL.out; omega))
      clear hc hc2 hin hO4
      generalize hod : ords.getD j 0 = od at *
      have HOD := Lib.hid hod
      clear hod
      have hvw := (hbel.cell (p := ⟨b, o + j, none⟩) hblt).trans hv
      have hxw := (hbel.cell (p := ⟨b2, o2, none⟩) hb2).trans hc20
      have hcbw := (hbel.cell (p := ⟨cb, 0, none⟩) (lt_of_cell HCB.out)).trans HCB.out
      have HH := Lib.hid (HA.out.below hbel)
      have hcb2 : cb < wr.heap.size := Nat.lt_of_lt_of_le (lt_of_cell HCB.out) hbel.size
      have hb22 : b2 < wr.heap.size := Nat.lt_of_lt_of_le hb2 hbel.size
      have HXW := Lib.hid hxw
      have HCW := Lib.hid hcbw
      clear hxw hcbw hv hc20
      by_cases h0 : (q - 1) % od = 0
      all_goals
        have hq0 : (((q : Int) - 1) % (od : Int) != 0) = !decide ((q - 1) % od = 0) := by
          have e : ((q : Int) - 1) % (od : Int) = (((q - 1) % od : Nat) : Int) := by
            rw [show ((q : Int) - 1) = ((q - 1 : Nat) : Int) from by omega]; rfl
          rw [e, bne_cast]
        simp only [h0, decide_true, decide_false, Bool.not_true, Bool.not_false] at hq0
        have H0 := Lib.hid h0
        clear h0
        have ho1 : (1 : Int) ≤ (od : Int) := by omega
        have hq3 : (0 : Int) ≤ (q : Int) - 1 := by omega
        have hqw : IntKind.i64.wrap ((q : Int) - 1) = (q : Int) - 1 := IntWalk.i64_in _ (by omega)
        have hqt : ((q : Int) - 1).tmod (od : Int) = ((q : Int) - 1) % (od : Int) := Int.tmod_eq_emod_of_nonneg (by omega)
        have hod0 : ((od : Int) == 0) = false := by simp; omega
        have hodz : ¬ (od : Int) = 0 := by omega
        have hodn : ¬ od = 0 := by omega
        go_wp2
        go_region_held3 (fun w' => w'.cell? ⟨cb, 0, none⟩ = some (.pointer (some ⟨gb, 0, none⟩)) ∧ w'.cell? ⟨b2, o2, none⟩ = some (.int .i64 x))
          (first | exact ⟨HCW.out, HXW.out⟩ | exact ⟨below_cell (B := wr.heap.size) (w := wr) (by assumption) hcb2 HCW.out, below_cell (B := wr.heap.size) (w := wr) (by assumption) hb22 HXW.out⟩)
          (first | (go_at_call 53; refine (order_g HG.out x _ (HH.out.below ((Below.refl _ _).drew)) hO2 30 od (by omega) HORD.out).mono ?_; rintro e w1 ⟨rfl, hw1⟩; have hwk : Below wr.heap.size wr w1 := ((Below.refl _ _).drew).trans hw1))
        all_goals go_wp2
      · go_roundg k
        case rel =>
          refine ⟨j + 1, by omega, by go_num, hbel.trans ((by assumption : Below wr.heap.size wr _).mono hbel.size), Lib.hid ?_⟩
          intro i hi
          by_cases hij : i < j
          · exact HI.out i hij
          · obtain rfl : i = j := by omega
            rw [HOD.out]; exact H0.out
        case measure => omega
      · go_ret
        exact ⟨bool_ret (by rw [HX.out H0.out]; rfl), hbel.trans ((by assumption : Below wr.heap.size wr _).mono hbel.size)⟩


/-- The least q from here on that fits and is a prime. -/
def chooseF (ords : List Nat) : Nat → Nat → Option Nat
  | 0, _ => none
  | k + 1, q => match primeN 100 q 2 with
    | none => none
    | some p => if fitsL ords q && p then some q else chooseF ords k (q + 1)


/-- Only the cells S of block gb, and what is new, have turned. -/
structure GStep (gb : Nat) (S : Nat → Prop) (w w' : World) : Prop where
  grown : w.grownBy w' (some gb)
  lt : gb < w.heap.size
  keep : ∀ i, ¬ S i → w'.cell? ⟨gb, i, none⟩ = w.cell? ⟨gb, i, none⟩
  frz : ∀ i, w'.frozen? ⟨gb, i, none⟩ = w.frozen? ⟨gb, i, none⟩

theorem GStep.refl {gb : Nat} {S : Nat → Prop} {w : World} (h : gb < w.heap.size) : GStep gb S w w := ⟨⟨rfl, rfl, rfl, Nat.le_refl _, fun _ _ _ => rfl⟩, h, fun _ _ => rfl, fun _ => rfl⟩
theorem GStep.trans {gb : Nat} {S : Nat → Prop} {a b c : World} (h : GStep gb S a b) (k : GStep gb S b c) : GStep gb S a c :=
  ⟨⟨k.grown.os.trans h.grown.os, k.grown.tape.trans h.grown.tape, k.grown.output.trans h.grown.output, Nat.le_trans h.grown.size k.grown.size,
    fun i hi hne => (k.grown.block i (Nat.lt_of_lt_of_le hi h.grown.size) hne).trans (h.grown.block i hi hne)⟩, h.lt, fun i hi => (k.keep i hi).trans (h.keep i hi), fun i => (k.frz i).trans (h.frz i)⟩
theorem GStep.below {gb : Nat} {S : Nat → Prop} {w w' : World} (h : gb < w.heap.size) (hb : Below w.heap.size w w') : GStep gb S w w' :=
  ⟨⟨hb.os, hb.tape, hb.output, hb.size, fun k hk _ => hb.block k hk⟩, h, fun i _ => hb.cell (p := ⟨gb, i, none⟩) h, fun i => hb.frozen (p := ⟨gb, i, none⟩) h⟩
theorem cell_setCell_off (w : World) (b i j : Nat) (v : Value) (h : i ≠ j) : (w.setCell ⟨b, i, none⟩ v).cell? ⟨b, j, none⟩ = w.cell? ⟨b, j, none⟩ := by
  simp only [World.cell?, World.setCell, Array.getElem?_modify]
  cases hw : w.heap[b]? with
  | none => simp
  | some o =>
    cases o <;> simp
    rw [Array.getElem?_setIfInBounds_ne h]
theorem cell_setCell_same {w : World} {b i : Nat} {u : Value} (h : w.cell? ⟨b, i, none⟩ = some u) (v : Value) : (w.setCell ⟨b, i, none⟩ v).cell? ⟨b, i, none⟩ = some v := by
  simp only [World.cell?, World.setCell, Array.getElem?_modify] at h ⊢
  cases hw : w.heap[b]? with
  | none => simp [hw] at h
  | some o =>
    cases o <;> simp [hw] at h ⊢
    rw [Array.getElem?_setIfInBounds_self_of_lt]
    exact (Array.getElem?_eq_some_iff.1 h).1
theorem GStep.set {gb : Nat} {S : Nat → Prop} {w : World} (h : gb < w.heap.size) (i : Nat) (hi : S i) (v : Value) : GStep gb S w (w.setCell ⟨gb, i, none⟩ v) :=
  ⟨⟨rfl, rfl, rfl, by simp [World.setCell], fun k _ hne => Below.heap_setCell _ _ _ _ (fun e => hne (by rw [e]))⟩, h,
    fun j hj => cell_setCell_off w gb i j v (fun e => hj (e ▸ hi)), fun j => World.frozen?_setCell _ _ _ _⟩

theorem GStep.gat {gb : Nat} {S : Nat → Prop} {w w' : World} {eb mb cap : Nat} {els : List Nat} (h : GStep gb S w w') (hA : GAt w gb eb mb cap els) (h1 : ¬ S 1) (h2 : ¬ S 2) (hne : eb ≠ gb) (hnm : mb ≠ gb) : GAt w' gb eb mb cap els :=
  have hB : ∀ b, b < w.heap.size → b ≠ gb → w'.heap[b]? = w.heap[b]? := fun b hb hn => h.grown.block b hb (fun e => hn (by injection e))
  ⟨⟨(h.keep 1 h1).trans hA.at_.he, (h.keep 2 h2).trans hA.at_.hm, fun k i hk hi => (World.cell?_of_block (hB eb hA.he hne)).trans (hA.at_.hel k i hk hi), (hB mb hA.hm hnm).trans hA.at_.hmap⟩,
    Nat.lt_of_lt_of_le hA.hg h.grown.size, Nat.lt_of_lt_of_le hA.he h.grown.size, Nat.lt_of_lt_of_le hA.hm h.grown.size⟩

set_option maxHeartbeats 2000000 in
theorem choose_g {gb eb mb cap ccap : Nat} {els : List Nat} {ca : Option Addr} {cls : List (List Nat)} {ords : List Nat} (G : GOK els) (w : World) (h : GAt w gb eb mb cap els) (heg : eb ≠ gb) (hmg : mb ≠ gb)
    (hcls : w.cell? ⟨gb, 3, none⟩ = some (.slice ca cls.length ccap)) (hrows : RowsIn w ca (cls.map ints)) (hrg : ∀ w', GStep gb (fun i => i = 6) w w' → RowsIn w' ca (cls.map ints))
    (hcl : cls.length ≤ 24) (hords : ords.length = cls.length)
    (ho : ∀ j, j < cls.length → 0 < (cls.getD j []).length ∧ (cls.getD j []).getD 0 0 < els.length ∧ 1 ≤ ords.getD j 0 ∧ ordF els ((cls.getD j []).getD 0 0) 30 ((cls.getD j []).getD 0 0) 1 = some (ords.getD j 0))
    (d : Nat) (hd1 : d ≤ 5) (hd : w.cell? ⟨gb, 0, none⟩ = some (.int .i64 d)) (hq : ∃ q0 : Int, w.cell? ⟨gb, 6, none⟩ = some (.int .i64 q0)) (hf : w.frozen? ⟨gb, 6, none⟩ = false)
    (k q : Nat) (hk : k ≤ 900) (hp : chooseF ords k (max els.length d + 1) = some q) :
    Calls Try.prog 31 #[.pointer (some ⟨gb, 0, none⟩)] w fun e w' => e = .returned (.tuple #[]) ∧ GStep gb (fun i => i = 6) w w' ∧ w'.cell? ⟨gb, 6, none⟩ = some (.int .i64 q) := by
  have hn := G.len
  obtain ⟨q0, hq⟩ := hq
  have h1 := h.at_.he
  have hmf : ∀ (fn : Fn) (first cap : Array Value) (w : World), (Instr.makeFunc fn first cap).run Try.prog w = .ok (.func fn first cap) w := fun _ _ _ _ => rfl
  have HG := Lib.hid G
  have HA := Lib.hid h
  have HO := Lib.hid ho
  have HP := Lib.hid hp
  have HRG := Lib.hid hrg
  have HOL := Lib.hid hords
  have HCL := Lib.hid hcls
  have hgb := h.hg
  clear G h ho hp hrg hords hcls hrows
  go_enter Try.func31, Try.ntmps31
  go_wp2
  go_region
  rw [show ((if els.length < d then (d : Int) else (els.length : Int)) + 1) = ((max els.length d + 1 : Nat) : Int) from by split <;> omega]
  generalize (if els.length < d then (d : Int) else (els.length : Int)) = mx
  have hg0 : GStep gb (fun i => i = 6) w ((w.setCell ⟨gb, 6, none⟩ (.int .i64 ((max els.length d + 1 : Nat) : Int))).alloc (.cells #[.pointer (some ⟨gb, 0, none⟩)] 38)).drew :=
    ((GStep.set (S := fun i => i = 6) hgb 6 rfl _).trans (GStep.below (by simpa [World.setCell] using hgb) (((Below.refl _ _).alloc (Nat.le_refl _) _).drew)))
  have hmx : max els.length d + 1 ≤ 26 := by omega
  have hm1 : 1 ≤ max els.length d + 1 := by omega
  have hq6 := hq
  have HG0 := Lib.hid hg0
  clear hg0 hq
  generalize max els.length d + 1 = m at *
  go_wp2
  go_loopg [24] k (fun k _ wr => GStep gb (fun i => i = 6) w wr ∧ wr.cell? ⟨w.heap.size, 0, none⟩ = some (.pointer (some ⟨gb, 0, none⟩)) ∧ w.heap.size < wr.heap.size ∧
    ∃ q' : Nat, 1 ≤ q' ∧ q' + k ≤ 930 ∧ wr.cell? ⟨gb, 6, none⟩ = some (.int .i64 q') ∧ Hid (chooseF ords k q' = some q))
  case atStart =>
    refine ⟨HG0.out, ?_, by simp, m, ?_, by omega, ?_, HP⟩
    · go_simp
    · exact hm1
    · have hlt6 := lt_of_cell hq6
      rw [World.cell?_drew, World.cell?_alloc_past _ _ _ (by simpa [World.setCell] using hgb)]
      exact cell_setCell_same hq6 _
  case round =>
    obtain ⟨hgs, hcb, hcs, q', hq1, hqk, hqc, HI⟩ := hrel
    have hfr := (hgs.frz 6).trans hf
    have hgs' : gb < wr.heap.size := Nat.lt_of_lt_of_le hgs.lt hgs.grown.size
    have hi := HI.out
    clear HI HP h1 hd
    cases gk with
    | zero => simp [chooseF] at hi
    | succ k =>
      simp only [chooseF] at hi
      cases hpr : primeN 100 q' 2 with
      | none => rw [hpr] at hi; simp at hi
      | some p =>
        rw [hpr] at hi
        simp only at hi
        have HH := Lib.hid (hgs.gat HA.out (by simp) (by simp) heg hmg)
        have HC3 := Lib.hid ((hgs.keep 3 (by simp)).trans HCL.out)
        have HRR := Lib.hid (HRG.out wr hgs)
        have HPR := Lib.hid hpr
        have HCB := Lib.hid hcb
        clear hpr
        cases hft : (fitsL ords q' && p) with
        | true =>
          rw [hft] at hi
          have HI := Lib.hid hi
          have HFT := Lib.hid hft
          clear hi hft
          go_wp2_with (go_at_call 52; refine (fits_g HG.out q' _ HH.out HCB.out HC3.out HRR.out hcl hq1 (by omega) HOL.out HO.out 100 p HPR.out true HFT.out).mono ?_; rintro e w1 ⟨rfl, hw1⟩)
          go_end0
          refine ⟨rfl, hgs.trans (GStep.below hgs' hw1), (hw1.cell (p := ⟨gb, 6, none⟩) hgs').trans ?_⟩
          rw [hqc]
          have := HI.out
          simp at this
          rw [this]
        | false =>
          rw [hft] at hi
          have HI := Lib.hid hi
          have HFT := Lib.hid hft
          clear hi hft
          go_wp2_with (go_at_call 52; refine (fits_g HG.out q' _ HH.out HCB.out HC3.out HRR.out hcl hq1 (by omega) HOL.out HO.out 100 p HPR.out false HFT.out).mono ?_; rintro e w1 ⟨rfl, hw1⟩; have hcb1 := below_cell hw1 hcs hcb; have hqc1 := below_cell hw1 hgs' hqc; have hfr1 : w1.frozen? ⟨gb, 6, none⟩ = false := (hw1.frozen (p := ⟨gb, 6, none⟩) hgs').trans hfr)
          go_roundg k
          case rel =>
            have hgs1 := hgs.trans (GStep.below hgs' hw1)
            have hgl1 : gb < w1.heap.size := Nat.lt_of_lt_of_le hgs' hw1.size
            refine ⟨hgs1.trans (GStep.set (S := fun i => i = 6) hgl1 6 rfl _), ?_, ?_, q' + 1, by omega, by omega, ?_, ?_⟩
            · rw [World.cell?_setCell_far _ _ _ _ (by show gb ≠ w.heap.size; omega)]; exact hcb1
            · simp [World.setCell]; exact Nat.lt_of_lt_of_le hcs hw1.size
            · rw [cell_setCell_same hqc1 _]; go_num
            · refine Lib.hid ?_
              have := HI.out
              simpa using this
          case measure => omega

end Go.Proofs.Ytnejjgolmikplaa
