/- The walks of (*group).plus and image: vectors modulo the prime. -/
import Derived.Test.YtnejjgolmikplaaElements
import Derived.Test.YtnejjgolmikplaaShelf2
namespace Go.Proofs.Ytnejjgolmikplaa
open Go.RowKit Go.Proofs

theorem ownsRow_set {w : World} {B e n g cap i : Nat} {xs : List Value} (h : w.ownsRow B e 1 (.slice (some ⟨g, 0, none⟩) n cap) n xs) (hi : i < n) (u : Value) :
    (w.setCell ⟨g, i, none⟩ u).ownsRow B e 1 (.slice (some ⟨g, 0, none⟩) n cap) n (xs.set i u) := by
  refine ⟨by simpa using h.1, ?_⟩
  rcases h.2 with ⟨h0, _⟩ | ⟨g', cap', cur, hv, hB, hg, h1, h2, h3, h4⟩
  · cases h0
  · obtain ⟨rfl, rfl⟩ : g = g' ∧ cap = cap' := by simpa using hv
    refine .inr ⟨g, cap, cur.setIfInBounds i u, rfl, hB, ?_, h1, h2, by simpa using h3, ?_⟩
    · simp only [World.setCell, Array.getElem?_modify, if_true, hg, Option.map_some]
      rfl
    · rw [Array.toList_setIfInBounds, List.take_set, h4]

/-- v and k times w, modulo q. -/
def plusF (q : Nat) (vs : List Nat) (k : Int) (ws : List Nat) : List Nat := (List.range vs.length).map fun i => (((vs.getD i 0 : Nat) + k * (ws.getD i 0 : Nat)) % (q : Int)).toNat

/-- The first i of a new list, the others of an old one. -/
def mixAt (a b : List Nat) (i : Nat) : List Nat := a.take i ++ b.drop i

theorem mixAt_set (a b : List Nat) (i : Nat) (ha : i < a.length) (hb : i < b.length) : (mixAt a b i).set i (a.getD i 0) = mixAt a b (i + 1) := by
  unfold mixAt
  rw [List.set_append_right _ _ (by simp; omega), List.take_add_one, List.getElem?_eq_getElem ha, List.getD_eq_getElem?_getD, List.getElem?_eq_getElem ha]
  simp only [List.length_take, Nat.min_eq_left (Nat.le_of_lt ha), Nat.sub_self, Option.getD_some, Option.toList_some, List.append_assoc, List.cons_append, List.nil_append]
  rw [List.drop_eq_getElem_cons hb]
  rfl

theorem mixAt_getD (a b : List Nat) (i : Nat) (ha : i < a.length) : (mixAt a b i).getD i 0 = b.getD i 0 := by
  unfold mixAt
  rw [List.getD_eq_getElem?_getD, List.getElem?_append_right (by simp; omega)]
  simp [Nat.min_eq_left (Nat.le_of_lt ha), List.getD_eq_getElem?_getD]

theorem mod_nat (q : Nat) (n : Int) (hq : 1 ≤ q) : n % (q : Int) = ((n % (q : Int)).toNat : Nat) := by
  have := Int.emod_nonneg n (show (q : Int) ≠ 0 by omega)
  omega

theorem plusF_length (q : Nat) (vs : List Nat) (k : Int) (ws : List Nat) : (plusF q vs k ws).length = vs.length := by simp [plusF]
theorem plusF_get (q : Nat) (vs : List Nat) (k : Int) (ws : List Nat) (i : Nat) (h : i < vs.length) : (plusF q vs k ws).getD i 0 = (((vs.getD i 0 : Nat) + k * (ws.getD i 0 : Nat)) % (q : Int)).toNat := by
  rw [List.getD_eq_getElem?_getD, List.getElem?_eq_getElem (by rw [plusF_length]; exact h)]
  simp [plusF]

theorem mixAt_length (a b : List Nat) (i : Nat) (h : a.length = b.length) : (mixAt a b i).length = b.length := by simp [mixAt]; omega

theorem iv_set_nat (l : List Nat) (i x : Nat) : (iv (ints l)).set i (.int .i64 ((x : Nat) : Int)) = iv (ints (l.set i x)) := by simp [iv, ints, List.map_set]

theorem iv_ints_get (l : List Nat) (i : Nat) (h : i < l.length) : (iv (ints l))[i]? = some (.int .i64 ((l.getD i 0 : Nat) : Int)) := by
  rw [iv_get _ _ (by rw [ints_length]; exact h), ints_getD]

set_option maxHeartbeats 4000000 in
set_option maxRecDepth 100000 in
theorem plus_g (gb q : Nat) (va wa : Option Addr) (vc wc : Nat) (vs ws : List Nat) (n : Nat) (k : Int) (w : World) (hq1 : 1 ≤ q) (hq2 : q ≤ 1000) (hn1 : vs.length = n) (hn2 : ws.length = n) (hp : 0 < n) (hl : n ≤ 24)
    (hvq : ∀ i, i < n → vs.getD i 0 ≤ 1000) (hwq : ∀ i, i < n → ws.getD i 0 ≤ 1000) (hk1 : -1000000 ≤ k) (hk2 : k ≤ 1000000) (hv : IntsIn w va (ints vs)) (hw : IntsIn w wa (ints ws)) (hc : w.cell? ⟨gb, 6, none⟩ = some (.int .i64 q)) :
    Calls Try.prog 55 #[.pointer (some ⟨gb, 0, none⟩), .slice va n vc, .int .i64 k, .slice wa n wc] w fun e w' =>
      ∃ g cap, e = .returned (.slice (some ⟨g, 0, none⟩) n cap) ∧ w'.ownsRow w.heap.size 3 1 (.slice (some ⟨g, 0, none⟩) n cap) n (iv (ints (plusF q vs k ws))) ∧ Below w.heap.size w w' := by
  obtain ⟨vb, vo, rfl, hvb, hvc⟩ := hv (by rw [ints_length]; omega)
  obtain ⟨wb, wo, rfl, hwb, hwc⟩ := hw (by rw [ints_length]; omega)
  rw [ints_length, hn1] at hvc
  rw [ints_length, hn2] at hwc
  obtain ⟨i3, hi3⟩ := info_parts (by kernel_rfl : (Try.prog.info? 3).map (fun i => (i.zero, i.size, i.bytes)) = some (some (.int .i64 0), 1, 8))
  have hclone := AnyE.slices_Clone Try.laysCloneV i3 (.int .i64 0) 1 8 hi3.1 hi3.2.1 hi3.2.2.1 hi3.2.2.2 rfl (by omega) sz3 vb vo n vc (iv (ints vs)) w (by rw [iv_length, ints_length]; omega) (by unfold maxLen; omega) (by omega)
    (fun j u hj => by
      have hjl : j < n := by
        rcases Nat.lt_or_ge j n with h | h
        · exact h
        · rw [List.getElem?_eq_none (by rw [iv_length, ints_length]; omega)] at hj; cases hj
      rw [iv_ints_get _ _ (by omega)] at hj
      rw [hvc j hjl, ints_getD]; exact hj) (fun u hu => by simp only [iv, List.mem_map] at hu; obtain ⟨x, _, rfl⟩ := hu; rfl)
  change Calls Try.prog 80 _ _ _ at hclone
  have HCL := Lib.hid hclone
  have HWC := Lib.hid hwc
  have HC := Lib.hid hc
  have HVQ := Lib.hid hvq
  have HWQ := Lib.hid hwq
  have hgl := lt_of_cell hc
  have HN1 := Lib.hid hn1
  have HN2 := Lib.hid hn2
  clear hclone hvc hwc hc hi3 hv hw hvq hwq hn1 hn2
  go_enter Try.func55, Try.ntmps55
  go_wp2_with fail
  refine HCL.out.mono ?_
  rintro e w1 ⟨v1, rfl, hown1, -, hb1⟩
  obtain ⟨g, cap, rfl, hgB, hg1⟩ := hown1.form (by omega)
  clear HCL
  have hown1' : w1.ownsRow w.heap.size 3 1 (.slice (some ⟨g, 0, none⟩) n cap) n (iv (ints vs)) := hown1
  have HOWN1 := Lib.hid hown1'
  clear hown1'
  clear hown1
  go_wp2_with fail
  go_loopg [16] n (fun m iv0 wr => ∃ i : Nat, i + m = n ∧ iv0 = .int .i64 i ∧ wr.ownsRow w.heap.size 3 1 (.slice (some ⟨g, 0, none⟩) n cap) n (iv (ints (mixAt (plusF q vs k ws) vs i))) ∧ Below w.heap.size w wr)
  case atStart => exact ⟨0, by omega, rfl, by unfold mixAt; simpa using HOWN1.out, hb1⟩
  case round =>
    obtain ⟨i, him, rfl, hown, hbr⟩ := hrel
    cases gm : gk with
    | zero =>
      subst gm
      have hfin : mixAt (plusF q vs k ws) vs i = plusF q vs k ws := by
        unfold mixAt
        rw [List.take_of_length_le (by rw [plusF_length, HN1.out]; omega), List.drop_of_length_le (by rw [HN1.out]; omega), List.append_nil]
      rw [hfin] at hown
      go_wp2_with fail
      exact bodyPost_ret (v := .slice (some ⟨g, 0, none⟩) n cap) (by simp [results, Try.results55, go_sem]) rfl ⟨g, cap, rfl, hown, hbr⟩
    | succ m =>
      subst gm
      have hil : i < n := by omega
      have hw1 := below_cell hbr hwb (HWC.out i (by omega))
      rw [ints_getD] at hw1
      have hgi : wr.cell? ⟨g, i, none⟩ = some (.int .i64 (vs.getD i 0 : Nat)) := by
        rw [hown.cellAt i (by omega), iv_ints_get _ _ (by rw [mixAt_length _ _ _ (plusF_length ..), HN1.out]; exact hil), mixAt_getD _ _ _ (by rw [plusF_length, HN1.out]; exact hil)]
      have hv2 := HVQ.out i hil
      have hw2 := HWQ.out i hil
      have hset := mixAt_set (plusF q vs k ws) vs i (by rw [plusF_length, HN1.out]; exact hil) (by rw [HN1.out]; exact hil)
      rw [plusF_get _ _ _ _ _ (by rw [HN1.out]; exact hil)] at hset
      have HSET := Lib.hid hset
      have hcr := below_cell hbr hgl HC.out
      have HOWN := Lib.hid hown
      clear hset hown
      generalize vs.getD i 0 = x at *
      generalize ws.getD i 0 = y at *
      have hxy : -1000000000 ≤ k * (y : Int) ∧ k * (y : Int) ≤ 1000000000 := by
        constructor
        · have h1 : (-1000000) * (y : Int) ≤ k * (y : Int) := Int.mul_le_mul_of_nonneg_right hk1 (by omega)
          omega
        · have h1 : k * (y : Int) ≤ 1000000 * (y : Int) := Int.mul_le_mul_of_nonneg_right hk2 (by omega)
          omega
      have hmod := mod_q q gb ((x : Int) + k * (y : Int)) wr hq1 hq2 (by omega) (by omega) hcr
      have hmn := mod_nat q ((x : Int) + k * (y : Int)) hq1
      rw [hmn] at hmod
      generalize (((x : Int) + k * (y : Int)) % (q : Int)).toNat = r at *
      have HM := Lib.hid hmod
      clear hmod hmn hcr
      go_wp2_with fail
      refine HM.out.mono ?_
      rintro e w2 ⟨rfl, kq, hw2e⟩
      have hown2 : w2.ownsRow w.heap.size 3 1 (.slice (some ⟨g, 0, none⟩) n cap) n (iv (ints (mixAt (plusF q vs k ws) vs i))) := by rw [hw2e]; exact HOWN.out
      have hg2 : w2.cell? ⟨g, i, none⟩ = some (.int .i64 (x : Nat)) := by rw [hw2e]; exact hgi
      have hf2 : w2.frozen? ⟨g, i, none⟩ = false := by
        rcases hown2.2 with ⟨h0, _⟩ | ⟨g', cap', cur, hv', _, hgg, _⟩
        · cases h0
        · obtain ⟨rfl, rfl⟩ : g = g' ∧ cap = cap' := by simpa using hv'
          exact frozen_of_row w2 g i _ _ hgg
      have hb2 : Below w.heap.size w w2 := by rw [hw2e]; exact ⟨hbr.os, hbr.tape, hbr.output, hbr.size, hbr.block⟩
      have HOWN2 := Lib.hid hown2
      clear hown2 hw2e hgi HOWN HM
      go_wp2_with fail
      go_roundg m
      case rel =>
        refine ⟨i + 1, by omega, by go_num, ?_, ?_⟩
        · have := ownsRow_set HOWN2.out hil (.int .i64 ((r : Nat) : Int))
          rw [iv_set_nat, HSET.out] at this
          exact this
        · exact hb2.setCell (by omega) _
      case measure => omega

end Go.Proofs.Ytnejjgolmikplaa
