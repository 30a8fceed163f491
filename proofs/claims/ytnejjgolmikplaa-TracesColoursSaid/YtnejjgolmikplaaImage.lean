/- The walk of (*group).image: a matrix times a vector. -/
import Derived.Test.YtnejjgolmikplaaVec
namespace Go.Proofs.Ytnejjgolmikplaa
open Go.RowKit Go.Proofs

def dotTo (r v : List Nat) (n : Nat) : Nat := ((List.range n).map fun i => r.getD i 0 * v.getD i 0).sum
def imageF (q : Nat) (m : List (List Nat)) (v : List Nat) : List Nat := m.map fun r => dotTo r v r.length % q

theorem dotTo_succ (r v : List Nat) (n : Nat) : dotTo r v (n + 1) = dotTo r v n + r.getD n 0 * v.getD n 0 := by simp [dotTo, List.range_succ]
theorem dotTo_le (r v : List Nat) (hr : ∀ i, r.getD i 0 ≤ 1000) (hv : ∀ i, v.getD i 0 ≤ 1000) : ∀ n, dotTo r v n ≤ n * 1000000
  | 0 => by simp [dotTo]
  | n + 1 => by
    have := dotTo_le r v hr hv n
    have h2 : r.getD n 0 * v.getD n 0 ≤ 1000 * 1000 := Nat.mul_le_mul (hr n) (hv n)
    rw [dotTo_succ]; omega

set_option maxHeartbeats 4000000 in
set_option maxRecDepth 100000 in
theorem image_g (gb q : Nat) (ma va : Option Addr) (mc vc n : Nat) (mm : List (List Nat)) (vs : List Nat) (w : World) (hq1 : 1 ≤ q) (hq2 : q ≤ 1000) (hm : mm.length ≤ 24) (hr : ∀ j, j < mm.length → (mm.getD j []).length = n) (hn : n ≤ 24) (hn1 : vs.length = n)
    (hmq : ∀ j i, (mm.getD j []).getD i 0 ≤ 1000) (hvq : ∀ i, vs.getD i 0 ≤ 1000) (hM : RowsIn w ma (mm.map ints)) (hv : IntsIn w va (ints vs)) (hc : w.cell? ⟨gb, 6, none⟩ = some (.int .i64 q)) :
    Calls Try.prog 56 #[.pointer (some ⟨gb, 0, none⟩), .slice ma mm.length mc, .slice va n vc] w fun e w' =>
      ∃ v', e = .returned v' ∧ w'.ownsRow w.heap.size 3 1 v' mm.length (iv (ints (imageF q mm vs))) ∧ Below w.heap.size w w' := by
  obtain ⟨i3, hi3⟩ := info_parts (by kernel_rfl : (Try.prog.info? 3).map (fun i => (i.zero, i.size, i.bytes)) = some (some (.int .i64 0), 1, 8))
  have HI3 := Lib.hid hi3
  have HM := Lib.hid hM
  have HV := Lib.hid hv
  have HC := Lib.hid hc
  have HR := Lib.hid hr
  have HMQ := Lib.hid hmq
  have HVQ := Lib.hid hvq
  have HN1 := Lib.hid hn1
  have hgl := lt_of_cell hc
  clear hi3 hM hv hc hr hmq hvq hn1
  go_enter Try.func56, Try.ntmps56
  go_wp2_with fail
  go_loopg [7, 15] mm.length (fun k ov iv0 wr => ∃ j : Nat, j + k = mm.length ∧ iv0 = .int .i64 j ∧ wr.ownsRow w.heap.size 3 1 ov j (iv (ints ((imageF q mm vs).take j))) ∧ Below w.heap.size w wr)
  case atStart => exact ⟨0, by omega, rfl, World.ownsRow_nil _ _ _ _, Below.refl _ _⟩
  case round =>
    obtain ⟨j, hjk, rfl, hown, hbr⟩ := hrel
    have hsr := hbr.size
    cases gm : gk with
    | zero =>
      subst gm
      obtain rfl : j = mm.length := by omega
      rw [List.take_of_length_le (by simp [imageF])] at hown
      have HOWN := Lib.hid hown
      clear hown
      go_wp2_with fail
      exact bodyPost_ret (by simp [results, Try.results56, go_sem]) rfl ⟨_, rfl, HOWN.out, hbr⟩
    | succ m =>
      subst gm
      have hjl : j < mm.length := by omega
      obtain ⟨mb, mo, rfl, hmb, hmr⟩ := HM.out.row (by simpa using (by omega : 0 < mm.length))
      obtain ⟨ra, rc, hrc, hri⟩ := hmr j (by simpa using hjl)
      rw [rows_getD, ints_length] at hrc
      rw [rows_getD] at hri
      have hrl := HR.out j hjl
      rw [hrl] at hrc
      have hrc' := below_cell hbr hmb hrc
      have hsn : (imageF q mm vs).take (j + 1) = (imageF q mm vs).take j ++ [dotTo (mm.getD j []) vs n % q] := by
        rw [List.take_add_one]
        congr 1
        rw [← hrl]
        simp [imageF, List.getElem?_eq_getElem hjl, List.getD_eq_getElem?_getD]
      have hrq := HMQ.out j
      have HSN := Lib.hid hsn
      have HOWN := Lib.hid hown
      have HRI := Lib.hid (hri.below hbr)
      have HVI := Lib.hid (HV.out.below hbr)
      have HRQ := Lib.hid hrq
      have HRL := Lib.hid hrl
      clear hsn hown hri hrq hmr hrc hrl
      generalize (imageF q mm vs).take j = done at *
      generalize mm.getD j [] = r at *
      go_wp2_with fail
      obtain ⟨wo, hwo⟩ : ∃ wo : World, wo = wr := ⟨_, rfl⟩
      subst hwo
      go_loopg [10, 21] n (fun k sv iv0 wr => ∃ i : Nat, i + k = n ∧ iv0 = .int .i64 i ∧ sv = .int .i64 ((dotTo r vs i : Nat) : Int) ∧ wr = wo)
      case atStart => exact ⟨0, by omega, rfl, rfl, rfl⟩
      case round =>
        obtain ⟨i, hik, rfl, rfl, rfl⟩ := hrel
        have hdl := dotTo_le r vs HRQ.out HVQ.out i
        cases gm2 : gk with
        | zero =>
          subst gm2
          obtain rfl : i = n := by omega
          generalize hS : dotTo r vs i = S at *
          have hmod := mod_q q gb (S : Int) wr hq1 hq2 (by omega) (by omega) (below_cell hbr hgl HC.out)
          rw [show ((S : Int) % (q : Int)) = ((S % q : Nat) : Int) from by simp] at hmod
          have HMO := Lib.hid hmod
          have HS := Lib.hid hS
          clear hmod hS
          generalize hT : S % q = T at *
          have HT := Lib.hid hT
          clear hT
          go_wp2_with fail
          refine HMO.out.mono ?_
          rintro e w2 ⟨rfl, kq, hw2e⟩
          have hb2 : Below wr.heap.size wr w2 := by rw [hw2e]; exact ⟨rfl, rfl, rfl, Nat.le_refl _, fun _ _ => rfl⟩
          have hown2 := ownsRow_below HOWN.out hb2
          have HOWN2 := Lib.hid hown2
          have hs2 := hb2.size
          have hbw2 := hbr.trans (hb2.mono hsr)
          clear hown2 hw2e
          go_wp2_with (at_builtin; refine wpList_append_lies _ rfl (.tmp 35) (.tmp 39) 51 rfl w.heap.size 3 i3 (.int .i64 0) 1 8 Try.underlying51 HI3.out.1 HI3.out.2.1 HI3.out.2.2.1 HI3.out.2.2.2 rfl (by omega) u7 j (iv (ints done)) rfl (HOWN2.out.alloc _) ⟨w2.heap.size, 0, none⟩ 1 1 [.int .i64 T] rfl rfl (World.news_of_block (heap_alloc_new w2 _)) (by simp [Value.oneCell']) (by omega) (by unfold maxLen; omega) (by omega) (by simp; omega) (w2.heap.size + 1) (by simp) ?_; intro g8 cap8 w8 hown8 hgrow8 hat8 hlt8)
          go_roundg m
          case rel =>
            refine ⟨j + 1, by omega, by go_num, ?_, ?_⟩
            · rw [HSN.out, show iv (ints (done ++ [T])) = iv (ints done) ++ [.int .i64 (T : Nat)] from by simp [iv, ints]]
              exact hown8
            · exact (hbw2.alloc (by omega) _).grown hgrow8 (by simp; omega) (fun k hk => (HOWN2.out.lt k hk).1)
          case measure => omega
        | succ m2 =>
          subst gm2
          have hin : i < n := by omega
          obtain ⟨rb, ro, rfl, hrb, hrcells⟩ := HRI.out (by rw [ints_length, HRL.out]; omega)
          obtain ⟨vb, vo, rfl, hvb, hvcells⟩ := HVI.out (by rw [ints_length, HN1.out]; omega)
          have hr1 := hrcells i (by rw [ints_length, HRL.out]; omega)
          have hv1 := hvcells i (by rw [ints_length, HN1.out]; omega)
          rw [ints_getD] at hr1 hv1
          have hsu := dotTo_succ r vs i
          have HSU := Lib.hid hsu
          have hx := HRQ.out i
          have hy := HVQ.out i
          clear hrcells hvcells hsu
          generalize dotTo r vs i = S at *
          generalize r.getD i 0 = x at *
          generalize vs.getD i 0 = y at *
          have hxy : (0 : Int) ≤ (x : Int) * (y : Int) ∧ (x : Int) * (y : Int) ≤ 1000000 := by
            have h1 : x * y ≤ 1000 * 1000 := Nat.mul_le_mul hx hy
            have : ((x * y : Nat) : Int) = (x : Int) * (y : Int) := by push_cast; rfl
            omega
          go_wp2_with fail
          go_roundg m2
          case rel => exact ⟨i + 1, by omega, by go_num, by rw [HSU.out]; push_cast; rfl, rfl⟩
          case measure => omega
end Go.Proofs.Ytnejjgolmikplaa
