/- The walk of (*group).table. -/
import Derived.Test.YtnejjgolmikplaaFun
import Derived.Test.YtnejjgolmikplaaConst
import Derived.Test.YtnejjgolmikplaaTabSort
namespace Go.Proofs.Ytnejjgolmikplaa
open Go.RowKit Go.Proofs

def okVecB (n : Nat) (v : List Nat) : Bool := Nat.beq v.length n && v.all (fun x => Nat.ble x 1000)
def okSpB (n : Nat) (s : List (List Nat)) : Bool := (Nat.blt 0 s.length && Nat.ble s.length 24) && s.all (okVecB n)
def okMatB (n : Nat) (mm : List (List Nat)) : Bool := Nat.beq mm.length n && mm.all (okVecB n)

theorem okVecB_le {n : Nat} {v : List Nat} (h : okVecB n v = true) : v.length = n ∧ ∀ i, v.getD i 0 ≤ 1000 := by
  simp only [okVecB, Bool.and_eq_true, List.all_eq_true] at h
  refine ⟨Nat.eq_of_beq_eq_true h.1, fun i => ?_⟩
  by_cases hi : i < v.length
  · rw [List.getD_eq_getElem?_getD, List.getElem?_eq_getElem hi]
    exact Nat.le_of_ble_eq_true (h.2 _ (List.getElem_mem hi))
  · rw [List.getD_eq_getElem?_getD, List.getElem?_eq_none (by omega)]; exact Nat.zero_le _
theorem getD_memL {α : Type} [Inhabited α] (l : List α) (j : Nat) (h : j < l.length) : l.getD j default ∈ l := by
  rw [List.getD_eq_getElem?_getD, List.getElem?_eq_getElem h]; exact List.getElem_mem h
theorem okSpB_get {n : Nat} {s : List (List Nat)} (h : okSpB n s = true) : 0 < s.length ∧ s.length ≤ 24 ∧ VecsOK n s := by
  simp only [okSpB, Bool.and_eq_true, List.all_eq_true, Nat.blt_eq] at h
  exact ⟨h.1.1, Nat.le_of_ble_eq_true h.1.2, ⟨fun j hj => (okVecB_le (h.2 _ (getD_memL s j hj))).1, fun j hj => (okVecB_le (h.2 _ (getD_memL s j hj))).2⟩⟩
theorem okMatB_get {n : Nat} {mm : List (List Nat)} (h : okMatB n mm = true) : MatOK n mm := by
  simp only [okMatB, Bool.and_eq_true, List.all_eq_true] at h
  have hl := Nat.eq_of_beq_eq_true h.1
  refine ⟨hl, fun j hj => (okVecB_le (h.2 _ (getD_memL mm j (by omega)))).1, fun j => ?_⟩
  by_cases hj : j < mm.length
  · exact (okVecB_le (h.2 _ (getD_memL mm j hj))).2
  · intro i
    have e : mm.getD j [] = [] := by rw [List.getD_eq_getElem?_getD, List.getElem?_eq_none (by omega)]; rfl
    rw [e]; simp

def unitF (n : Nat) : List (List Nat) := (List.range n).map fun c => (List.replicate n 0).set c 1
def splitsF (q n : Nat) (mm : List (List Nat)) : List (List (List Nat)) → List (List (List Nat)) → Option (List (List (List Nat)))
  | [], acc => some acc
  | s :: ss, acc => match splitF q mm s with
    | none => none
    | some r => if (Nat.ble (acc.length + r.length) 24 && Nat.blt 0 r.length) && r.all (okSpB n) then splitsF q n mm ss (acc ++ r) else none
def spacesF (q n : Nat) (els : List Nat) : Nat → Nat → List (List (List Nat)) → Option (List (List (List Nat)))
  | 0, _, sp => some sp
  | k + 1, c, sp => if okMatB n (constF els c) then (match splitsF q n (constF els c) sp [] with
    | none => none
    | some next => spacesF q n els k (c + 1) next) else none
def funsF (q n nel : Nat) (cls : List (List Nat)) (back : List Int) : List (List (List Nat)) → List (List Nat) → Option (List (List Nat))
  | [], acc => some acc
  | s :: ss, acc => match functionF q nel cls back (s.getD 0 default) with
    | none => none
    | some f => if Nat.ble acc.length 24 && okVecB n f then funsF q n nel cls back ss (acc ++ [f]) else none
def nodupB : List (List Nat) → Bool
  | [] => true
  | x :: l => !l.elem x && nodupB l
theorem nodupB_get : ∀ {l : List (List Nat)}, nodupB l = true → l.Nodup
  | [], _ => List.nodup_nil
  | x :: l, h => by
    simp only [nodupB, Bool.and_eq_true, Bool.not_eq_true'] at h
    refine List.nodup_cons.2 ⟨fun hm => ?_, nodupB_get h.2⟩
    rw [List.elem_eq_true_of_mem hm] at h
    cases h.1
/-- The functions, in the order in which they are found. -/
def tabRaw (q n nel : Nat) (els : List Nat) (cls : List (List Nat)) (back : List Int) : Option (List (List Nat)) :=
  match spacesF q n els n 0 [unitF n] with
  | none => none
  | some sp => match funsF q n nel cls back sp [] with
    | none => none
    | some out => if (Nat.blt 0 out.length && Nat.ble out.length 24) && (nodupB out && out.all (okVecB n)) then some out else none
def tableF (els : List Nat) (q : Nat) : Option (List (List Nat)) := tabRaw q (clsOf els).2.length els.length els (clsOf els).2 (backOf els (clsOf els).1 (clsOf els).2)

theorem OwnV.pushN {α : Type} [Inhabited α] {R : Holdr α} (hR : Keeps R) {W w' : World} {B : Nat} {T : TypeId} {bad : Nat → Prop} {ov : Value} {vals us : List Value} {l xs : List α} {g cap : Nat} (h : OwnV R W B T bad ov vals l) (hlu : us.length = xs.length) (hx : ∀ j, j < xs.length → R W bad (us.getD j default) (xs.getD j default))
    (hown' : w'.ownsRow B T 1 (.slice (some ⟨g, 0, none⟩) (l.length + xs.length) cap) (l.length + xs.length) (vals ++ us)) (hgrow : W.grownBy w' ov.ownBlock) (hat : ov.ownBlock = some g ∨ W.heap.size ≤ g) :
    OwnV R w' B T (fun k => (Value.slice (some ⟨g, 0, none⟩) (l.length + xs.length) cap).ownBlock = some k) (.slice (some ⟨g, 0, none⟩) (l.length + xs.length) cap) (vals ++ us) (l ++ xs) := by
  have hlen := h.len
  rw [own_eq]
  have hkp : ∀ v y, R W bad v y → R w' (fun k => k = g) v y := fun v y hr => hR W w' bad _ v y hgrow.size
    (fun k hk hn => hgrow.block k hk (fun e => hn (h.isBad k e.symm))) (fun k hk e => by
      subst e
      rcases hat with hat | hat
      · exact h.isBad k hat
      · omega) hr
  refine ⟨by rw [List.length_append]; exact hown', fun k hk => ?_, fun j hj => ?_⟩
  · have : some g = some k := hk
    injection this with this
    exact this.symm
  · by_cases hjl : j < l.length
    · have e1 : (vals ++ us).getD j default = vals.getD j default := by simp [List.getD_eq_getElem?_getD, List.getElem?_append_left (show j < vals.length by omega)]
      have e2 : (l ++ xs).getD j default = l.getD j default := by simp [List.getD_eq_getElem?_getD, List.getElem?_append_left hjl]
      rw [e1, e2]
      exact hkp _ _ (h.all j hjl)
    · have e1 : (vals ++ us).getD j default = us.getD (j - l.length) default := by simp [List.getD_eq_getElem?_getD, List.getElem?_append_right (show vals.length ≤ j by omega), hlen]
      have e2 : (l ++ xs).getD j default = xs.getD (j - l.length) default := by simp [List.getD_eq_getElem?_getD, List.getElem?_append_right (show l.length ≤ j by omega)]
      rw [e1, e2]
      exact hkp _ _ (hx _ (by simp at hj; omega))

theorem unitF_snoc (n c : Nat) (h : c < n) : (unitF n).take (c + 1) = (unitF n).take c ++ [(List.replicate n 0).set c 1] := by
  have hl : c < (unitF n).length := by simp [unitF]; exact h
  rw [List.take_add_one, List.getElem?_eq_getElem hl]
  simp [unitF]

set_option maxHeartbeats 4000000 in
set_option maxRecDepth 100000 in
theorem table_gr {gb d q : Nat} {els : List Nat} (G : GOK els) (K : ClsOK els) (w : World) (h : GrpAt w gb d els q) (hq1 : 1 ≤ q) (hq2 : q ≤ 1000)
    (hback : ∀ j, j < (clsOf els).2.length → 0 ≤ (backOf els (clsOf els).1 (clsOf els).2).getD j 0 ∧ (backOf els (clsOf els).1 (clsOf els).2).getD j 0 < ((clsOf els).2.length : Int))
    (out : List (List Nat)) (hr : tableF els q = some out) :
    Calls Try.prog 19 #[.pointer (some ⟨gb, 0, none⟩)] w fun e w' => ∃ v', e = .returned v' ∧ HRows w' noBad v' (sortV out) ∧ Below w.heap.size w w' := by
  have hmk := fun W => run_make_row' (P := Try.prog) 51 3 (.int .i64 0) 8 Try.underlying51 (by kernel_rfl) rfl .i64 .i64 (clsOf els).2.length (by have := K.few; omega) (by have := K.few; omega) W
  obtain ⟨i49, hi49⟩ := info_parts (by kernel_rfl : (Try.prog.info? 49).map (fun i => (i.zero, i.size, i.bytes)) = some (some (.slice none 0 0), 1, 24))
  obtain ⟨i51, hi51⟩ := info_parts (by kernel_rfl : (Try.prog.info? 51).map (fun i => (i.zero, i.size, i.bytes)) = some (some (.slice none 0 0), 1, 24))
  have HI49 := Lib.hid hi49
  have HI51 := Lib.hid hi51
  have HGRP := Lib.hid h
  obtain ⟨-, -, ⟨ca, cc, h3, -⟩, -, -, h6, hgl⟩ := h
  have HG := Lib.hid G
  have HK := Lib.hid K
  have HBACK := Lib.hid hback
  have hfew := K.few
  have hpos := K.pos
  have hR := hr
  unfold tableF tabRaw at hR
  clear hr hback hi49 hi51 G K
  generalize hn : (clsOf els).2.length = n at *
  have HN := Lib.hid hn
  clear hn
  cases hsp : spacesF q n els n 0 [unitF n] with
  | none => rw [hsp] at hR; cases hR
  | some sp =>
    rw [hsp] at hR
    simp only at hR
    cases hfu : funsF q n els.length (clsOf els).2 (backOf els (clsOf els).1 (clsOf els).2) sp [] with
    | none => rw [hfu] at hR; cases hR
    | some raw =>
      rw [hfu] at hR
      simp only at hR
      split at hR
      · rename_i hok
        injection hR with hR
        subst hR
        simp only [Bool.and_eq_true, Nat.blt_eq] at hok
        obtain ⟨⟨hraw0, hraw1⟩, hnd, hrok⟩ := hok
        have hraw1 := Nat.le_of_ble_eq_true hraw1
        have HSP := Lib.hid hsp
        have HFU := Lib.hid hfu
        have HND := Lib.hid (nodupB_get hnd)
        have HROK := Lib.hid hrok
        clear hsp hfu hnd hrok
        go_enter Try.func19, Try.ntmps19
        go_wp2_with fail
        go_loopg [3, 20] n (fun k ov iv wr => ∃ (c : Nat) (vals : List Value), c + k = n ∧ iv = .int .i64 c ∧ OwnV HVec wr w.heap.size 51 (fun k => ov.ownBlock = some k) ov vals ((unitF n).take c) ∧ Below w.heap.size w wr)
        case atStart => exact ⟨0, [], by omega, rfl, OwnV.nil _ _ _ _ _, Below.refl _ _⟩
        case round =>
          obtain ⟨c, vals, hck, rfl, hown, hbr⟩ := hrel
          have hsr := hbr.size
          have hg3 := below_cell hbr hgl h3
          cases gm : gk with
          | zero =>
            subst gm
            obtain rfl : c = n := by omega
            rw [List.take_of_length_le (by simp [unitF])] at hown
            obtain ⟨ua, uc, huv, huh⟩ := hown.hold HVec.keeps
            have hulen : (unitF c).length = c := by simp [unitF]
            rw [hulen] at huv
            subst huv
            have hun : HRows wr noBad (.slice ua c uc) (unitF c) := ⟨ua, uc, by rw [hulen], huh⟩
            have HUN := Lib.hid hun
            clear hown huh hun hulen
            have hdc : decide (c < c) = false := decide_eq_false (by omega)
            have hdc2 : decide ((c : Int) < (c : Int)) = false := decide_eq_false (by omega)
            have hspA : HSpaces (wr.alloc (.cells #[.slice ua c uc] 49)) noBad (.slice (some ⟨wr.heap.size, 0, none⟩) 1 1) [unitF c] := by
              refine ⟨_, 1, rfl, fun _ => ⟨wr.heap.size, 0, rfl, by simp, fun h => h, fun j hj => ?_⟩⟩
              obtain rfl : j = 0 := by simp at hj; exact hj
              refine ⟨.slice ua c uc, by go_simp, ?_⟩
              exact HRows.keeps.below HUN.out ((Below.refl _ _).alloc (Nat.le_refl _) _) (fun _ _ h => h)
            have HSPA := Lib.hid hspA
            clear hspA
            have hg3' := below_cell (hbr.alloc hsr (.cells #[.slice ua c uc] 49)) hgl h3
            go_wp2_with fail
            clear hg3 hg3'
            go_loopg [6, 44] c (fun k sv iv wr => ∃ (t : Nat) (spc : List (List (List Nat))) (sa : Option Addr) (sc : Nat), t + k = c ∧ iv = .int .i64 t ∧ spc.length ≤ 24 ∧ sv = .slice sa spc.length sc ∧ HSpaces wr noBad (.slice sa spc.length sc) spc ∧ (∀ j, j < spc.length → okSpB c (spc.getD j default) = true) ∧ Below w.heap.size w wr ∧ Hid (spacesF q c els k t spc = some sp))
            case atStart =>
              refine ⟨0, [unitF c], some ⟨wr.heap.size, 0, none⟩, 1, by omega, rfl, by simp, rfl, HSPA.out, fun j hj => ?_, hbr.alloc hsr _, HSP⟩
              obtain rfl : j = 0 := by simp at hj; exact hj
              show okSpB c (unitF c) = true
              simp only [okSpB, Bool.and_eq_true, List.all_eq_true, Nat.blt_eq]
              refine ⟨⟨by simp [unitF]; omega, Nat.ble_eq_true_of_le (by simp [unitF]; omega)⟩, fun v hv => ?_⟩
              simp only [unitF, List.mem_map] at hv
              obtain ⟨x, -, rfl⟩ := hv
              simp only [okVecB, Bool.and_eq_true, List.all_eq_true]
              refine ⟨by simp, fun y hy => Nat.ble_eq_true_of_le ?_⟩
              rcases List.mem_or_eq_of_mem_set hy with hy | hy
              · have := List.eq_of_mem_replicate hy; omega
              · omega
            case round =>
              obtain ⟨t, spc, sa, sc, htk, rfl, hspl, rfl, hsp, hspok, hbr, HI⟩ := hrel
              have hsr := hbr.size
              cases gk2 : gk with
              | zero =>
                subst gk2
                have hi := HI.out
                simp only [spacesF, Option.some.injEq] at hi
                subst hi
                obtain ⟨wo, hwo⟩ : ∃ wo : World, wo = wr := ⟨_, rfl⟩
                subst hwo
                have HSPC := Lib.hid hsp
                have HOKS := Lib.hid hspok
                clear hsp hspok HI HSPA HUN
                have hdt : decide (t < c) = false := decide_eq_false (by omega)
                go_wp2_with fail
                go_loopg [12, 67] spc.length (fun l ov iv wx => ∃ (j : Nat) (vals : List Value) (acc : List (List Nat)), j + l = spc.length ∧ iv = .int .i64 j ∧ acc.length = j ∧ OwnV HVec wx wo.heap.size 51 (fun k => ov.ownBlock = some k) ov vals acc ∧ Below wo.heap.size wo wx ∧ Hid (funsF q c els.length (clsOf els).2 (backOf els (clsOf els).1 (clsOf els).2) (spc.drop j) acc = some raw))
                case atStart => exact ⟨0, [], [], by omega, rfl, rfl, OwnV.nil _ _ _ _ _, Below.refl _ _, by simpa using HFU⟩
                case round =>
                  obtain ⟨j, vals, acc, hjl, rfl, haccl, hown, hbx, HI⟩ := hrel
                  have hb0x := hbr.trans (hbx.mono hsr)
                  have hsx := hb0x.size
                  cases gl : gk with
                  | zero =>
                    subst gl
                    subst haccl
                    have hi := HI.out
                    rw [List.drop_of_length_le (by omega)] at hi
                    simp only [funsF, Option.some.injEq] at hi
                    subst hi
                    have hraw : 0 < acc.length := hraw0
                    obtain ⟨blk, cap, hov, hblkB, hblkl⟩ := hown.own.form hraw
                    subst hov
                    have hown' : OwnV HVec wr wo.heap.size 51 (fun k => k = blk) (.slice (some ⟨blk, 0, none⟩) acc.length cap) vals acc := hown.keep HVec.keeps (Nat.le_refl _) (fun _ _ _ => rfl) (fun _ _ => rfl) (fun k _ h => by subst h; rfl) (fun k hk => by
                      have : some blk = some k := hk
                      injection this with this
                      exact this.symm)
                    have hsort := sort_vecs wr wo.heap.size 51 blk cap acc.length vals acc hown' rfl hraw (by omega) HND.out (fun j hj => by
                      have := okVecB_le (List.all_eq_true.1 HROK.out _ (getD_memL acc j hj))
                      omega)
                    have HS := Lib.hid hsort
                    clear hsort hown hown' HI
                    go_wp2_with fail
                    refine HS.out.mono ?_
                    rintro e w' ⟨rfl, hgw, hrw⟩
                    have HRW := Lib.hid hrw
                    clear hrw HS
                    go_wp2_with fail
                    exact bodyPost_ret (v := .slice (some ⟨blk, 0, none⟩) acc.length cap) (by simp [results, Try.results19, go_sem]) rfl ⟨_, rfl, HRW.out, hb0x.grown hgw (by omega) (fun k hk => by injection hk with hk; omega)⟩
                  | succ l =>
                    subst gl
                    have hjs : j < spc.length := by omega
                    have hi := HI.out
                    rw [drop_cons spc j hjs] at hi
                    simp only [funsF] at hi
                    obtain ⟨hs0, hs24, hvok⟩ := okSpB_get (HOKS.out j hjs)
                    obtain ⟨sa', sc', hse, hsh⟩ := HSPC.out
                    injection hse with hse1 hse2 hse3
                    obtain ⟨sb, so, rfl, hsb, -, hsc⟩ := hsh (by omega)
                    obtain ⟨u, hu, ra, rc, rfl, hrh⟩ := hsc j hjs
                    have hu' := below_cell (p := ⟨sb, so + j, none⟩) hbx hsb (by rw [← hu])
                    obtain ⟨rb, ro, rfl, hrb, -, hrc⟩ := hrh hs0
                    obtain ⟨v0, hv0, hv0h⟩ := hrc 0 hs0
                    rw [Nat.add_zero] at hv0
                    have hv0' := below_cell (p := ⟨rb, ro, none⟩) hbx hrb hv0
                    have hv0x : HVec wr noBad v0 ((spc.getD j default).getD 0 default) := HVec.keeps.below hv0h hbx (fun _ _ h => h)
                    subst hse1
                    subst hse3
                    clear hse2
                    have hvl := hvok.len 0 hs0
                    have hvle := hvok.le 0 hs0
                    cases hfn : functionF q els.length (clsOf els).2 (backOf els (clsOf els).1 (clsOf els).2) ((spc.getD j default).getD 0 default) with
                    | none => rw [hfn] at hi; cases hi
                    | some fn =>
                      rw [hfn] at hi
                      simp only at hi
                      split at hi
                      · rename_i hfok
                        simp only [Bool.and_eq_true] at hfok
                        have hacc24 := Nat.le_of_ble_eq_true hfok.1
                        have hfun := function_g v0 ((spc.getD j default).getD 0 default) wr (HGRP.out.below hb0x) HN.out hpos hfew HG.out.len (fun t ht => (HK.out.ne t (by rw [HN.out]; exact ht)).2) HBACK.out hq1 hq2 hv0x hvl hvle fn hfn
                        have HF := Lib.hid hfun
                        have hj24 : j ≤ 24 := by omega
                        have hxs := hbx.size
                        have HI2 := Lib.hid hi
                        have HOWN := Lib.hid hown
                        have hsl0 : (0 : Int) < ((spc.getD j default).length : Int) := by omega
                        generalize (spc.getD j default).length = sl at *
                        clear hi HI hsc hsh hrc hrh hu hv0 hv0h hv0x hvok hvle hfun hfn hfok hown hvl
                        go_wp2_with fail
                        refine HF.out.mono ?_
                        rintro e w3 ⟨fv, rfl, hfo, hfl, hb3⟩
                        obtain ⟨g3, cap3, rfl, hg3B, hg3l⟩ := hfo.form hpos
                        have hs3 := hb3.size
                        have hbW : Below w3.heap.size w3 (w3.alloc (.cells #[.slice (some ⟨g3, 0, none⟩) c cap3] 51)) := (Below.refl _ _).alloc (Nat.le_refl _) _
                        have HOW := Lib.hid ((HOWN.out.below HVec.keeps hb3).below HVec.keeps hbW)
                        have HVW := Lib.hid (HVec.keeps.below (bad' := fun k => u12.ownBlock = some k) (HVec.own hfo hfl.symm (fun k => u12.ownBlock = some k) (fun k hk => (HOWN.out.own.lt k hk).2)) hbW (fun _ _ h => h))
                        have hown3 := HOW.out.own
                        rw [haccl] at hown3
                        have HO3 := Lib.hid hown3
                        have HACC := Lib.hid haccl
                        clear hfo hown3 hbW HF haccl
                        go_wp2_with (at_builtin; refine wpList_append_lies _ rfl (.tmp 71) (.tmp 77) 49 rfl wo.heap.size 51 i51 (.slice none 0 0) 1 24 Try.underlying49 HI51.out.1 HI51.out.2.1 HI51.out.2.2.1 HI51.out.2.2.2 rfl (by omega) u12 j vals rfl HO3.out ⟨w3.heap.size, 0, none⟩ 1 1 [.slice (some ⟨g3, 0, none⟩) c cap3] rfl rfl (World.news_of_block (heap_alloc_new w3 _)) (by simp [Value.oneCell']) (by omega) (by unfold maxLen; omega) (by omega) (by simp; omega) (w3.heap.size + 1) (by simp) ?_; intro g8 cap8 w8 hown8 hgrow8 hat8 hlt8)
                        go_roundg l
                        case rel =>
                          refine ⟨j + 1, vals ++ [.slice (some ⟨g3, 0, none⟩) c cap3], acc ++ [fn], by omega, by go_num, by rw [List.length_append, HACC.out]; rfl, ?_, ?_, HI2⟩
                          · have hp := OwnV.push HVec.keeps HOW.out HVW.out (by rw [HACC.out]; exact hown8) hgrow8 (hat8.imp id (fun h => by simp; omega))
                            rw [HACC.out] at hp
                            rw [own_eq]; exact hp
                          · exact ((hbx.trans (hb3.mono hxs)).alloc (by omega) _).grown hgrow8 (by simp; omega) (fun k hk => (HOWN.out.own.lt k hk).1)
                        case measure => omega
                      · cases hi
              | succ k =>
                subst gk2
                have htc : t < c := by omega
                have hi := HI.out
                simp only [spacesF] at hi
                split at hi
                · rename_i hmat
                  have hMat := okMatB_get hmat
                  cases hss : splitsF q c (constF els t) spc [] with
                  | none => rw [hss] at hi; cases hi
                  | some next =>
                    rw [hss] at hi
                    simp only at hi
                    obtain ⟨wo, hwo⟩ : ∃ wo : World, wo = wr := ⟨_, rfl⟩
                    subst hwo
                    have hcon := constants_g HG.out HK.out t wo (HGRP.out.below hbr) (by rw [HN.out]; exact htc)
                    rw [HN.out] at hcon
                    have HCON := Lib.hid hcon
                    have HI2 := Lib.hid hi
                    have HSS := Lib.hid hss
                    have HMAT := Lib.hid hMat
                    have HSPC := Lib.hid hsp
                    have HOKS := Lib.hid hspok
                    have hdt : decide (t < c) = true := decide_eq_true htc
                    clear hi HI hcon hss hmat hMat hsp hspok HSPA HUN
                    go_wp2_with fail
                    refine HCON.out.mono ?_
                    rintro e w1 ⟨ma, mc, rfl, hmr, hb1⟩
                    have hb01 := hbr.trans (hb1.mono hsr)
                    have hs1 := hb1.size
                    have hmv : HRows w1 noBad (.slice ma c mc) (constF els t) := by
                      have := HRows.of (c := mc) hmr
                      rw [HMAT.out.len] at this
                      exact this
                    have HMV := Lib.hid hmv
                    have HSPC1 := Lib.hid (HSpaces.keeps.below (bad' := noBad) HSPC.out hb1 (fun _ _ h => h))
                    clear hmr hmv HCON HSPC
                    go_wp2_with fail
                    go_loopg [9, 52] spc.length (fun l ov iv wx => ∃ (j : Nat) (vals : List Value) (acc : List (List (List Nat))), j + l = spc.length ∧ iv = .int .i64 j ∧ acc.length ≤ 24 ∧ OwnV HRows wx w1.heap.size 49 (fun k => ov.ownBlock = some k) ov vals acc ∧ (∀ i, i < acc.length → okSpB c (acc.getD i default) = true) ∧ Below w1.heap.size w1 wx ∧ Hid (splitsF q c (constF els t) (spc.drop j) acc = some next))
                    case atStart => exact ⟨0, [], [], by omega, rfl, by simp, OwnV.nil _ _ _ _ _, fun i hi => absurd hi (by simp), Below.refl _ _, by simpa using HSS⟩
                    case round =>
                      obtain ⟨j, vals, acc, hjl, rfl, hacc24, hown, hacok, hbx, HI⟩ := hrel
                      have hb0x := hb01.trans (hbx.mono hb01.size)
                      have hsx := hbx.size
                      cases gl : gk with
                      | zero =>
                        subst gl
                        have hi := HI.out
                        rw [List.drop_of_length_le (by omega)] at hi
                        simp only [splitsF, Option.some.injEq] at hi
                        subst hi
                        have hholdn := hown.hold HRows.keeps
                        obtain ⟨na, nc, hne, hnh⟩ := hholdn
                        subst hne
                        have hsn : HSpaces wr noBad (.slice na acc.length nc) acc := ⟨na, nc, rfl, hnh⟩
                        have HSN := Lib.hid hsn
                        have HAOK := Lib.hid hacok
                        clear hown hnh hsn hacok HI
                        go_wp2_with fail
                        go_roundg k
                        case rel => exact ⟨t + 1, acc, na, nc, by omega, by go_num, hacc24, rfl, HSN.out, HAOK.out, hb0x, HI2⟩
                        case measure => omega
                      | succ l =>
                        subst gl
                        have hjs : j < spc.length := by omega
                        have hi := HI.out
                        rw [drop_cons spc j hjs] at hi
                        simp only [splitsF] at hi
                        obtain ⟨hs0, hs24, hvok⟩ := okSpB_get (HOKS.out j hjs)
                        cases hsf : splitF q (constF els t) (spc.getD j default) with
                        | none => rw [hsf] at hi; cases hi
                        | some rs =>
                          rw [hsf] at hi
                          simp only at hi
                          split at hi
                          · rename_i hok
                            simp only [Bool.and_eq_true, Nat.blt_eq, List.all_eq_true] at hok
                            obtain ⟨⟨hok1, hok2⟩, hok3⟩ := hok
                            have hlen24 := Nat.le_of_ble_eq_true hok1
                            obtain ⟨sa', sc', hse, hsh⟩ := HSPC1.out
                            injection hse with hse1 hse2 hse3
                            obtain ⟨sb, so, hsaq, hsb, -, hsc⟩ := hsh (by omega)
                            rw [hsaq] at hse1
                            subst hse1
                            subst hse3
                            obtain ⟨u, hu, hur⟩ := hsc j hjs
                            have hu' := below_cell (p := ⟨sb, so + j, none⟩) hbx hsb hu
                            have hurx : HRows wr (fun k => w1.heap.size ≤ k ∧ k < wr.heap.size) u (spc.getD j default) := HRows.keeps.below hur hbx (fun k hk h => by omega)
                            have hsplit := split_g (fun k => w1.heap.size ≤ k ∧ k < wr.heap.size) gb q c (spc.getD j default).length (.slice ma c mc) u (constF els t) (spc.getD j default) wr hq1 hq2 rfl hs0 hs24 hpos hfew hvok HMAT.out (fun k hk => hk.2) hurx (HRows.keeps.below HMV.out hbx (fun _ _ h => h)) (below_cell hb0x hgl h6) rs hsf
                            have HSPL := Lib.hid hsplit
                            have HI3 := Lib.hid hi
                            have HOWN := Lib.hid hown
                            have HOK3 := Lib.hid hok3
                            have HACOK := Lib.hid hacok
                            clear hi HI hsc hsh hu hur hurx hvok hsplit hsf hown hok3 hacok hse2 hsaq
                            go_wp2_with fail
                            refine HSPL.out.mono ?_
                            rintro e w3 ⟨v3, rfl, hsp3, hb3⟩
                            obtain ⟨pa, pc, rfl, hph⟩ := hsp3
                            obtain ⟨pb, po, rfl, hpb, hpn, hpcells⟩ := hph hok2
                            have hnews : ∀ (jj : Nat) (u : Value), (cellsOf w3 pb po rs.length)[jj]? = some u → w3.cell? ((⟨pb, po, none⟩ : Addr).add jj) = some u := fun jj u hj => by
                              rw [Addr.add_lit]
                              have hjl : jj < rs.length := by
                                rcases Nat.lt_or_ge jj rs.length with h | h
                                · exact h
                                · rw [List.getElem?_eq_none (by rw [cellsOf_length]; exact h)] at hj; cases hj
                              obtain ⟨u', hu', -⟩ := hpcells jj hjl
                              rw [cellsOf_get w3 pb po rs.length jj hjl u' hu'] at hj
                              injection hj with hj
                              rw [← hj]; exact hu'
                            have hone : ∀ u ∈ cellsOf w3 pb po rs.length, u.oneCell' = true := fun u hu => by
                              obtain ⟨jj, hjj, rfl⟩ := List.mem_iff_getElem.1 hu
                              rw [cellsOf_length] at hjj
                              obtain ⟨u', hu', hr⟩ := hpcells jj hjj
                              have := cellsOf_get w3 pb po rs.length jj hjj u' hu'
                              rw [List.getElem?_eq_getElem (by rw [cellsOf_length]; exact hjj)] at this
                              injection this with this
                              rw [this]
                              obtain ⟨a', c', rfl, -⟩ := hr
                              rfl
                            have hpall : ∀ jj, jj < rs.length → HRows w3 (fun k => u9.ownBlock = some k) ((cellsOf w3 pb po rs.length).getD jj default) (rs.getD jj default) := fun jj hjj => by
                              obtain ⟨u', hu', hr⟩ := hpcells jj hjj
                              rw [List.getD_eq_getElem?_getD, cellsOf_get w3 pb po rs.length jj hjj u' hu']
                              exact HRows.keeps w3 w3 _ _ _ _ (Nat.le_refl _) (fun _ _ _ => rfl) (fun k _ h => ⟨(HOWN.out.own.lt k h).1, (HOWN.out.own.lt k h).2⟩) hr
                            have hclen : (cellsOf w3 pb po rs.length).length = rs.length * 1 := by rw [cellsOf_length]; omega
                            have hs3 := hb3.size
                            have hoW := HOWN.out.below HRows.keeps hb3
                            have HOW := Lib.hid hoW
                            have hown3 := hoW.own
                            have HO3 := Lib.hid hown3
                            have HNEWS := Lib.hid hnews
                            have HONE := Lib.hid hone
                            have HPALL := Lib.hid hpall
                            have HCLEN := Lib.hid hclen
                            clear hph hpcells hnews hone hpall hoW hown3 HSPL hpn hclen
                            generalize cellsOf w3 pb po rs.length = news at *
                            go_wp2_with (at_builtin; refine wpList_append_lies _ rfl (.tmp 56) (.tmp 60) 63 rfl w1.heap.size 49 i49 (.slice none 0 0) 1 24 Try.underlying63 HI49.out.1 HI49.out.2.1 HI49.out.2.2.1 HI49.out.2.2.2 rfl (by omega) u9 acc.length vals rfl HO3.out ⟨pb, po, none⟩ rs.length pc news rfl HCLEN.out HNEWS.out HONE.out hok2 (by unfold maxLen; omega) (by omega) (by omega) w3.heap.size rfl ?_; intro g8 cap8 w8 hown8 hgrow8 hat8 hlt8)
                            go_roundg l
                            case rel =>
                              refine ⟨j + 1, vals ++ news, acc ++ rs, by omega, by go_num, by simp; omega, ?_, fun i hi => ?_, ?_, HI3⟩
                              · have hp := OwnV.pushN HRows.keeps HOW.out (by have := HCLEN.out; omega) HPALL.out hown8 hgrow8 (hat8.imp id (fun h => by omega))
                                exact hp
                              · by_cases hia : i < acc.length
                                · have e : (acc ++ rs).getD i default = acc.getD i default := by simp [List.getD_eq_getElem?_getD, List.getElem?_append_left hia]
                                  rw [e]; exact HACOK.out i hia
                                · have hir : i - acc.length < rs.length := by simp at hi; omega
                                  have e : (acc ++ rs).getD i default = rs.getD (i - acc.length) default := by simp [List.getD_eq_getElem?_getD, List.getElem?_append_right (show acc.length ≤ i by omega)]
                                  rw [e]; exact HOK3.out _ (getD_memL rs _ hir)
                              · exact (hbx.trans (hb3.mono hsx)).grown hgrow8 (by omega) (fun k hk => (HOWN.out.own.lt k hk).1)
                            case measure => omega
                          · cases hi
                · cases hi
          | succ k =>
            subst gm
            have hcn : c < n := by omega
            have hcn2 : (0 : Int) ≤ (c : Int) ∧ (c : Int) < (n : Int) := by omega
            have hnew := heap_alloc_new wr (.cells (madeCells #[.int .i64 0] n) 3)
            have hnc : (wr.alloc (.cells (madeCells #[.int .i64 0] n) 3)).cell? ⟨wr.heap.size, c, none⟩ = some (.int .i64 0) := by
              rw [cell_of_row _ _ c _ _ _ hnew, madeCells_one]; simp [List.getElem?_replicate, hcn]
            have hnf : (wr.alloc (.cells (madeCells #[.int .i64 0] n) 3)).frozen? ⟨wr.heap.size, c, none⟩ = false := frozen_of_row _ _ c _ _ hnew
            have hu := unitF_snoc n c hcn
            have HU := Lib.hid hu
            have HOWN := Lib.hid hown
            have hul : ((unitF n).take c).length = c := by simp [unitF]; omega
            have HUL := Lib.hid hul
            clear hu hown hul
            go_upto_region 7 with fail
            have hcells : (madeCells #[Value.int .i64 0] n).setIfInBounds c (Value.int .i64 1) = (iv (ints ((List.replicate n 0).set c 1))).toArray := by
              rw [madeCells_one]
              apply Array.toList_inj.1
              simp only [Array.toList_setIfInBounds]
              simp [iv, ints, List.map_set, List.map_replicate]
            rw [hcells]
            clear hcells hnew hnc hnf hg3
            have hbA : Below wr.heap.size wr (wr.alloc (.cells (iv (ints ((List.replicate n 0).set c 1))).toArray 3)) := (Below.refl _ _).alloc (Nat.le_refl _) _
            have hvA : HVec (wr.alloc (.cells (iv (ints ((List.replicate n 0).set c 1))).toArray 3)) (fun k => u3.ownBlock = some k) (.slice (some ⟨wr.heap.size, 0, none⟩) n n) ((List.replicate n 0).set c 1) := by
              refine ⟨_, n, by simp, fun _ => ⟨wr.heap.size, 0, rfl, by simp, fun h => by have := (HOWN.out.own.lt _ h).2; omega, fun j hj => ⟨_, ?_, rfl⟩⟩⟩
              rw [Nat.zero_add, cell_iv (heap_alloc_new wr _) j (by rw [ints_length]; exact hj), ints_getD]
              rfl
            have hoA := HOWN.out.below HVec.keeps hbA
            generalize hWA : wr.alloc (.cells (iv (ints ((List.replicate n 0).set c 1))).toArray 3) = W1 at *
            have hs1 : W1.heap.size = wr.heap.size + 1 := by rw [← hWA]; simp
            clear hWA
            have hbW : Below W1.heap.size W1 (W1.alloc (.cells #[.slice (some ⟨wr.heap.size, 0, none⟩) n n] 51)) := (Below.refl _ _).alloc (Nat.le_refl _) _
            have HOW := Lib.hid (hoA.below HVec.keeps hbW)
            have HVW := Lib.hid (HVec.keeps.below (bad' := fun k => u3.ownBlock = some k) hvA hbW (fun _ _ h => h))
            have HS1 := Lib.hid hs1
            have hown3 := HOW.out.own
            rw [HUL.out] at hown3
            have HO3 := Lib.hid hown3
            have HBA := Lib.hid hbA
            clear hvA hoA hown3 hbW hbA hs1
            go_wp2_with (at_builtin; refine wpList_append_lies _ rfl (.tmp 32) (.tmp 34) 49 rfl w.heap.size 51 i51 (.slice none 0 0) 1 24 Try.underlying49 HI51.out.1 HI51.out.2.1 HI51.out.2.2.1 HI51.out.2.2.2 rfl (by omega) u3 c vals rfl HO3.out ⟨W1.heap.size, 0, none⟩ 1 1 [.slice (some ⟨wr.heap.size, 0, none⟩) n n] rfl rfl (World.news_of_block (heap_alloc_new W1 _)) (by simp [Value.oneCell']) (by omega) (by unfold maxLen; omega) (by omega) (by simp; have := HS1.out; omega) (W1.heap.size + 1) (by simp) ?_; intro g8 cap8 w8 hown8 hgrow8 hat8 hlt8)
            go_roundg k
            case rel =>
              refine ⟨c + 1, vals ++ [.slice (some ⟨wr.heap.size, 0, none⟩) n n], by omega, by go_num, ?_, ?_⟩
              · rw [HU.out]
                have hp := OwnV.push HVec.keeps HOW.out HVW.out (by rw [HUL.out]; exact hown8) hgrow8 (hat8.imp id (fun h => by simp; omega))
                rw [HUL.out] at hp
                rw [own_eq]; exact hp
              · exact ((hbr.trans (HBA.out.mono hsr)).alloc (by have := HS1.out; omega) _).grown hgrow8 (by simp; have := HS1.out; omega) (fun k hk => (HOWN.out.own.lt k hk).1)
            case measure => omega
      · cases hR

end Go.Proofs.Ytnejjgolmikplaa
