/- The walk of (*group).split. -/
import Derived.Test.YtnejjgolmikplaaKer
import Derived.Test.YtnejjgolmikplaaImage
namespace Go.Proofs.Ytnejjgolmikplaa
open Go.RowKit Go.Proofs

def imagesF (q : Nat) (mm : List (List Nat)) (by_ : Nat) (base : List (List Nat)) : List (List Nat) := base.map fun v => plusF q (imageF q mm v) (-(by_ : Int)) v
def splitGo (q : Nat) (mm base : List (List Nat)) : Nat → Nat → List (List (List Nat)) → Option (List (List (List Nat)))
  | 0, _, acc => some acc
  | k + 1, by_, acc => match kerF q mm.length 0 0 base (imagesF q mm by_ base) with
    | none => none
    | some r => splitGo q mm base k (by_ + 1) (if r.length = 0 then acc else acc ++ [r])
def splitF (q : Nat) (mm base : List (List Nat)) : Option (List (List (List Nat))) := if base.length = 1 then some [base] else splitGo q mm base q 0 []

theorem imagesF_len (q : Nat) (mm : List (List Nat)) (by_ : Nat) (base : List (List Nat)) : (imagesF q mm by_ base).length = base.length := by simp [imagesF]
theorem imagesF_get (q : Nat) (mm : List (List Nat)) (by_ : Nat) (base : List (List Nat)) (j : Nat) (h : j < base.length) : (imagesF q mm by_ base).getD j default = plusF q (imageF q mm (base.getD j default)) (-(by_ : Int)) (base.getD j default) := by
  simp [imagesF, List.getD_eq_getElem?_getD, List.getElem?_eq_getElem h]
theorem imagesF_snoc (q : Nat) (mm : List (List Nat)) (by_ : Nat) (base : List (List Nat)) (j : Nat) (h : j < base.length) : (imagesF q mm by_ base).take (j + 1) = (imagesF q mm by_ base).take j ++ [plusF q (imageF q mm (base.getD j default)) (-(by_ : Int)) (base.getD j default)] := by
  have hl : j < (imagesF q mm by_ base).length := by rw [imagesF_len]; exact h
  have e := imagesF_get q mm by_ base j h
  rw [List.getD_eq_getElem?_getD, List.getElem?_eq_getElem hl] at e
  rw [List.take_add_one, List.getElem?_eq_getElem hl]
  have e' : (imagesF q mm by_ base)[j] = plusF q (imageF q mm (base.getD j default)) (-(by_ : Int)) (base.getD j default) := e
  rw [e']; rfl
theorem imageF_len (q : Nat) (mm : List (List Nat)) (v : List Nat) : (imageF q mm v).length = mm.length := by simp [imageF]
theorem imageF_le (q : Nat) (mm : List (List Nat)) (v : List Nat) (hq : 1 ≤ q) (hq2 : q ≤ 1000) (i : Nat) : (imageF q mm v).getD i 0 ≤ 1000 := by
  unfold imageF
  rw [List.getD_eq_getElem?_getD, List.getElem?_map]
  cases mm[i]? with
  | none => simp
  | some r => simp; have := Nat.mod_lt (dotTo r v r.length) (show q > 0 by omega); omega
theorem imagesF_ok {q n : Nat} {mm : List (List Nat)} {by_ : Nat} {base : List (List Nat)} (hq : 1 ≤ q) (hq2 : q ≤ 1000) (hm : mm.length = n) : VecsOK n (imagesF q mm by_ base) := by
  refine ⟨fun j hj => ?_, fun j hj i => ?_⟩
  · rw [imagesF_len] at hj
    rw [imagesF_get _ _ _ _ _ hj, plusF_length, imageF_len, hm]
  · rw [imagesF_len] at hj
    rw [imagesF_get _ _ _ _ _ hj]
    exact plusF_le q _ _ _ hq hq2 i

/-- A matrix of n rows of n numbers that are not great. -/
structure MatOK (n : Nat) (mm : List (List Nat)) : Prop where
  len : mm.length = n
  row : ∀ j, j < n → (mm.getD j []).length = n
  le : ∀ j i, (mm.getD j []).getD i 0 ≤ 1000

theorem own_eq2 (bad0 : Nat → Prop) (g : Nat) (n cap : Nat) : (fun k => bad0 k ∨ (Value.slice (some ⟨g, 0, none⟩) n cap).ownBlock = some k) = (fun k => bad0 k ∨ k = g) := by
  funext k
  simp only [Value.ownBlock, Option.some.injEq, eq_iff_iff]
  exact ⟨fun h => h.imp id Eq.symm, fun h => h.imp id Eq.symm⟩
theorem own_eq (g : Nat) (n cap : Nat) : (fun k => (Value.slice (some ⟨g, 0, none⟩) n cap).ownBlock = some k) = (fun k => k = g) := by
  funext k
  simp only [Value.ownBlock, Option.some.injEq, eq_iff_iff]
  exact eq_comm

theorem OwnV.push2 {α : Type} [Inhabited α] {R : Holdr α} (hR : Keeps R) {W w' : World} {B : Nat} {T : TypeId} {bad bad0 : Nat → Prop} {ov : Value} {vals : List Value} {l : List α} {u : Value} {x : α} {g cap : Nat} (h : OwnV R W B T bad ov vals l) (hx : R W bad u x)
    (hown' : w'.ownsRow B T 1 (.slice (some ⟨g, 0, none⟩) (l.length + 1) cap) (l.length + 1) (vals ++ [u])) (hgrow : W.grownBy w' ov.ownBlock) (hat : ov.ownBlock = some g ∨ W.heap.size ≤ g) (h0 : ∀ k, bad0 k → bad k) :
    OwnV R w' B T (fun k => bad0 k ∨ (Value.slice (some ⟨g, 0, none⟩) (l.length + 1) cap).ownBlock = some k) (.slice (some ⟨g, 0, none⟩) (l.length + 1) cap) (vals ++ [u]) (l ++ [x]) := by
  have hlen := h.len
  rw [own_eq2]
  have hkp : ∀ v y, R W bad v y → R w' (fun k => bad0 k ∨ k = g) v y := fun v y hr => hR W w' bad _ v y hgrow.size
    (fun k hk hn => hgrow.block k hk (fun e => hn (h.isBad k e.symm))) (fun k hk e => by
      rcases e with e | e
      · exact h0 k e
      · subst e
        rcases hat with hat | hat
        · exact h.isBad k hat
        · omega) hr
  refine ⟨by rw [List.length_append]; exact hown', fun k hk => ?_, fun j hj => ?_⟩
  · have : some g = some k := hk
    injection this with this
    exact .inr this.symm
  · by_cases hjl : j < l.length
    · have e1 : (vals ++ [u]).getD j default = vals.getD j default := by simp [List.getD_eq_getElem?_getD, List.getElem?_append_left (show j < vals.length by omega)]
      have e2 : (l ++ [x]).getD j default = l.getD j default := by simp [List.getD_eq_getElem?_getD, List.getElem?_append_left hjl]
      rw [e1, e2]
      exact hkp _ _ (h.all j hjl)
    · have hj' : j = l.length := by simp at hj; omega
      subst hj'
      have e1 : (vals ++ [u]).getD l.length default = u := by simp [List.getD_eq_getElem?_getD, ← hlen]
      have e2 : (l ++ [x]).getD l.length default = x := by simp [List.getD_eq_getElem?_getD]
      rw [e1, e2]
      exact hkp _ _ hx

theorem OwnV.hold2 {α : Type} [Inhabited α] {R : Holdr α} (hR : Keeps R) {w : World} {B : Nat} {T : TypeId} {bad bad' : Nat → Prop} {ov : Value} {vals : List Value} {l : List α} (h : OwnV R w B T bad ov vals l) (h1 : ∀ g, ov.ownBlock = some g → ¬ bad' g) (h2 : ∀ k, bad' k → bad k) : HList R w bad' ov l := by
  have hlen := h.len
  rcases h.own.2 with ⟨hv, h0⟩ | ⟨g, cap, cur, hv, hB, hg, _⟩
  · exact ⟨none, 0, by rw [hv, h0], fun hp => by omega⟩
  · refine ⟨some ⟨g, 0, none⟩, cap, hv, fun hp => ⟨g, 0, rfl, (Array.getElem?_eq_some_iff.1 hg).1, h1 g (by rw [hv]; rfl), fun j hj => ⟨vals.getD j default, ?_, hR w w bad bad' _ _ (Nat.le_refl _) (fun _ _ _ => rfl) (fun k _ h => h2 k h) (h.all j hj)⟩⟩⟩
    have := h.own
    rw [hv] at this
    rw [Nat.zero_add, this.cellAt j (by omega)]
    simp [List.getD_eq_getElem?_getD, List.getElem?_eq_getElem (show j < vals.length by omega)]

set_option maxHeartbeats 4000000 in
set_option maxRecDepth 100000 in
theorem split_g (bad : Nat → Prop) (gb q n m : Nat) (mv bv : Value) (mm base : List (List Nat)) (w : World) (hq1 : 1 ≤ q) (hq2 : q ≤ 1000) (hm : base.length = m) (hpos : 0 < m) (hml : m ≤ 24) (hn : 0 < n) (hn24 : n ≤ 24)
    (hB : VecsOK n base) (hM : MatOK n mm) (hbad : ∀ k, bad k → k < w.heap.size) (hb : HRows w bad bv base) (hmv : HRows w noBad mv mm) (hc : w.cell? ⟨gb, 6, none⟩ = some (.int .i64 q)) (r : List (List (List Nat))) (hr : splitF q mm base = some r) :
    Calls Try.prog 35 #[.pointer (some ⟨gb, 0, none⟩), mv, bv] w fun e w' => ∃ v', e = .returned v' ∧ HSpaces w' bad v' r ∧ Below w.heap.size w w' := by
  have HBO := Lib.hid hB
  have HMO := Lib.hid hM
  have HB := Lib.hid hb
  obtain ⟨ma, mc, hmve, hmi⟩ := hmv.rowsIn
  rw [hM.len] at hmve
  subst hmve
  have HMI := Lib.hid hmi
  have HC := Lib.hid hc
  have HM := Lib.hid hm
  obtain ⟨ba, bc, hbv, hbin⟩ := hb
  rw [hm] at hbv
  subst hbv
  have HBIN := Lib.hid hbin
  have hgl := lt_of_cell hc
  obtain ⟨i49, hi49⟩ := info_parts (by kernel_rfl : (Try.prog.info? 49).map (fun i => (i.zero, i.size, i.bytes)) = some (some (.slice none 0 0), 1, 24))
  obtain ⟨i51, hi51⟩ := info_parts (by kernel_rfl : (Try.prog.info? 51).map (fun i => (i.zero, i.size, i.bytes)) = some (some (.slice none 0 0), 1, 24))
  have HI49 := Lib.hid hi49
  have HI51 := Lib.hid hi51
  unfold splitF at hr
  rw [hm] at hr
  clear hB hM hmv hmi hc hm hbin hi49 hi51
  by_cases h1 : m = 1
  · rw [if_pos h1] at hr
    have HR := Lib.hid (Option.some.inj hr)
    subst h1
    clear hr
    go_enter Try.func35, Try.ntmps35
    go_wp2_with fail
    refine bodyPost_ret (v := .slice (some ⟨w.heap.size, 0, none⟩) 1 1) (by simp [results, Try.results35, go_sem]) rfl ⟨_, rfl, ?_, (Below.refl _ _).alloc (Nat.le_refl _) _⟩
    rw [← HR.out]
    have hbA : Below w.heap.size w (w.alloc (.cells #[.slice ba 1 bc] 49)) := (Below.refl _ _).alloc (Nat.le_refl _) _
    refine ⟨_, 1, rfl, fun _ => ⟨w.heap.size, 0, rfl, by simp, fun h => by have := hbad _ h; omega, fun j hj => ?_⟩⟩
    obtain rfl : j = 0 := by simp at hj; exact hj
    refine ⟨.slice ba 1 bc, by go_simp, ?_⟩
    exact HRows.keeps.below HB.out hbA (fun _ _ h => h)
  · rw [if_neg h1] at hr
    have HR := Lib.hid hr
    have hd : ((m : Int) == 1) = false := by rw [beq_eq_false_iff_ne]; omega
    clear hr h1
    have hg6 := HC.out
    go_enter Try.func35, Try.ntmps35
    go_wp2_with fail
    clear hg6
    go_loopg [7, 22] q (fun k ov iv wr => ∃ (by_ : Nat) (vals : List Value) (acc : List (List (List Nat))), by_ + k = q ∧ iv = .int .i64 by_ ∧ acc.length ≤ by_ ∧ OwnV HRows wr w.heap.size 49 (fun k => bad k ∨ ov.ownBlock = some k) ov vals acc ∧ Below w.heap.size w wr ∧ Hid (splitGo q mm base k by_ acc = some r))
    case atStart => exact ⟨0, [], [], by omega, rfl, by simp, OwnV.nil _ _ _ _ _, Below.refl _ _, HR⟩
    case round =>
      obtain ⟨by_, vals, acc, hbk, rfl, hacc, hown, hbr, HI⟩ := hrel
      have hsr := hbr.size
      cases gm : gk with
      | zero =>
        subst gm
        have hi := HI.out
        simp only [splitGo, Option.some.injEq] at hi
        have HI2 := Lib.hid hi
        have HO := Lib.hid hown
        clear hi HI hown
        obtain ⟨ra, rc, hrv, hrh⟩ := HO.out.hold2 HRows.keeps (bad' := bad) (fun g hg h => by have := hbad g h; have := (HO.out.own.lt g hg).1; omega) (fun k h => .inl h)
        have HRH := Lib.hid hrh
        subst hrv
        clear hrh HO
        go_wp2_with fail
        exact bodyPost_ret (v := .slice ra acc.length rc) (by simp [results, Try.results35, go_sem]) rfl ⟨_, rfl, by rw [← HI2.out]; exact ⟨ra, rc, rfl, HRH.out⟩, hbr⟩
      | succ k =>
        subst gm
        have HO := Lib.hid hown
        clear hown
        obtain ⟨wo, hwo⟩ : ∃ wo : World, wo = wr := ⟨_, rfl⟩
        subst hwo
        have hqn : (0 : Int) ≤ (by_ : Int) ∧ (by_ : Int) ≤ 1000 := by omega
        have hbq : decide ((by_ : Int) < (q : Int)) = true := by simp; omega
        have hbq2 : decide (by_ < q) = true := by simp; omega
        go_wp2_with fail
        clear hbq hbq2
        go_loopg [9, 27] m (fun l iv0 jv wx => ∃ (j : Nat) (ivals : List Value), j + l = m ∧ jv = .int .i64 j ∧ OwnV HVec wx wo.heap.size 51 (fun k => iv0.ownBlock = some k) iv0 ivals ((imagesF q mm by_ base).take j) ∧ Below wo.heap.size wo wx)
        case atStart => exact ⟨0, [], by omega, rfl, OwnV.nil _ _ _ _ _, Below.refl _ _⟩
        case round =>
          obtain ⟨j, ivals, hjl, rfl, hio, hbx⟩ := hrel
          have hb0x := hbr.trans (hbx.mono hsr)
          have hsx := hb0x.size
          cases gl : gk with
          | zero =>
            subst gl
            obtain rfl : j = m := by omega
            rw [List.take_of_length_le (by rw [imagesF_len, HM.out]; exact Nat.le_refl _)] at hio
            have hi := HI.out
            simp only [splitGo] at hi
            cases hk : kerF q mm.length 0 0 base (imagesF q mm by_ base) with
            | none => rw [hk] at hi; cases hi
            | some rk =>
              rw [hk] at hi
              simp only at hi
              rw [HMO.out.len] at hk
              have hbase : HRows wr (fun k => bad k ∨ w.heap.size ≤ k ∧ k < wr.heap.size) (.slice ba j bc) base := HRows.keeps.below HB.out hb0x (fun k hk h => h.elim id (fun h => by omega))
              have hker := kernel_g (fun k => bad k ∨ w.heap.size ≤ k ∧ k < wr.heap.size) gb q n j (.slice ba j bc) u9 base (imagesF q mm by_ base) wr hq1 hq2 HM.out (by rw [imagesF_len]; exact HM.out) hpos hml hn hn24 HBO.out (imagesF_ok hq1 hq2 HMO.out.len)
                (fun k hk => hk.elim (fun h => by have := hbad k h; omega) (fun h => h.2)) hbase (hio.hold HVec.keeps) (below_cell hb0x hgl HC.out) rk hk
              have HK := Lib.hid hker
              have HI2 := Lib.hid hi
              clear hker hi hk hbase hio HI
              go_wp2_with fail
              refine HK.out.mono ?_
              rintro e w3 ⟨kv, rfl, hkr, hb3⟩
              obtain ⟨ka, kc, rfl, hkh⟩ := hkr
              have hb03 := hb0x.trans (hb3.mono hsx)
              have hs3 := hb3.size
              clear HK
              by_cases hk0 : rk.length = 0
              · have hi := HI2.out
                rw [if_pos hk0] at hi
                have HI3 := Lib.hid hi
                have HO3 := Lib.hid (HO.out.below HRows.keeps (hbx.trans (hb3.mono hbx.size)))
                have hd0 : decide ((rk.length : Int) > 0) = false := decide_eq_false (by omega)
                have hd1 : decide (0 < rk.length) = false := decide_eq_false (by omega)
                clear hi HI2 hk0 hkh
                go_wp2_with fail
                go_roundg k
                case rel => exact ⟨by_ + 1, vals, acc, by omega, by go_num, by omega, HO3.out, hb03, HI3⟩
                case measure => omega
              · have hi := HI2.out
                rw [if_neg hk0] at hi
                have HI3 := Lib.hid hi
                have hbW : Below w3.heap.size w3 (w3.alloc (.cells #[.slice ka rk.length kc] 49)) := (Below.refl _ _).alloc (Nat.le_refl _) _
                have hoW : OwnV HRows (w3.alloc (.cells #[.slice ka rk.length kc] 49)) w.heap.size 49 (fun k => bad k ∨ u7.ownBlock = some k) u7 vals acc := (HO.out.below HRows.keeps (hbx.trans (hb3.mono hbx.size))).below HRows.keeps hbW
                have hkW : HRows (w3.alloc (.cells #[.slice ka rk.length kc] 49)) (fun k => bad k ∨ u7.ownBlock = some k) (.slice ka rk.length kc) rk := HRows.keeps.below ⟨ka, kc, rfl, hkh⟩ hbW (fun k hk h => h.elim .inl (fun h => .inr ⟨(HO.out.own.lt k h).1, by have := (HO.out.own.lt k h).2; have := hbx.size; omega⟩))
                have hd0 : decide ((rk.length : Int) > 0) = true := decide_eq_true (by omega)
                have hd1 : decide (0 < rk.length) = true := decide_eq_true (by omega)
                have HOW := Lib.hid hoW
                have HKW := Lib.hid hkW
                have hown3 := hoW.own
                have HOW3 := Lib.hid hown3
                clear hi HI2 hk0 hkh hoW hkW hown3
                go_wp2_with (at_builtin; refine wpList_append_lies _ rfl (.tmp 51) (.tmp 53) 63 rfl w.heap.size 49 i49 (.slice none 0 0) 1 24 Try.underlying63 HI49.out.1 HI49.out.2.1 HI49.out.2.2.1 HI49.out.2.2.2 rfl (by omega) u7 acc.length vals rfl HOW3.out ⟨w3.heap.size, 0, none⟩ 1 1 [.slice ka rk.length kc] rfl rfl (World.news_of_block (heap_alloc_new w3 _)) (by simp [Value.oneCell']) (by omega) (by unfold maxLen; omega) (by omega) (by simp; omega) (w3.heap.size + 1) (by simp) ?_; intro g8 cap8 w8 hown8 hgrow8 hat8 hlt8)
                go_roundg k
                case rel =>
                  refine ⟨by_ + 1, vals ++ [.slice ka rk.length kc], acc ++ [rk], by omega, by go_num, by simp; omega, ?_, ?_, HI3⟩
                  · exact OwnV.push2 HRows.keeps HOW.out HKW.out hown8 hgrow8 (hat8.imp id (fun h => by simp; omega)) (fun k h => .inl h)
                  · exact (hb03.alloc (by omega) _).grown hgrow8 (by simp; omega) (fun k hk => (HO.out.own.lt k hk).1)
                case measure => omega
          | succ l =>
            subst gl
            have hjm : j < m := by omega
            obtain ⟨bb, bo, rfl, hbb, -, hbcells⟩ := HBIN.out (by rw [HM.out]; omega)
            obtain ⟨u, hu, hur⟩ := hbcells j (by rw [HM.out]; exact hjm)
            have hux := below_cell (p := ⟨bb, bo + j, none⟩) hb0x hbb hu
            have hurx : HVec wr noBad u (base.getD j default) := HVec.keeps.below hur hb0x (fun _ _ h => h.elim)
            obtain ⟨va, vc, rfl, hvi⟩ := hurx.intsIn
            have hvl := HBO.out.len j (by rw [HM.out]; exact hjm)
            have hvle := HBO.out.le j (by rw [HM.out]; exact hjm)
            have hmi := HMI.out.below hb0x
            have hsnoc := imagesF_snoc q mm by_ base j (by rw [HM.out]; exact hjm)
            have hilen : ((imagesF q mm by_ base).take j).length = j := by rw [List.length_take, imagesF_len, HM.out]; omega
            rw [hvl] at hux
            have himg := image_g gb q ma va mc vc n mm (base.getD j default) wr hq1 hq2 (by rw [HMO.out.len]; exact hn24) (fun t ht => HMO.out.row t (by rw [HMO.out.len] at ht; exact ht)) hn24 hvl HMO.out.le hvle hmi hvi (below_cell hb0x hgl HC.out)
            rw [HMO.out.len] at himg
            have HIMG := Lib.hid himg
            have HVI := Lib.hid hvi
            have HSN := Lib.hid hsnoc
            have HIO := Lib.hid hio
            have HIL := Lib.hid hilen
            have hml2 := HMO.out.len
            have HML2 := Lib.hid hml2
            have HVL := Lib.hid hvl
            have HVLE := Lib.hid hvle
            clear hbcells hu hur hurx hvl hvle hmi himg hvi hsnoc hio hilen hml2
            go_wp2_with fail
            refine HIMG.out.mono ?_
            rintro e w3 ⟨v3, rfl, hown3, hb3⟩
            obtain ⟨g3, cap3, rfl, hg3B, hg3⟩ := hown3.form hn
            have hb03 := hb0x.trans (hb3.mono hsx)
            have hin3 : IntsIn w3 (some ⟨g3, 0, none⟩) (ints (imageF q mm (base.getD j default))) := by
              obtain ⟨a', c', h1, h2⟩ := (HVec.own hown3 (by rw [imageF_len]; exact HML2.out.symm) noBad (fun _ h => h.elim)).intsIn
              injection h1 with h1 h3 h4
              rw [h1]; exact h2
            have hpl := plus_g gb q (some ⟨g3, 0, none⟩) va cap3 vc (imageF q mm (base.getD j default)) (base.getD j default) n (-(by_ : Int)) w3 hq1 hq2 (by rw [imageF_len]; exact HML2.out) HVL.out hn hn24 (fun t _ => imageF_le q mm _ hq1 hq2 t) (fun t _ => HVLE.out t) (by omega) (by omega) hin3 (HVI.out.below hb3) (below_cell hb03 hgl HC.out)
            have HPL := Lib.hid hpl
            have hwn : IntKind.i64.wrap (-(by_ : Int)) = -(by_ : Int) := IntWalk.i64_in _ (by omega)
            clear hpl hin3 HIMG hown3
            go_wp2_with fail
            refine HPL.out.mono ?_
            rintro e w4 ⟨g4, cap4, rfl, hown4, hb4⟩
            have hb34 := hb3.trans (hb4.mono hb3.size)
            have hs4 := hb34.size
            have hbW : Below w4.heap.size w4 (w4.alloc (.cells #[.slice (some ⟨g4, 0, none⟩) n cap4] 51)) := (Below.refl _ _).alloc (Nat.le_refl _) _
            have hoW : OwnV HVec (w4.alloc (.cells #[.slice (some ⟨g4, 0, none⟩) n cap4] 51)) wo.heap.size 51 (fun k => u9.ownBlock = some k) u9 ivals ((imagesF q mm by_ base).take j) := (HIO.out.below HVec.keeps hb34).below HVec.keeps hbW
            have hvW : HVec (w4.alloc (.cells #[.slice (some ⟨g4, 0, none⟩) n cap4] 51)) (fun k => u9.ownBlock = some k) (.slice (some ⟨g4, 0, none⟩) n cap4) (plusF q (imageF q mm (base.getD j default)) (-(by_ : Int)) (base.getD j default)) :=
              HVec.keeps.below (HVec.own hown4 (by rw [plusF_length, imageF_len]; exact HML2.out.symm) (fun k => u9.ownBlock = some k) (fun k hk => by have := (HIO.out.own.lt k hk).2; have := hb3.size; omega)) hbW (fun _ _ h => h)
            have HOW := Lib.hid hoW
            have HVW := Lib.hid hvW
            have hown5 := hoW.own
            rw [HIL.out] at hown5
            have HOW5 := Lib.hid hown5
            clear HPL hown4 hoW hvW hown5 hwn
            go_wp2_with (at_builtin; refine wpList_append_lies _ rfl (.tmp 31) (.tmp 41) 49 rfl wo.heap.size 51 i51 (.slice none 0 0) 1 24 Try.underlying49 HI51.out.1 HI51.out.2.1 HI51.out.2.2.1 HI51.out.2.2.2 rfl (by omega) u9 j ivals rfl HOW5.out ⟨w4.heap.size, 0, none⟩ 1 1 [.slice (some ⟨g4, 0, none⟩) n cap4] rfl rfl (World.news_of_block (heap_alloc_new w4 _)) (by simp [Value.oneCell']) (by omega) (by unfold maxLen; omega) (by omega) (by simp; have := hbx.size; omega) (w4.heap.size + 1) (by simp) ?_; intro g8 cap8 w8 hown8 hgrow8 hat8 hlt8)
            go_roundg l
            case rel =>
              refine ⟨j + 1, ivals ++ [.slice (some ⟨g4, 0, none⟩) n cap4], by omega, by go_num, ?_, ?_⟩
              · rw [HSN.out]
                have hp := OwnV.push HVec.keeps HOW.out HVW.out (by rw [HIL.out]; exact hown8) hgrow8 (hat8.imp id (fun h => by simp; omega))
                rw [HIL.out] at hp
                rw [own_eq]; exact hp
              · exact ((hbx.trans (hb34.mono hbx.size)).alloc (by have := hbx.size; omega) _).grown hgrow8 (by simp; have := hbx.size; omega) (fun k hk => (HIO.out.own.lt k hk).1)
            case measure => omega

end Go.Proofs.Ytnejjgolmikplaa
