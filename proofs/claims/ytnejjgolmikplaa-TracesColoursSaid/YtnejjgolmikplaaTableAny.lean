/- The walk of traces.Table. -/
import Derived.Test.YtnejjgolmikplaaTabFact
import Derived.Test.YtnejjgolmikplaaElements
namespace Go.Proofs.Ytnejjgolmikplaa
open Go.RowKit Go.Proofs

def tabRes (g : Grp) (T : List (List Nat)) : List (List Nat) × Int := match g with
  | .bad => ([], 2)
  | .big => ([], 6)
  | .ok _ _ _ => (T, 0)

set_option maxHeartbeats 4000000 in
set_option maxRecDepth 100000 in
theorem table_any (HG : AllGood) (ga : Option Addr) (gc : Nat) (gs : List (List Int)) (w : World) (hrows : RowsIn w ga gs) (hl : gs.length ≤ 1000) (hsm : ∀ j, j < gs.length → (gs.getD j []).length ≤ 1000)
    (T : List (List Nat)) (hT : ∀ d els q, grpOf gs = .ok d els q → TabOK els q T) :
    Calls Try.prog 9 #[.slice ga gs.length gc] w fun e w' => TabRet w (tabRes (grpOf gs) T) e w' := by
  have hread := read_all HG ga gc gs w hrows hl hsm
  have HR := Lib.hid hread
  have HT := Lib.hid hT
  clear hread hrows hsm hT
  generalize grpOf gs = g at *
  go_enter Try.func9, Try.ntmps9
  go_wp2_with fail
  refine HR.out.mono ?_
  rintro e w1 ⟨hb1, hpost⟩
  cases g with
  | bad =>
    subst hpost
    go_wp2_with fail
    exact bodyPost_ret (v := .tuple #[.slice none 0 0, .int .i64 2]) (by simp [results, Try.results9, go_sem]) rfl ⟨none, 0, rfl, fun hp => by simp [tabRes] at hp, hb1⟩
  | big =>
    subst hpost
    go_wp2_with fail
    exact bodyPost_ret (v := .tuple #[.slice none 0 0, .int .i64 6]) (by simp [results, Try.results9, go_sem]) rfl ⟨none, 0, rfl, fun hp => by simp [tabRes] at hp, hb1⟩
  | ok d els q =>
    obtain ⟨hgood, hd5, hd1, gb, hgb, rfl, hat⟩ := hpost
    have K := HT.out d els q rfl
    obtain ⟨raw, hraw, hout⟩ := K.raw
    have htab := table_gr hgood.gok K.cls w1 hat K.q1 K.q2 K.back raw hraw
    rw [hout] at htab
    have hTl := K.len
    have HTAB := Lib.hid htab
    obtain ⟨i30, hi30⟩ := info_parts (by kernel_rfl : (Try.prog.info? 30).map (fun i => (i.zero, i.size, i.bytes)) = some (some (.slice none 0 0), 1, 24))
    have HI30 := Lib.hid hi30
    clear hgood hat K hraw hout htab hi30
    go_wp2_with fail
    refine HTAB.out.mono ?_
    rintro e w2 ⟨v2, rfl, hrow, hb2⟩
    obtain ⟨ta, tc, rfl, hth⟩ := hrow
    have HTH := Lib.hid hth
    clear hth HTAB
    have hb02 := hb1.trans (hb2.mono hb1.size)
    go_wp2_with fail
    go_loopg [6, 20] T.length (fun l ov iv wx => ∃ (j : Nat) (vals : List Value), j + l = T.length ∧ iv = .int .i64 j ∧ OwnV HVec wx w2.heap.size 30 (fun k => ov.ownBlock = some k) ov vals (T.take j) ∧ Below w2.heap.size w2 wx)
    case atStart => exact ⟨0, [], by omega, rfl, OwnV.nil _ _ _ _ _, Below.refl _ _⟩
    case round =>
      obtain ⟨j, vals, hjl, rfl, hown, hbx⟩ := hrel
      have hsx := hbx.size
      cases gl : gk with
      | zero =>
        subst gl
        obtain rfl : j = T.length := by omega
        rw [List.take_length] at hown
        obtain ⟨oa, oc, hov, hor⟩ := HRows.rowsIn (hown.hold HVec.keeps)
        subst hov
        have HOR := Lib.hid hor
        clear hown hor
        go_wp2_with fail
        exact bodyPost_ret (v := .tuple #[.slice oa T.length oc, .int .i64 0]) (by simp [results, Try.results9, go_sem]) rfl ⟨oa, oc, rfl, HOR.out, hb02.trans (hbx.mono hb02.size)⟩
      | succ l =>
        subst gl
        have hjT : j < T.length := by omega
        obtain ⟨tb, to_, rfl, htb, -, htc⟩ := HTH.out (by omega)
        obtain ⟨u, hu, ra, rc, rfl, hrh⟩ := htc j hjT
        have hux := below_cell (p := ⟨tb, to_ + j, none⟩) hbx htb hu
        have hsn : T.take (j + 1) = T.take j ++ [T.getD j default] := by
          rw [List.take_add_one, List.getElem?_eq_getElem hjT, List.getD_eq_getElem?_getD, List.getElem?_eq_getElem hjT]; rfl
        have HSN := Lib.hid hsn
        have hvW : HVec (wr.alloc (.cells #[.slice ra (T.getD j default).length rc] 30)) (fun k => u6.ownBlock = some k) (.slice ra (T.getD j default).length rc) (T.getD j default) := by
          have h1 : HVec wr (fun k => w2.heap.size ≤ k) (.slice ra (T.getD j default).length rc) (T.getD j default) := HVec.keeps.below ⟨ra, rc, rfl, hrh⟩ hbx (fun k hk h => absurd h (by omega))
          exact HVec.keeps.below h1 ((Below.refl _ _).alloc (Nat.le_refl _) _) (fun k hk h => (hown.own.lt k h).1)
        have HVW := Lib.hid hvW
        have hoW := hown.below HVec.keeps ((Below.refl _ wr).alloc (Nat.le_refl _) (.cells #[.slice ra (T.getD j default).length rc] 30))
        have HOW := Lib.hid hoW
        have hlen : (T.take j).length = j := by rw [List.length_take]; omega
        have HLEN := Lib.hid hlen
        have hown3 := hoW.own
        rw [hlen] at hown3
        have HO3 := Lib.hid hown3
        have HOWN := Lib.hid hown
        clear htc hu hrh hsn hvW hoW hlen hown3 hown
        generalize T.getD j default = row at *
        generalize hrl : row.length = rl at *
        have HRL := Lib.hid hrl
        clear hrl
        go_wp2_with (at_builtin; refine wpList_append_lies _ rfl (.tmp 24) (.tmp 26) 22 rfl w2.heap.size 30 i30 (.slice none 0 0) 1 24 Try.underlying22 HI30.out.1 HI30.out.2.1 HI30.out.2.2.1 HI30.out.2.2.2 rfl (by omega) u6 j vals rfl HO3.out ⟨wr.heap.size, 0, none⟩ 1 1 [.slice ra rl rc] rfl rfl (World.news_of_block (heap_alloc_new wr _)) (by simp [Value.oneCell']) (by omega) (by unfold maxLen; omega) (by omega) (by simp; omega) (wr.heap.size + 1) (by simp) ?_; intro g8 cap8 w8 hown8 hgrow8 hat8 hlt8)
        go_roundg l
        case rel =>
          refine ⟨j + 1, vals ++ [.slice ra rl rc], by omega, by go_num, ?_, ?_⟩
          · rw [HSN.out]
            have hp := OwnV.push HVec.keeps HOW.out HVW.out (by rw [HLEN.out]; exact hown8) hgrow8 (hat8.imp id (fun h => by simp; omega))
            rw [HLEN.out] at hp
            rw [own_eq]; exact hp
          · exact (hbx.alloc (by omega) _).grown hgrow8 (by simp; omega) (fun k hk => (HOWN.out.own.lt k hk).1)
        case measure => omega

end Go.Proofs.Ytnejjgolmikplaa
