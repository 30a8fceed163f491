/- The walk of traces.Elements. -/
import Derived.Test.YtnejjgolmikplaaGood
import Derived.Test.YtnejjgolmikplaaOut
namespace Go.Proofs.Ytnejjgolmikplaa
open Go.RowKit Go.Proofs

/-- A permutation as the caller sees it. -/
def rowOf (d c : Nat) : List Nat := (List.range d).map (dg c)
theorem rowOf_length (d c : Nat) : (rowOf d c).length = d := by simp [rowOf]

theorem take_digs (d c : Nat) (hd : d ≤ 5) : (digs c).take d = ints (rowOf d c) := by
  have : d = 0 ∨ d = 1 ∨ d = 2 ∨ d = 3 ∨ d = 4 ∨ d = 5 := by omega
  rcases this with rfl | rfl | rfl | rfl | rfl | rfl <;> rfl

def elemF (g : Grp) : List (List Nat) × Int := match g with
  | .bad => ([], 2)
  | .big => ([], 6)
  | .ok d els _ => (els.map (rowOf d), 0)

/-- A table and an error, as a call returns them. -/
def TabRet (w : World) (t : List (List Nat) × Int) (e : Ending) (w' : World) : Prop :=
  ∃ a c, e = .returned (.tuple #[.slice a t.1.length c, .int .i64 t.2]) ∧ RowsIn w' a (t.1.map ints) ∧ Below w.heap.size w w'

set_option maxHeartbeats 4000000 in
set_option maxRecDepth 100000 in
theorem elements_any (HG : AllGood) (ga : Option Addr) (gc : Nat) (gs : List (List Int)) (w : World) (hrows : RowsIn w ga gs) (hl : gs.length ≤ 1000) (hsm : ∀ j, j < gs.length → (gs.getD j []).length ≤ 1000) :
    Calls Try.prog 7 #[.slice ga gs.length gc] w fun e w' => TabRet w (elemF (grpOf gs)) e w' := by
  have hread := read_all HG ga gc gs w hrows hl hsm
  have HR := Lib.hid hread
  clear hread hrows hsm
  generalize grpOf gs = g at *
  go_enter Try.func7, Try.ntmps7
  go_wp2_with fail
  refine HR.out.mono ?_
  rintro e w1 ⟨hb1, hpost⟩
  cases g with
  | bad =>
    subst hpost
    go_wp2_with fail
    exact bodyPost_ret (v := .tuple #[.slice none 0 0, .int .i64 2]) (by simp [results, Try.results7, go_sem]) rfl ⟨none, 0, rfl, fun hp => by simp [elemF] at hp, hb1⟩
  | big =>
    subst hpost
    go_wp2_with fail
    exact bodyPost_ret (v := .tuple #[.slice none 0 0, .int .i64 6]) (by simp [results, Try.results7, go_sem]) rfl ⟨none, 0, rfl, fun hp => by simp [elemF] at hp, hb1⟩
  | ok d els q =>
    obtain ⟨hgood, hd5, hd1, gb, hgb, rfl, hat⟩ := hpost
    obtain ⟨⟨eb, mb, cap, hA⟩, hdeg, -⟩ := hat
    have hg1 := hA.at_.he
    have hlen := hgood.gok.len
    have HEL := Lib.hid hA.at_.hel
    have HDEG := Lib.hid hdeg
    have hgl := hA.hg
    have hel := hA.he
    obtain ⟨i30, hi30⟩ := info_parts (by kernel_rfl : (Try.prog.info? 30).map (fun i => (i.zero, i.size, i.bytes)) = some (some (.slice none 0 0), 1, 24))
    have HI30 := Lib.hid hi30
    clear hgood hA hdeg hi30
    go_wp2_with fail
    obtain ⟨wo, hwo⟩ : ∃ wo : World, wo = w1 := ⟨_, rfl⟩
    subst hwo
    go_loopg [6, 22] els.length (fun m ov iv wr => ∃ i : Nat, i + m = els.length ∧ iv = .int .i64 i ∧ OutAt wr wo.heap.size 30 ov ((els.take i).map (rowOf d)) ∧ Below wo.heap.size wo wr)
    case atStart => exact ⟨0, by omega, rfl, OutAt.nil _ _ _, Below.refl _ _⟩
    case round =>
      obtain ⟨i, him, rfl, hout, hbr⟩ := hrel
      have hsr := hbr.size
      cases gm : gk with
      | zero =>
        subst gm
        obtain rfl : i = els.length := by omega
        rw [List.take_length] at hout
        obtain ⟨a, c, rfl, hri⟩ := hout.rowsIn (by omega)
        clear hout
        go_wp2_with fail
        exact bodyPost_ret (v := .tuple #[.slice a ((els.map (rowOf d)).length : Nat) c, .int .i64 0]) (by simp [results, Try.results7, go_sem]) rfl ⟨a, c, rfl, hri, hb1.trans (hbr.mono hb1.size)⟩
      | succ m =>
        subst gm
        have hil : i < els.length := by omega
        have hg1r := below_cell hbr hgl hg1
        have hdr := below_cell hbr hgl HDEG.out
        have he0 := below_cell hbr (p := ⟨eb, i * 5 + 0, none⟩) hel (HEL.out i 0 hil (by omega))
        have he1 := below_cell hbr (p := ⟨eb, i * 5 + 1, none⟩) hel (HEL.out i 1 hil (by omega))
        have he2 := below_cell hbr (p := ⟨eb, i * 5 + 2, none⟩) hel (HEL.out i 2 hil (by omega))
        have he3 := below_cell hbr (p := ⟨eb, i * 5 + 3, none⟩) hel (HEL.out i 3 hil (by omega))
        have he4 := below_cell hbr (p := ⟨eb, i * 5 + 4, none⟩) hel (HEL.out i 4 hil (by omega))
        rw [Nat.add_zero] at he0
        have hrow : (els.take (i + 1)).map (rowOf d) = (els.take i).map (rowOf d) ++ [rowOf d (els.getD i 0)] := by
          rw [List.take_add_one, List.getElem?_eq_getElem hil, List.getD_eq_getElem?_getD, List.getElem?_eq_getElem hil, List.map_append]; rfl
        have hrl : ((els.take i).map (rowOf d)).length = i := by simp; omega
        have HROW := Lib.hid hrow
        have HOUT := Lib.hid hout
        clear hrow hout
        generalize (els.take i).map (rowOf d) = rows at *
        generalize els.getD i 0 = c at *
        have hbA : Below wr.heap.size wr (wr.alloc (.cells (cellsP c) 46)) := (Below.refl _ _).alloc (Nat.le_refl _) _
        have hclone := Try.slices_Clone_int wr.heap.size 0 d 5 (digs c) (wr.alloc (.cells (cellsP c) 46)) (by show d ≤ 5; exact hd5) (by omega) (fun j hj => by
          have hj5 : j < 5 := hj
          rw [Nat.zero_add, cell_of_row _ _ j _ _ _ (heap_alloc_new wr _), cellsP_get c j hj5]
          have : j = 0 ∨ j = 1 ∨ j = 2 ∨ j = 3 ∨ j = 4 := by omega
          rcases this with rfl | rfl | rfl | rfl | rfl <;> rfl)
        rw [take_digs d c hd5] at hclone
        have HCL := Lib.hid hclone
        have hdA := below_cell hbA (by show gb < _; omega) hdr
        clear hclone
        unfold cellsP at HCL hdA
        have hdd : (0 : Int) ≤ (d : Int) ∧ (d : Int) ≤ 5 := by omega
        go_wp2_with fail
        refine HCL.out.mono ?_
        rintro e w2 ⟨v2, rfl, hown2, -, hb2⟩
        obtain ⟨la, lc, rfl, -, -⟩ := ownsRow_slice hown2
        have hb3 : Below wr.heap.size wr w2 := ((Below.refl _ _).alloc (Nat.le_refl _) _).trans (hb2.mono (by simp))
        have hbW : Below wr.heap.size wr (w2.alloc (.cells #[.slice la d lc] 30)) := hb3.alloc hb3.size _
        obtain ⟨vals, hownW, hrowsW⟩ := HOUT.out.below hbW
        have hown3 : (w2.alloc (.cells #[.slice la d lc] 30)).ownsRow (wr.alloc (.cells (cellsP c) 46)).heap.size 3 1 (.slice la d lc) d (iv (ints (rowOf d c))) := hown2.alloc _
        have hrow3 := row_of hown3 (rowOf_length d c).symm
        have hovl : ∀ k, u6.ownBlock = some k → k < wr.heap.size := fun k hk => by obtain ⟨_, ho, _⟩ := HOUT.out; exact (ho.lt k hk).2
        have HROW3 := Lib.hid hrow3
        have HOWNW := Lib.hid hownW
        have HRW := Lib.hid hrowsW
        have HOVL := Lib.hid hovl
        rw [hrl] at HOWNW
        have hs2 := hb3.size
        have hcl24 : i ≤ 24 := by omega
        clear HCL HOUT hown2 hown3 hrow3 hownW hrowsW hovl
        go_wp2_with (at_builtin; refine wpList_append_lies _ rfl (.tmp 26) (.tmp 33) 22 rfl wo.heap.size 30 i30 (.slice none 0 0) 1 24 Try.underlying22 HI30.out.1 HI30.out.2.1 HI30.out.2.2.1 HI30.out.2.2.2 rfl (by omega) u6 i vals rfl HOWNW.out ⟨w2.heap.size, 0, none⟩ 1 1 [.slice la d lc] rfl rfl (World.news_of_block (heap_alloc_new w2 _)) (by simp [Value.oneCell']) (by omega) (by unfold maxLen; omega) (by omega) (by simp; omega) (w2.heap.size + 1) (by simp) ?_; intro g cap8 w8 hown8 hgrow8 hat8 hlt8)
        go_roundg m
        case rel =>
          refine ⟨i + 1, by omega, by go_num, ?_, ?_⟩
          · rw [HROW.out, ← hrl]
            rw [← hrl] at hown8
            refine OutAt.push HRW.out (la := la) (lc := lc) (fun hp => ?_) (by rw [rowOf_length]; exact hown8) hgrow8 (hat8.imp id (fun h => by simp; omega))
            obtain ⟨rb, h1, h2, h3, h4⟩ := HROW3.out hp
            refine ⟨rb, h1, by simp at h2; omega, h3, fun e => ?_, h4⟩
            have := HOVL.out rb e
            simp at h2
            omega
          · exact (hbr.trans (hb3.mono hsr)).alloc (by omega) _ |>.grown hgrow8 (by simp; omega) (fun k hk => (HOWNW.out.lt k hk).1)
        case measure => omega
end Go.Proofs.Ytnejjgolmikplaa
