/- The walk of traces.Bouquets. -/
import Derived.Test.YtnejjgolmikplaaGood
import Derived.Test.YtnejjgolmikplaaCycles
namespace Go.Proofs.Ytnejjgolmikplaa
open Go.RowKit Go.Proofs

/-- How many cycles a permutation has. -/
def cycN (d c : Nat) : Nat := (cycOut c d 0 0 0).getD 0

theorem cycOut_le (c : Nat) : ∀ (m i s n r : Nat), cycOut c m i s n = some r → r ≤ n + m
  | 0, i, s, n, r, h => by simp [cycOut] at h; omega
  | m + 1, i, s, n, r, h => by
    simp only [cycOut] at h
    cases hc : cycIn c 9 s i with
    | none => rw [hc] at h; cases h
    | some s' =>
      rw [hc] at h
      have := cycOut_le c m (i + 1) s' _ r h
      split at this <;> omega

/-- All cycles end. -/
def CycEnd (d : Nat) (els : List Nat) : Prop := ∀ c ∈ els, cycOut c d 0 0 0 = some (cycN d c)

def powSum (d : Nat) (els : List Nat) (k : Nat) : Nat := (els.map fun c => k ^ cycN d c).sum

def bouqF (g : Grp) (k : Int) : Int × Int := match g with
  | .bad => (0, 2)
  | .big => if k < 0 ∨ 8 < k then (0, 2) else (0, 6)
  | .ok d els _ => if k < 0 ∨ 8 < k then (0, 2) else (((powSum d els k.toNat / els.length : Nat) : Int), 0)

theorem bouqF_out (g : Grp) (k : Int) (h : k < 0 ∨ 8 < k) : bouqF g k = (0, 2) := by cases g <;> simp [bouqF, h]

theorem bouqF_ok (d : Nat) (els : List Nat) (q kn : Nat) (h : kn ≤ 8) : bouqF (.ok d els q) (kn : Int) = (((powSum d els kn / els.length : Nat) : Int), 0) := by
  have hn : ¬ ((kn : Int) < 0 ∨ 8 < (kn : Int)) := by omega
  simp only [bouqF, if_neg hn, Int.toNat_natCast]

theorem pow_small (k t : Nat) (hk : k ≤ 8) (ht : t ≤ 5) : k ^ t ≤ 32768 := by
  have h1 : k ^ t ≤ 8 ^ t := Nat.pow_le_pow_left hk t
  have h2 : 8 ^ t ≤ 8 ^ 5 := Nat.pow_le_pow_right (by omega) ht
  omega

theorem sum_take (f : Nat → Nat) (els : List Nat) (i : Nat) (h : i < els.length) : ((els.take (i + 1)).map f).sum = ((els.take i).map f).sum + f (els.getD i 0) := by
  rw [List.take_add_one, List.getElem?_eq_getElem h, List.getD_eq_getElem?_getD, List.getElem?_eq_getElem h, List.map_append, List.sum_append]
  simp

theorem sum_bound (f : Nat → Nat) (M : Nat) : ∀ (els : List Nat), (∀ c ∈ els, f c ≤ M) → (els.map f).sum ≤ els.length * M
  | [], _ => by simp
  | c :: els, h => by
    have h1 := h c (by simp)
    have h2 := sum_bound f M els (fun x hx => h x (by simp [hx]))
    simp only [List.map_cons, List.sum_cons, List.length_cons, Nat.succ_mul]
    omega

set_option maxHeartbeats 4000000 in
set_option maxRecDepth 100000 in
theorem bouquets_any (HG : AllGood) (ga : Option Addr) (gc : Nat) (gs : List (List Int)) (k : Int) (w : World) (hrows : RowsIn w ga gs) (hl : gs.length ≤ 1000) (hsm : ∀ j, j < gs.length → (gs.getD j []).length ≤ 1000)
    (hcy : ∀ d els q, grpOf gs = .ok d els q → CycEnd d els) :
    Calls Try.prog 5 #[.slice ga gs.length gc, .int .i64 k] w fun e w' => e = .returned (.tuple #[.int .i64 (bouqF (grpOf gs) k).1, .int .i64 (bouqF (grpOf gs) k).2]) ∧ Below w.heap.size w w' := by
  have hread := read_all HG ga gc gs w hrows hl hsm
  have HR := Lib.hid hread
  have HCY := Lib.hid hcy
  clear hread hrows hsm hcy
  generalize grpOf gs = g at *
  go_enter Try.func5, Try.ntmps5
  go_wp2_with fail
  refine HR.out.mono ?_
  rintro e w1 ⟨hb1, hpost⟩
  cases g with
  | bad =>
    subst hpost
    go_wp2_with fail
    exact bodyPost_ret (v := .tuple #[.int .i64 0, .int .i64 2]) (by simp [results, Try.results5, go_sem]) rfl ⟨rfl, hb1⟩
  | big =>
    subst hpost
    by_cases hk : k < 0
    · have hq1 : decide (k < 0) = true := by simp; omega
      go_wp2_with fail
      exact bodyPost_ret (v := .tuple #[.int .i64 0, .int .i64 2]) (by simp [results, Try.results5, go_sem]) rfl ⟨by rw [bouqF_out _ _ (by omega)], hb1⟩
    have hq1 : decide (k < 0) = false := by simp; omega
    by_cases hk8 : 8 < k
    · have hq2 : decide (8 < k) = true := by simp; omega
      go_wp2_with fail
      exact bodyPost_ret (v := .tuple #[.int .i64 0, .int .i64 2]) (by simp [results, Try.results5, go_sem]) rfl ⟨by rw [bouqF_out _ _ (by omega)], hb1⟩
    have hq2 : decide (8 < k) = false := by simp; omega
    go_wp2_with fail
    exact bodyPost_ret (v := .tuple #[.int .i64 0, .int .i64 6]) (by simp [results, Try.results5, go_sem]) rfl ⟨by unfold bouqF; rw [if_neg (by omega)], hb1⟩
  | ok d els q =>
    obtain ⟨hgood, hd5, hd1, gb, hgb, rfl, hat⟩ := hpost
    have hcyc := HCY.out d els q rfl
    by_cases hk : k < 0
    · have hq1 : decide (k < 0) = true := by simp; omega
      go_wp2_with fail
      exact bodyPost_ret (v := .tuple #[.int .i64 0, .int .i64 2]) (by simp [results, Try.results5, go_sem]) rfl ⟨by rw [bouqF_out _ _ (by omega)], hb1⟩
    have hq1 : decide (k < 0) = false := by simp; omega
    by_cases hk8 : 8 < k
    · have hq2 : decide (8 < k) = true := by simp; omega
      go_wp2_with fail
      exact bodyPost_ret (v := .tuple #[.int .i64 0, .int .i64 2]) (by simp [results, Try.results5, go_sem]) rfl ⟨by rw [bouqF_out _ _ (by omega)], hb1⟩
    have hq2 : decide (8 < k) = false := by simp; omega
    obtain ⟨kn, rfl⟩ : ∃ kn : Nat, k = kn := ⟨k.toNat, by omega⟩
    have hres := bouqF_ok d els q kn (by omega)
    obtain ⟨⟨eb, mb, cap, hA⟩, hdeg, -⟩ := hat
    have hg1 := hA.at_.he
    have hlen := hgood.gok.len
    have hpos := hgood.gok.pos
    have hkn : kn ≤ 8 := by omega
    have HOK := Lib.hid hgood.gok.ok
    have HCYC := Lib.hid hcyc
    have HEL := Lib.hid hA.at_.hel
    have HDEG := Lib.hid hdeg
    have HRES := Lib.hid hres
    have hgl := hA.hg
    have hel := hA.he
    have hbd : ∀ i, ((els.take i).map fun c => kn ^ cycN d c).sum ≤ 24 * 32768 := fun i => by
      have h1 := sum_bound (fun c => kn ^ cycN d c) 32768 (els.take i) (fun c hc => pow_small _ _ hkn (by
        have h2 := cycOut_le c d 0 0 0 _ (hcyc c (List.mem_of_mem_take hc)); omega))
      have h3 : (els.take i).length * 32768 ≤ 24 * 32768 := Nat.mul_le_mul_right _ (by simp; omega)
      omega
    have HBD := Lib.hid hbd
    clear hgood hcyc hA hdeg hbd hres
    go_wp2_with fail
    obtain ⟨wo, hwo⟩ : ∃ wo : World, wo = w1 := ⟨_, rfl⟩
    subst hwo
    go_loopg [8, 37] els.length (fun m sv iv wr => ∃ i : Nat, i + m = els.length ∧ iv = .int .i64 i ∧ sv = .int .i64 ((((els.take i).map fun c => kn ^ cycN d c).sum : Nat) : Int) ∧ Below wo.heap.size wo wr)
    case atStart => exact ⟨0, by omega, rfl, by simp, Below.refl _ _⟩
    case round =>
      obtain ⟨i, him, rfl, rfl, hbr⟩ := hrel
      have hg1r := below_cell hbr hgl hg1
      have hsi := HBD.out i
      cases gm : gk with
      | zero =>
        subst gm
        obtain rfl : i = els.length := by omega
        rw [List.take_length] at hsi ⊢
        have hT : powSum d els kn = (els.map fun c => kn ^ cycN d c).sum := rfl
        have HT := Lib.hid hT
        clear hT
        generalize (els.map fun c => kn ^ cycN d c).sum = S at *
        have hdv : wrap64 ((S : Int) / (els.length : Int)) = ((S / els.length : Nat) : Int) := by
          have e : ((S / els.length : Nat) : Int) = (S : Int) / (els.length : Int) := by simp
          have h2 := Nat.div_le_self S els.length
          rw [← e]
          generalize S / els.length = D at *
          rw [IntWalk.wrap64_in _ (by omega)]
        go_wp2_with fail
        exact bodyPost_ret (v := .tuple #[.int .i64 ((S / els.length : Nat) : Int), .int .i64 0]) (by simp [results, Try.results5, go_sem, hdv]) rfl ⟨by rw [HRES.out, HT.out], hb1.trans (hbr.mono (hb1.size))⟩
      | succ m =>
        subst gm
        have hil : i < els.length := by omega
        have hmem := getD_mem els i hil
        have hok := HOK.out _ hmem
        have hcc := HCYC.out _ hmem
        have hle := cycOut_le _ d 0 0 0 _ hcc
        have hst : ((els.take (i + 1)).map fun c => kn ^ cycN d c).sum = ((els.take i).map fun c => kn ^ cycN d c).sum + kn ^ cycN d (els.getD i 0) := sum_take (fun c => kn ^ cycN d c) els i hil
        have hsi1 := HBD.out (i + 1)
        have he0 := below_cell hbr (p := ⟨eb, i * 5 + 0, none⟩) hel (HEL.out i 0 hil (by omega))
        have he1 := below_cell hbr (p := ⟨eb, i * 5 + 1, none⟩) hel (HEL.out i 1 hil (by omega))
        have he2 := below_cell hbr (p := ⟨eb, i * 5 + 2, none⟩) hel (HEL.out i 2 hil (by omega))
        have he3 := below_cell hbr (p := ⟨eb, i * 5 + 3, none⟩) hel (HEL.out i 3 hil (by omega))
        have he4 := below_cell hbr (p := ⟨eb, i * 5 + 4, none⟩) hel (HEL.out i 4 hil (by omega))
        rw [Nat.add_zero] at he0
        rw [hst] at hsi1
        have HST := Lib.hid hst
        generalize ((els.take i).map fun c => kn ^ cycN d c).sum = S at *
        generalize els.getD i 0 = c at *
        generalize cycN d c = cy at *
        have hbA : Below wr.heap.size wr (wr.alloc (.cells (cellsP c) 46)) := (Below.refl _ _).alloc (Nat.le_refl _) _
        have hcall := cycles_g gb d c cy (wr.alloc (.cells (cellsP c) 46)) hok hd5 (below_cell hbA (by show gb < _; have := hbr.size; omega) (below_cell hbr hgl HDEG.out)) hcc
        have HCALL := Lib.hid hcall
        unfold cellsP at HCALL
        clear hcall hcc hok hst
        go_wp2_with fail
        refine HCALL.out.mono ?_
        rintro e w2 ⟨rfl, hb2⟩
        have hb3 : Below wo.heap.size wo w2 := hbr.trans ((((Below.refl _ _).alloc (Nat.le_refl _) _).trans (hb2.mono (by simp))).mono hbr.size)
        clear HCALL
        go_wp2_with fail
        go_loopg [11, 44] cy (fun l pv iv wx => ∃ t : Nat, t + l = cy ∧ iv = .int .i64 t ∧ pv = .int .i64 ((kn ^ t : Nat) : Int) ∧ wx = w2)
        case atStart => exact ⟨0, by omega, rfl, by simp, rfl⟩
        case round =>
          obtain ⟨t, htl, rfl, rfl, rfl⟩ := hrel
          have hpt := pow_small kn t hkn (by omega)
          cases gl : gk with
          | zero =>
            subst gl
            obtain rfl : t = cy := by omega
            generalize kn ^ t = x at *
            go_wp2_with fail
            go_roundg m
            case rel => exact ⟨i + 1, by omega, by go_num, by rw [HST.out]; go_num, hb3⟩
            case measure => omega
          | succ l =>
            subst gl
            have hps : kn ^ (t + 1) = kn ^ t * kn := Nat.pow_succ ..
            have HPS := Lib.hid hps
            have hp1 := pow_small kn (t + 1) hkn (by omega)
            rw [hps] at hp1
            clear hps
            generalize kn ^ t = x at *
            have hx1 : (0 : Int) ≤ (x : Int) * (kn : Int) ∧ (x : Int) * (kn : Int) ≤ 32768 := by
              have : ((x * kn : Nat) : Int) = (x : Int) * (kn : Int) := by push_cast; rfl
              omega
            go_wp2_with fail
            go_roundg l
            case rel => exact ⟨t + 1, by omega, by go_num, by rw [HPS.out]; push_cast; rfl, rfl⟩
            case measure => omega
end Go.Proofs.Ytnejjgolmikplaa
