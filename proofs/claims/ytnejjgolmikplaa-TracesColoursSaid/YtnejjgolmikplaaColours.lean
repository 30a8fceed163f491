/- The walk of the law TracesColours. -/
import Derived.Test.YtnejjgolmikplaaAwake
import Derived.Test.YtnejjgolmikplaaColFact
import Derived.Test.YtnejjgolmikplaaLawTab2
namespace Go.Proofs.Ytnejjgolmikplaa
open Go.RowKit Go.Proofs

theorem powSum_le {d : Nat} {els : List Nat} (hd : d ≤ 5) (hl : els.length ≤ 24) (hc : CycEnd d els) (k : Nat) (hk : k ≤ 8) (i : Nat) : ((els.take i).map fun c => k ^ cycN d c).sum ≤ 786432 := by
  have h1 := sum_bound (fun c => k ^ cycN d c) 32768 (els.take i) (fun c hm => pow_small _ _ hk (by
    have h2 := cycOut_le c d 0 0 0 _ (hc c (List.mem_of_mem_take hm)); omega))
  have h3 : (els.take i).length * 32768 ≤ 24 * 32768 := Nat.mul_le_mul_right _ (by simp; omega)
  omega

set_option maxHeartbeats 4000000 in
set_option maxRecDepth 100000 in
theorem colours_any (ga : Option Addr) (gc : Nat) (gs : List (List Int)) (k : Int) (w : World) (h : ArgRows w ga gs) (hl : gs.length ≤ 9223372036854775807) :
    Calls Try.prog 3 #[.slice ga gs.length gc, .int .i64 k] w fun e w' => e = .returned (.bool true) ∧ Below w.heap.size w w' := by
  have ht1 := table_g ga gc gs w h hl
  have HT1 := Lib.hid ht1
  have HA := Lib.hid h
  clear ht1 h
  go_enter Try.func3, Try.ntmps3
  go_wp2_with fail
  refine HT1.out.mono ?_
  rintro e w1 ⟨a1, c1, rfl, hr1, hb1⟩
  have hcy : ∀ d els q, grpOf (tabF gs) = .ok d els q → CycEnd d els := fun d els q hg => by
    rcases grp_rec (tabF gs) with h | h | ⟨r, hr, h, -⟩
    · rw [h] at hg; cases hg
    · rw [h] at hg; cases hg
    · rw [h] at hg
      injection hg with h1 h2 h3
      subst h1; subst h2
      exact (col_of hr).cyc
  have hbo := bouquets_any allGood a1 c1 (tabF gs) k w1 hr1 (by have := tabF_len gs; omega) (fun j _ => by have := tabF_row gs j; omega) hcy
  have HBO := Lib.hid hbo
  clear hr1 hbo hcy HT1
  go_wp2_with fail
  refine HBO.out.mono ?_
  rintro e w2 ⟨rfl, hb2⟩
  have hb02 := hb1.trans (hb2.mono hb1.size)
  have ht2 := table_g ga gc gs w2 (HA.out.below hb02) hl
  have HT2 := Lib.hid ht2
  clear ht2 HBO
  go_wp2_with fail
  refine HT2.out.mono ?_
  rintro e w3 ⟨a3, c3, rfl, hr3, hb3⟩
  have hb03 := hb02.trans (hb3.mono hb02.size)
  have hel := elements_any allGood a3 c3 (tabF gs) w3 hr3 (by have := tabF_len gs; omega) (fun j _ => by have := tabF_row gs j; omega)
  have HEL := Lib.hid hel
  clear hr3 hel HT2
  go_wp2_with fail
  refine HEL.out.mono ?_
  rintro e w4 ⟨ea, ec, rfl, her, hb4⟩
  have hb04 := hb03.trans (hb4.mono hb03.size)
  have HER := Lib.hid her
  clear her HEL
  rcases grp_rec (tabF gs) with hg | hg | ⟨r, hr, hg, hgood⟩
  · rw [hg] at HER ⊢
    have e1 : bouqF .bad k = (0, 2) := rfl
    rw [e1]
    have haw := awake_ok w4
    have HAW := Lib.hid haw
    clear haw e1 hg
    go_wp2_with fail
    refine HAW.out.mono ?_
    rintro e w5 ⟨rfl, hb5⟩
    go_wp2_with fail
    go_ret
    exact ⟨rfl, hb04.trans (hb5.mono hb04.size)⟩
  · rw [hg] at HER ⊢
    have haw := awake_ok w4
    have HAW := Lib.hid haw
    have e2 : (elemF Grp.big).2 = 6 := rfl
    rw [e2]
    clear haw hg e2
    by_cases hk : k < 0 ∨ 8 < k
    · rw [bouqF_out _ _ hk]
      clear hk
      go_wp2_with fail
      refine HAW.out.mono ?_
      rintro e w5 ⟨rfl, hb5⟩
      go_wp2_with fail
      go_ret
      exact ⟨rfl, hb04.trans (hb5.mono hb04.size)⟩
    · have e3 : bouqF Grp.big k = (0, 6) := by unfold bouqF; rw [if_neg hk]
      rw [e3]
      clear e3 hk
      go_wp2_with fail
      refine HAW.out.mono ?_
      rintro e w5 ⟨rfl, hb5⟩
      go_wp2_with fail
      go_ret
      exact ⟨rfl, hb04.trans (hb5.mono hb04.size)⟩
  · rw [hg] at HER ⊢
    have hcol := col_of hr
    have hg1 := hgood.good.gok.len
    have hg2 := hgood.good.gok.pos
    by_cases hk : k < 0 ∨ 8 < k
    · rw [bouqF_out _ _ hk]
      have haw := awake_ok w4
      have HAW := Lib.hid haw
      clear hk haw hg hgood hcol
      go_wp2_with fail
      refine HAW.out.mono ?_
      rintro e w5 ⟨rfl, hb5⟩
      go_wp2_with fail
      go_ret
      exact ⟨rfl, hb04.trans (hb5.mono hb04.size)⟩
    · obtain ⟨kn, rfl⟩ : ∃ kn : Nat, k = kn := ⟨k.toNat, by omega⟩
      rw [bouqF_ok _ _ _ kn (by omega)]
      have e4 : (elemF (Grp.ok r.d r.els r.q)).1 = r.els.map (rowOf r.d) := rfl
      have e5 : (elemF (Grp.ok r.d r.els r.q)).2 = 0 := rfl
      rw [e4] at HER
      rw [e4, e5, List.length_map]
      have hkn : kn ≤ 8 := by omega
      have hdiv := hcol.div kn hkn
      have hd5 := hcol.d5
      have hcyc := hcol.cyc
      have hlaw := hcol.law
      have hrowlt := hcol.row
      clear hg hgood hcol hk e4 e5
      generalize r.els = els at *
      generalize r.d = d at *
      have HDIV := Lib.hid hdiv
      have HCYC := Lib.hid hcyc
      have HLAW := Lib.hid hlaw
      have HRL := Lib.hid hrowlt
      have hl0 : ((els.length : Int) == 0) = false := by rw [beq_eq_false_iff_ne]; omega
      clear hdiv hcyc hlaw hrowlt
      generalize hPS : powSum d els kn / els.length = N at *
      have HN := Lib.hid hPS
      clear hPS
      go_wp2_with fail
      go_loopg [9, 54] els.length (fun m sv iv wr => ∃ i : Nat, i + m = els.length ∧ iv = .int .i64 i ∧ sv = .int .i64 ((((els.take i).map fun c => kn ^ cycN d c).sum : Nat) : Int) ∧ wr = w4)
      case atStart => exact ⟨0, by omega, rfl, by simp, rfl⟩
      case round =>
        obtain ⟨i, him, rfl, rfl, rfl⟩ := hrel
        have hsle := powSum_le hd5 hg1 HCYC.out kn hkn i
        cases gm : gk with
        | zero =>
          subst gm
          obtain rfl : i = els.length := by omega
          rw [List.take_length] at hsle ⊢
          have hT : powSum d els kn = (els.map fun c => kn ^ cycN d c).sum := rfl
          have hn := HN.out
          have hdv := HDIV.out
          rw [hT] at hn hdv
          generalize (els.map fun c => kn ^ cycN d c).sum = S at *
          have haw := awake_ok wr
          have HAW := Lib.hid haw
          have hm1 : (S : Int) % (els.length : Int) = 0 := by rw [← natmod_cast, hdv]; rfl
          have hm2 : ((S : Int) % (els.length : Int) == 0) = true := by rw [hm1]; rfl
          have hd1 : (S : Int) / (els.length : Int) = (N : Int) := by rw [← hn]; simp
          have hdN : N ≤ S := by rw [← hn]; exact Nat.div_le_self _ _
          have hq0 : ((els.length : Int) == 0) = false := by rw [beq_eq_false_iff_ne]; omega
          have hNN : ((N : Int) == (N : Int)) = true := by simp
          have HM1 := Lib.hid hm1
          have HD1 := Lib.hid hd1
          clear haw hT hn hdv hm1 hd1
          have hd1 := HD1.out
          go_wp2_with fail
          refine HAW.out.mono ?_
          rintro e w5 ⟨rfl, hb5⟩
          go_wp2_with fail
          go_ret
          exact ⟨rfl, hb04.trans (hb5.mono hb04.size)⟩
        | succ m =>
          subst gm
          have hil : i < els.length := by omega
          have hmem := getD_mem els i hil
          obtain ⟨eb, eo, rfl, heb, hec⟩ := HER.out (by simp; omega)
          obtain ⟨u, hu, ra, rc, rfl, hri⟩ := hec i (by simp; exact hil)
          have hrow : ((els.map (rowOf d)).map ints).getD i [] = ints (rowOf d (els.getD i 0)) := by
            rw [rows_getD]
            congr 1
            simp [List.getD_eq_getElem?_getD, List.getElem?_eq_getElem hil]
          rw [hrow] at hri hu
          rw [ints_length, rowOf_length] at hu
          have hlawr := HLAW.out _ hmem
          have hrlt := HRL.out _ hmem
          have hle := cycOut_le _ d 0 0 0 _ (HCYC.out _ hmem)
          have hst : ((els.take (i + 1)).map fun c => kn ^ cycN d c).sum = ((els.take i).map fun c => kn ^ cycN d c).sum + kn ^ cycN d (els.getD i 0) := sum_take (fun c => kn ^ cycN d c) els i hil
          have hsle1 := powSum_le hd5 hg1 HCYC.out kn hkn (i + 1)
          have hplen := rowOf_length d (els.getD i 0)
          rw [hst] at hsle1
          have HST := Lib.hid hst
          have HRI := Lib.hid hri
          have HRLT := Lib.hid hrlt
          have HLR := Lib.hid hlawr
          have HPL := Lib.hid hplen
          clear hst hrow hec hri hrlt hlawr hplen
          generalize rowOf d (els.getD i 0) = p at *
          generalize ((els.take i).map fun c => kn ^ cycN d c).sum = S at *
          generalize cycN d (els.getD i 0) = cy at *
          go_wp2_with fail
          clear hu
          go_loopg [12, 13, 60] d (fun l sv xv iv wx => ∃ t s n : Nat, t + l = d ∧ iv = .int .i64 t ∧ sv = .int .i64 s ∧ xv = .int .i64 ((kn ^ n : Nat) : Int) ∧ s < 32 ∧ n ≤ t ∧ wx = wr ∧ Hid (lawOut p l t s n = some cy))
          case atStart => exact ⟨0, 0, 0, by omega, rfl, rfl, by simp, by omega, by omega, rfl, HLR⟩
          case round =>
            obtain ⟨t, s, n, htl, rfl, rfl, rfl, hs, hnt, rfl, HI⟩ := hrel
            have hpt := pow_small kn n hkn (by omega)
            cases gl : gk with
            | zero =>
              subst gl
              have hi := HI.out
              simp only [lawOut, Option.some.injEq] at hi
              subst hi
              generalize kn ^ n = x at *
              clear HI
              go_wp2_with fail
              go_roundg m
              case rel => exact ⟨i + 1, by omega, by go_num, by rw [HST.out]; go_num, rfl⟩
              case measure => omega
            | succ l =>
              subst gl
              have ht5 : t < 5 := by omega
              have hi := HI.out
              simp only [lawOut] at hi
              rcases bit_cases s t hs with ⟨h0, hb⟩ | ⟨h0, hb⟩
              · rw [if_pos h0] at hi
                cases hli : lawIn p 9 s t with
                | none => rw [hli] at hi; cases hi
                | some s' =>
                  rw [hli] at hi
                  simp only at hi
                  have HI2 := Lib.hid hi
                  have HLI := Lib.hid hli
                  have hps : kn ^ (n + 1) = kn ^ n * kn := Nat.pow_succ ..
                  have HPS := Lib.hid hps
                  have hx1 : (0 : Int) ≤ ((kn ^ n : Nat) : Int) * (kn : Int) ∧ ((kn ^ n : Nat) : Int) * (kn : Int) ≤ 262144 := by
                    have h1 : kn ^ n * kn ≤ 32768 * 8 := Nat.mul_le_mul hpt hkn
                    have : ((kn ^ n * kn : Nat) : Int) = ((kn ^ n : Nat) : Int) * (kn : Int) := mul_cast _ _
                    omega
                  have hbb : (bits .and .i64 ((s : Int) / 2 ^ t) 1 == 1) = false := by rw [hb]; rfl
                  clear hi hli HI hps h0
                  generalize kn ^ n = x at *
                  go_wp2_with fail
                  go_loopg [12, 15] 9 (fun z sv jv wy => ∃ s1 j : Nat, sv = .int .i64 s1 ∧ jv = .int .i64 j ∧ s1 < 32 ∧ j < d ∧ wy = wr ∧ Hid (lawIn p z s1 j = some s'))
                  case atStart => exact ⟨s, t, rfl, rfl, hs, by omega, rfl, HLI⟩
                  case round =>
                    obtain ⟨s1, j, rfl, rfl, hs1, hjd, rfl, HI3⟩ := hrel
                    cases gz : gk with
                    | zero => subst gz; have hi := HI3.out; simp [lawIn] at hi
                    | succ z =>
                      subst gz
                      have hi := HI3.out
                      simp only [lawIn] at hi
                      rw [HPL.out] at hi
                      have hj5 : j < 5 := by omega
                      rcases bit_cases s1 j hs1 with ⟨h1, hb1⟩ | ⟨h1, hb1⟩
                      · rw [if_pos ⟨hjd, h1⟩] at hi
                        have HI4 := Lib.hid hi
                        have hg1 : decide ((j : Int) ≥ 0) = true := decide_eq_true (by omega)
                        have hg2 : decide ((j : Int) < (d : Int)) = true := decide_eq_true (by omega)
                        have hg3 : (bits .and .i64 ((s1 : Int) / 2 ^ j) 1 == 0) = true := by rw [hb1]; rfl
                        have ho := or_at s1 j hs1 hj5
                        have hol := or_lt s1 j hs1 hj5
                        have hjl : j < p.length := by rw [HPL.out]; exact hjd
                        have hpj := HRLT.out (p.getD j 0) (by rw [List.getD_eq_getElem?_getD, List.getElem?_eq_getElem hjl]; exact List.getElem_mem hjl)
                        obtain ⟨pb, po, rfl, hpb, hpc⟩ := HRI.out (by rw [ints_length]; omega)
                        have hpx := hpc j (by rw [ints_length]; exact hjl)
                        rw [ints_getD] at hpx
                        have HOL := Lib.hid hol
                        clear hi HI3 hpc h1 hol
                        generalize p.getD j 0 = y at *
                        go_wp2_with fail
                        go_roundg z
                        case rel => exact ⟨s1 ||| 2 ^ j, y, rfl, rfl, HOL.out, hpj, rfl, HI4⟩
                        case measure => omega
                      · rw [if_neg (by omega)] at hi
                        obtain rfl : s1 = s' := by simpa using hi
                        have hg1 : decide ((j : Int) ≥ 0) = true := decide_eq_true (by omega)
                        have hg2 : decide ((j : Int) < (d : Int)) = true := decide_eq_true (by omega)
                        have hg3 : (bits .and .i64 ((s1 : Int) / 2 ^ j) 1 == 0) = false := by rw [hb1]; rfl
                        clear hi HI3 h1
                        go_wp2_with fail
                        go_roundg l
                        case rel => exact ⟨t + 1, s1, n + 1, by omega, by go_num, rfl, by rw [HPS.out]; push_cast; rfl, hs1, by omega, rfl, HI2⟩
                        case measure => omega
              · rw [if_neg (by omega)] at hi
                have HI2 := Lib.hid hi
                have hbb : (bits .and .i64 ((s : Int) / 2 ^ t) 1 == 1) = true := by rw [hb]; rfl
                clear hi HI h0
                go_wp2_with fail
                go_roundg l
                case rel => exact ⟨t + 1, s, n, by omega, by go_num, rfl, rfl, hs, by omega, rfl, HI2⟩
                case measure => omega

end Go.Proofs.Ytnejjgolmikplaa
