/- The walk of (*group).function. -/
import Derived.Test.YtnejjgolmikplaaSplit
import Derived.Test.YtnejjgolmikplaaTail
namespace Go.Proofs.Ytnejjgolmikplaa
open Go.RowKit Go.Proofs

def degF (q s : Nat) : Nat → Nat → Option Nat
  | 0, _ => none
  | k + 1, d => if d * d % q = s then some d else degF q s k (d + 1)
def funSum (q by_ : Nat) (v : List Nat) (back : List Int) : List (List Nat) → Nat → Nat → Option Nat
  | [], _, acc => some acc
  | l :: cls, c, acc => match overF q (l.length : Nat) 1000 1 with
    | none => none
    | some o => funSum q by_ v back cls (c + 1) (acc + (v.getD c 0 * by_ % q) * (v.getD (back.getD c 0).toNat 0 * by_ % q) % q * o)
def funOut (q by_ dg_ : Nat) (v : List Nat) : List (List Nat) → Nat → List Nat → Option (List Nat)
  | [], _, out => some out
  | l :: cls, c, out => match overF q (l.length : Nat) 1000 1 with
    | none => none
    | some o => funOut q by_ dg_ v cls (c + 1) (out ++ [v.getD c 0 * by_ % q * dg_ % q * o % q])
def functionF (q nel : Nat) (cls : List (List Nat)) (back : List Int) (v : List Nat) : Option (List Nat) :=
  match overF q (v.getD 0 0 : Nat) 1000 1 with
  | none => none
  | some by_ => match funSum q by_ v back cls 0 0 with
    | none => none
    | some sum => match overF q (sum : Nat) 1000 1 with
      | none => none
      | some o => match degF q (nel * o % q) 1000 1 with
        | none => none
        | some d => funOut q by_ d v cls 0 []

theorem degF_lt (q s : Nat) : ∀ (k x r : Nat), degF q s k x = some r → r < x + k
  | 0, x, r, h => by simp [degF] at h
  | k + 1, x, r, h => by
    simp only [degF] at h
    by_cases h0 : x * x % q = s
    · rw [if_pos h0] at h
      injection h with h
      omega
    · rw [if_neg h0] at h
      have := degF_lt q s k (x + 1) r h
      omega

theorem mul_cast (a b : Nat) : ((a * b : Nat) : Int) = (a : Int) * (b : Int) := by push_cast; rfl
theorem natmod_cast (a b : Nat) : ((a % b : Nat) : Int) = (a : Int) % (b : Int) := by simp
theorem mul_wrap (a b M : Nat) (h : a * b ≤ M) (hM : M ≤ 1000000000000000000) : IntKind.i64.wrap ((a : Int) * (b : Int)) = ((a * b : Nat) : Int) := by
  rw [mul_cast]
  have : ((a * b : Nat) : Int) = (a : Int) * (b : Int) := mul_cast a b
  exact IntWalk.i64_in _ (by omega)

/-- Only draws lie between. -/
def Drawn (w w' : World) : Prop := ∃ k, w' = w.drewN k
theorem Drawn.refl (w : World) : Drawn w w := ⟨0, rfl⟩
theorem Drawn.more {w w' : World} (h : Drawn w w') (n : Nat) : Drawn w (w'.drewN n) := by
  obtain ⟨k, rfl⟩ := h
  exact ⟨k + n, World.drewN_drewN _ _ _⟩
theorem Drawn.below {w w' : World} (h : Drawn w w') : Below w.heap.size w w' := by
  obtain ⟨k, rfl⟩ := h
  exact below_drewN w k
theorem Drawn.cell {w w' : World} (h : Drawn w w') {p : Addr} {v : Value} (hc : w.cell? p = some v) : w'.cell? p = some v := by
  obtain ⟨k, rfl⟩ := h
  exact hc

/-- .. said of the heap alone. -/
def Same (w w' : World) : Prop := Below w.heap.size w w' ∧ w'.heap = w.heap
theorem Same.refl (w : World) : Same w w := ⟨Below.refl _ _, rfl⟩
theorem Same.drew {w w' : World} (h : Same w w') : Same w w'.drew := ⟨h.1.drew, h.2⟩
theorem Same.drewN {w w' : World} (h : Same w w') (n : Nat) : Same w (w'.drewN n) := ⟨h.1.trans ((below_drewN w' n).mono h.1.size), h.2⟩
theorem Same.cell {w w' : World} (h : Same w w') {p : Addr} {v : Value} (hc : w.cell? p = some v) : w'.cell? p = some v := by
  rw [World.cell?, h.2]; exact hc

theorem funOut_len (q by_ dg_ : Nat) (v : List Nat) : ∀ (cls : List (List Nat)) (c : Nat) (out r : List Nat), funOut q by_ dg_ v cls c out = some r → r.length = out.length + cls.length
  | [], _, out, r, h => by simp [funOut] at h; simp [h]
  | l :: cls, c, out, r, h => by
    simp only [funOut] at h
    cases ho : overF q (l.length : Nat) 1000 1 with
    | none => rw [ho] at h; cases h
    | some o =>
      rw [ho] at h
      have := funOut_len q by_ dg_ v cls _ _ r h
      simp at this ⊢
      omega

theorem funSum_le (q by_ : Nat) (v : List Nat) (back : List Int) (hq : 1 ≤ q) (hq2 : q ≤ 1000) : ∀ (cls : List (List Nat)) (c acc r : Nat), funSum q by_ v back cls c acc = some r → r ≤ acc + cls.length * 1000000
  | [], _, acc, r, h => by simp [funSum] at h; omega
  | l :: cls, c, acc, r, h => by
    simp only [funSum] at h
    cases ho : overF q (l.length : Nat) 1000 1 with
    | none => rw [ho] at h; cases h
    | some o =>
      rw [ho] at h
      have h1 := funSum_le q by_ v back hq hq2 cls _ _ r h
      have h2 := overF_lt q _ _ _ _ ho
      have h3 := Nat.mod_lt ((v.getD c 0 * by_ % q) * (v.getD (back.getD c 0).toNat 0 * by_ % q)) (show q > 0 by omega)
      have h4 : (v.getD c 0 * by_ % q) * (v.getD (back.getD c 0).toNat 0 * by_ % q) % q * o ≤ 1000 * 1000 := Nat.mul_le_mul (by omega) (by omega)
      simp only [List.length_cons]
      omega

/-- Numbers as cells. -/
def iv0 (l : List Nat) : List Value := iv (ints l)
theorem iv0_snoc (l : List Nat) (x : Nat) : iv0 (l ++ [x]) = iv0 l ++ [.int .i64 (x : Nat)] := by simp [iv0, iv, ints]

theorem wrap_nat (a : Nat) (h : a ≤ 9000000000000000000) : IntKind.i64.wrap ((a : Nat) : Int) = (a : Nat) := IntWalk.i64_in _ (by omega)
theorem tmod_nat (a b : Nat) : ((a : Int)).tmod (b : Int) = ((a % b : Nat) : Int) := by
  rw [Int.tmod_eq_emod_of_nonneg (by omega)]; simp

set_option maxHeartbeats 1000000 in
set_option maxRecDepth 100000 in
theorem function_g {gb d q n : Nat} {els : List Nat} (vv : Value) (v : List Nat) (w : World) (h : GrpAt w gb d els q) (K : (clsOf els).2.length = n) (hn : 0 < n) (hn24 : n ≤ 24) (hl24 : els.length ≤ 24) (hcl : ∀ j, j < n → ((clsOf els).2.getD j []).length ≤ 24)
    (hback : ∀ j, j < n → 0 ≤ (backOf els (clsOf els).1 (clsOf els).2).getD j 0 ∧ (backOf els (clsOf els).1 (clsOf els).2).getD j 0 < (n : Int))
    (hq1 : 1 ≤ q) (hq2 : q ≤ 1000) (hv : HVec w noBad vv v) (hvl : v.length = n) (hvle : ∀ i, v.getD i 0 ≤ 1000) (r : List Nat) (hr : functionF q els.length (clsOf els).2 (backOf els (clsOf els).1 (clsOf els).2) v = some r) :
    Calls Try.prog 36 #[.pointer (some ⟨gb, 0, none⟩), vv] w fun e w' => ∃ v', e = .returned v' ∧ w'.ownsRow w.heap.size 3 1 v' n (iv (ints r)) ∧ r.length = n ∧ Below w.heap.size w w' := by
  obtain ⟨i3, hi3⟩ := info_parts (by kernel_rfl : (Try.prog.info? 3).map (fun i => (i.zero, i.size, i.bytes)) = some (some (.int .i64 0), 1, 8))
  have HI3 := Lib.hid hi3
  obtain ⟨⟨eb, mb, cap, hA⟩, -, ⟨ca, cc, h3, hcls⟩, -, ⟨ba, bc, h5, hbk⟩, h6, hgl⟩ := h
  have h1 := hA.at_.he
  obtain ⟨va, vc, rfl, hvi⟩ := hv.intsIn
  rw [hvl]
  obtain ⟨vb, vo, rfl, hvb, hvc⟩ := hvi (by rw [ints_length]; omega)
  rw [ints_length, hvl] at hvc
  have hv0 := hvc 0 hn
  rw [Nat.add_zero, ints_getD] at hv0
  generalize hbl : backOf els (clsOf els).1 (clsOf els).2 = back at *
  have hbkl : back.length = n := by rw [← hbl, ← K]; simp [backOf]
  have HBKL := Lib.hid hbkl
  generalize (clsOf els).2 = cls at *
  obtain ⟨cb, co, rfl, hcb, hcr⟩ := hcls (by rw [List.length_map, K]; exact hn)
  obtain ⟨bb, bo, rfl, hbb, hbc⟩ := hbk (by rw [hbkl]; exact hn)
  rw [K] at h3 h5
  rw [hbkl] at hbc
  have HCR := Lib.hid hcr
  have HBC := Lib.hid hbc
  have HVC := Lib.hid hvc
  have HK := Lib.hid K
  have HCL := Lib.hid hcl
  have HBACK := Lib.hid hback
  have HVLE := Lib.hid hvle
  have hv0l := hvle 0
  have hR := hr
  unfold functionF at hR
  clear hi3 hcr hbc hvc hcl hback hvle hr hbl hbkl K hcls hbk hvi hA hv hvl
  generalize v.getD 0 0 = v0 at *
  cases hby : overF q (v0 : Nat) 1000 1 with
  | none => rw [hby] at hR; cases hR
  | some by_ =>
    rw [hby] at hR
    simp only at hR
    have hbyl : by_ ≤ 1000 := by have := overF_lt q _ _ _ _ hby; omega
    have HR := Lib.hid hR
    have hov := over_q q gb (v0 : Int) w hq1 hq2 (by omega) (by omega) h6 1000 by_ (by omega) hby
    have HOV := Lib.hid hov
    clear hR hby hov
    go_enter Try.func36, Try.ntmps36
    go_wp2_with fail
    refine HOV.out.mono ?_
    rintro e w1 ⟨rfl, k1, hw1⟩
    have hD1 : Drawn w w1 := ⟨k1, hw1⟩
    clear hw1 HOV
    have hg3 := hD1.cell h3
    go_wp2_with fail
    clear hg3
    cases hsum : funSum q by_ v back cls 0 0 with
    | none => have hR := HR.out; rw [hsum] at hR; cases hR
    | some sum =>
      have hR := HR.out
      rw [hsum] at hR
      simp only at hR
      have HR2 := Lib.hid hR
      have hsl := funSum_le q by_ v back hq1 hq2 _ _ _ _ hsum
      rw [HK.out] at hsl
      have HSUM := Lib.hid hsum
      have HD1 := Lib.hid hD1
      clear hR HR hsum hD1
      go_loopg [6, 24] n (fun m sv iv wr => ∃ (c acc : Nat), c + m = n ∧ acc ≤ c * 1000000 ∧ iv = .int .i64 c ∧ sv = .int .i64 acc ∧ Hid (Drawn w wr) ∧ Hid (funSum q by_ v back (cls.drop c) c acc = some sum))
      case atStart => exact ⟨0, 0, by omega, by omega, rfl, rfl, HD1, by simpa using HSUM⟩
      case round =>
        obtain ⟨c, acc, hcm, haccl, rfl, rfl, HD, HI⟩ := hrel
        clear HSUM HD1
        have hi := HI.out
        cases gm : gk with
        | zero =>
          subst gm
          rw [List.drop_of_length_le (by have := HK.out; omega)] at hi
          simp only [funSum, Option.some.injEq] at hi
          subst hi
          clear HI
          have hdc : decide (c < n) = false := decide_eq_false (by omega)
          have hdc2 : decide ((c : Int) < (n : Int)) = false := decide_eq_false (by omega)
          have hg1 := HD.out.cell h1
          have hg6 := HD.out.cell h6
          have hR := HR2.out
          cases hos : overF q (acc : Nat) 1000 1 with
          | none => rw [hos] at hR; cases hR
          | some os =>
            rw [hos] at hR
            simp only at hR
            have hosl := overF_lt q _ _ _ _ hos
            have hnl : els.length * os ≤ 24 * 1000 := Nat.mul_le_mul hl24 (by omega)
            have hoo := fun nq => over_q q gb (acc : Nat) (wr.drewN nq) hq1 hq2 (by omega) (by omega) hg6 1000 os (by omega) hos
            have hmx : ∀ nq, Calls Try.prog 44 #[.pointer (some ⟨gb, 0, none⟩), .int .i64 ((els.length * os : Nat) : Int)] (wr.drewN nq) fun e w' => e = .returned (.int .i64 ((els.length * os % q : Nat) : Int)) ∧ ∃ k, w' = (wr.drewN nq).drewN k := fun nq => by
              have := mod_q q gb ((els.length * os : Nat) : Int) (wr.drewN nq) hq1 hq2 (by omega) (by omega) hg6
              rw [← natmod_cast] at this
              exact this
            have e1 : IntKind.i64.wrap ((els.length : Int) * (os : Int)) = ((els.length * os : Nat) : Int) := mul_wrap _ _ _ hnl (by omega)
            have hsql := Nat.mod_lt (els.length * os) (show q > 0 by omega)
            generalize els.length * os % q = sq at *
            generalize els.length * os = p1 at *
            cases hdg : degF q sq 1000 1 with
            | none => rw [hdg] at hR; cases hR
            | some dgr =>
              rw [hdg] at hR
              simp only at hR
              have hdgl := degF_lt q sq _ _ _ hdg
              have HDG := Lib.hid hdg
              have HR3 := Lib.hid hR
              have HOO := Lib.hid hoo
              have HMX := Lib.hid hmx
              clear hR hdg HR2 hoo hmx hos
              go_wp2_with fail
              go_quiet ((first | (go_at_call 45; with_reducible exact Calls.quiet_of (HOO.out _)) | (go_at_call 44; with_reducible exact Calls.quiet_of (HMX.out _))))
              have HD2 := Lib.hid (HD.out.more nq)
              generalize wr.drewN nq = W2 at *
              have hg62 := HD2.out.cell h6
              clear hg1 hg6 HMX HOO HD
              go_wp2_with fail
              go_loopg [10] 1000 (fun k dv wr => ∃ (t : Nat), t + k = 1001 ∧ dv = .int .i64 t ∧ wr = W2 ∧ Hid (degF q sq k t = some dgr))
              case atStart => exact ⟨1, by omega, rfl, rfl, HDG⟩
              case round =>
                obtain ⟨t, htk, rfl, rfl, HI⟩ := hrel
                clear HDG
                cases gk2 : gk with
                | zero => subst gk2; have hi := HI.out; simp [degF] at hi
                | succ k =>
                  subst gk2
                  have hi := HI.out
                  simp only [degF] at hi
                  have htt : t * t ≤ 1000 * 1000 := Nat.mul_le_mul (by omega) (by omega)
                  have htc := mul_cast t t
                  have htb : (0 : Int) ≤ (t : Int) * (t : Int) ∧ (t : Int) * (t : Int) ≤ 1000000 := by omega
                  have hmod : ((t : Int) * (t : Int)) % (q : Int) = ((t * t % q : Nat) : Int) := by rw [← htc]; simp
                  by_cases hts : t * t % q = sq
                  · rw [if_pos hts] at hi
                    obtain rfl : t = dgr := by simpa using hi
                    have hd : (((t : Int) * (t : Int)) % (q : Int) != (sq : Int)) = false := by rw [hmod, hts]; simp
                    have hg3 := HD2.out.cell h3
                    clear hi HI hts hmod htc htt
                    go_wp2_with fail
                    clear hg3 hd htb hg62
                    go_loopg [11, 93] n (fun l ov iv wr => ∃ (c : Nat) (out : List Nat), c + l = n ∧ out.length = c ∧ iv = .int .i64 c ∧ wr.ownsRow w.heap.size 3 1 ov c (iv0 out) ∧ Below w.heap.size w wr ∧ Hid (funOut q by_ t v (cls.drop c) c out = some r))
                    case atStart => exact ⟨0, [], by omega, rfl, rfl, World.ownsRow_nil _ _ _ _, HD2.out.below, Lib.hid (by simpa using HR3.out)⟩
                    case round =>
                      obtain ⟨c, out, hcl, hol, rfl, hown, hbr, HI⟩ := hrel
                      have hsr := hbr.size
                      clear HR3
                      cases gl : gk with
                      | zero =>
                        subst gl
                        have hi := HI.out
                        rw [List.drop_of_length_le (by have := HK.out; omega)] at hi
                        simp only [funOut, Option.some.injEq] at hi
                        subst hi
                        have HOWN := Lib.hid hown
                        obtain rfl : c = n := by omega
                        clear HI hown
                        have HOL := Lib.hid hol
                        clear hol
                        go_wp2_with fail
                        exact bodyPost_ret (by simp [results, Try.results36, go_sem]) rfl ⟨u11, rfl, HOWN.out, HOL.out, hbr⟩
                      | succ l =>
                        subst gl
                        have hcn : c < n := by omega
                        have hi := HI.out
                        rw [drop_cons cls c (by have := HK.out; omega)] at hi
                        simp only [funOut] at hi
                        have hll := HCL.out c hcn
                        obtain ⟨u, hu, la, lc, rfl, hli⟩ := HCR.out c (by rw [List.length_map, HK.out]; exact hcn)
                        rw [rows_getD, ints_length] at hu
                        have hub := below_cell (p := ⟨cb, co + c, none⟩) hbr hcb hu
                        have hvx := below_cell (p := ⟨vb, vo + c, none⟩) hbr hvb (HVC.out c hcn)
                        rw [ints_getD] at hvx
                        have hg6 := below_cell hbr hgl h6
                        have hx := HVLE.out c
                        have edf : cls.getD c default = cls.getD c [] := rfl
                        rw [edf] at hi
                        generalize cls.getD c [] = lcs at *
                        generalize v.getD c 0 = x at *
                        cases ho : overF q (lcs.length : Nat) 1000 1 with
                        | none => rw [ho] at hi; cases hi
                        | some o =>
                          rw [ho] at hi
                          simp only at hi
                          have hol2 := overF_lt q _ _ _ _ ho
                          have hxb : x * by_ ≤ 1000 * 1000 := Nat.mul_le_mul hx hbyl
                          have e1 : IntKind.i64.wrap ((x : Int) * (by_ : Int)) = ((x * by_ : Nat) : Int) := mul_wrap x by_ _ hxb (by omega)
                          have e2 : (((x * by_ : Nat) : Int)).tmod (q : Int) = ((x * by_ % q : Nat) : Int) := tmod_nat _ _
                          have hm1 := Nat.mod_lt (x * by_) (show q > 0 by omega)
                          generalize x * by_ % q = m1 at *
                          generalize x * by_ = p1 at *
                          have hmt : m1 * t ≤ 1000 * 1000 := Nat.mul_le_mul (by omega) (by omega)
                          have e3 : IntKind.i64.wrap ((m1 : Int) * (t : Int)) = ((m1 * t : Nat) : Int) := mul_wrap m1 t _ hmt (by omega)
                          have e4 : (((m1 * t : Nat) : Int)).tmod (q : Int) = ((m1 * t % q : Nat) : Int) := tmod_nat _ _
                          have hm2 := Nat.mod_lt (m1 * t) (show q > 0 by omega)
                          generalize m1 * t % q = m2 at *
                          generalize m1 * t = p2 at *
                          have hmo : m2 * o ≤ 1000 * 1000 := Nat.mul_le_mul (by omega) (by omega)
                          have e5 : IntKind.i64.wrap ((m2 : Int) * (o : Int)) = ((m2 * o : Nat) : Int) := mul_wrap m2 o _ hmo (by omega)
                          have hoo := fun nq => over_q q gb (lcs.length : Nat) (wr.drewN nq) hq1 hq2 (by omega) (by omega) hg6 1000 o (by omega) ho
                          have hmm : ∀ nq, Calls Try.prog 44 #[.pointer (some ⟨gb, 0, none⟩), .int .i64 ((m2 * o : Nat) : Int)] (wr.drewN nq) fun e w' => e = .returned (.int .i64 ((m2 * o % q : Nat) : Int)) ∧ ∃ k, w' = (wr.drewN nq).drewN k := fun nq => by
                            have := mod_q q gb ((m2 * o : Nat) : Int) (wr.drewN nq) hq1 hq2 (by omega) (by omega) hg6
                            rw [← natmod_cast] at this
                            exact this
                          generalize m2 * o % q = fin at *
                          generalize m2 * o = p3 at *
                          have hq0 : ((q : Int) == 0) = false := by rw [beq_eq_false_iff_ne]; omega
                          have hq0' : ¬ (q : Int) = 0 := by omega
                          have hqz : ¬ q = 0 := by omega
                          have hcn2 : (0 : Int) ≤ (c : Int) ∧ (c : Int) < (n : Int) := by omega
                          have HI2 := Lib.hid hi
                          have HOO := Lib.hid hoo
                          have HMM := Lib.hid hmm
                          have HOWN := Lib.hid hown
                          have HOL := Lib.hid hol
                          have hd1 : Same wr wr.drew := (Same.refl wr).drew
                          clear hi HI hoo hmm hown hol ho hu hli edf
                          go_wp2_with fail
                          refine wp_region_quiet_tail1 _ (.tmp 11) 26 (by kernel_rfl) (by kernel_rfl) rfl rfl rfl (fun _ _ _ h => h) ?_
                          simp only [List.take_succ_cons, List.take_zero, List.drop_succ_cons, List.drop_zero]
                          go_simp
                          repeat (go_big_quiet_step ((first | (go_at_call 45; with_reducible exact Calls.quiet_of (HOO.out _)) | (go_at_call 44; with_reducible exact Calls.quiet_of (HMM.out _)))))
                          refine wpQuiet_nil ?_
                          intro nq
                          have hb5 := below_drewN wr nq
                          generalize wr.drewN nq = w5 at *
                          have hs5 := hb5.size
                          have hown5 := ownsRow_below HOWN.out hb5
                          have HOWN5 := Lib.hid hown5
                          clear hown5
                          go_wp2_with (at_builtin; refine wpList_append_lies _ rfl (.tmp 98) (.tmp 124) 51 rfl w.heap.size 3 i3 (.int .i64 0) 1 8 Try.underlying51 HI3.out.1 HI3.out.2.1 HI3.out.2.2.1 HI3.out.2.2.2 rfl (by omega) u11 c (iv0 out) rfl (HOWN5.out.alloc _) ⟨w5.heap.size, 0, none⟩ 1 1 [.int .i64 fin] rfl rfl (World.news_of_block (heap_alloc_new w5 _)) (by simp [Value.oneCell']) (by omega) (by unfold maxLen; omega) (by omega) (by simp; omega) (w5.heap.size + 1) (by simp) ?_; intro g9 cap9 w9 hown9 hgrow9 hat9 hlt9)
                          go_roundg l
                          case rel => exact ⟨c + 1, out ++ [fin], by omega, by simp; exact HOL.out, by go_num, by rw [iv0_snoc]; exact hown9, ((hbr.trans (hb5.mono hsr)).alloc (by omega) _).grown hgrow9 (by simp; omega) (fun k hk => (HOWN.out.lt k hk).1), HI2⟩
                          case measure => omega
                  · rw [if_neg hts] at hi
                    have HI2 := Lib.hid hi
                    have hd : (((t : Int) * (t : Int)) % (q : Int) != (sq : Int)) = true := by rw [hmod, bne_iff_ne]; omega
                    clear hi HI hts hmod htc htt
                    go_wp2_with fail
                    go_roundg k
                    case rel => exact ⟨t + 1, by omega, by go_num, rfl, HI2⟩
                    case measure => omega
        | succ m =>
          subst gm
          have hcn : c < n := by omega
          rw [drop_cons cls c (by have := HK.out; omega)] at hi
          simp only [funSum] at hi
          have hcl := HCL.out c hcn
          obtain ⟨u, hu, la, lc, rfl, hli⟩ := HCR.out c (by rw [List.length_map, HK.out]; exact hcn)
          rw [rows_getD, ints_length] at hu
          have hub := HD.out.cell hu
          have hvx := HD.out.cell (HVC.out c hcn)
          rw [ints_getD] at hvx
          have hbx := HD.out.cell (HBC.out c hcn)
          obtain ⟨hb1, hb2⟩ := HBACK.out c hcn
          have hg5 := HD.out.cell h5
          have hg6 := HD.out.cell h6
          have hx := HVLE.out c
          have edf : cls.getD c default = cls.getD c [] := rfl
          rw [edf] at hi
          generalize cls.getD c [] = l at *
          generalize hbt : back.getD c 0 = bt at *
          obtain ⟨t, rfl⟩ : ∃ t : Nat, bt = t := ⟨bt.toNat, by omega⟩
          rw [Int.toNat_natCast] at hi
          have htn : t < n := by omega
          have hvy := HD.out.cell (HVC.out t htn)
          rw [ints_getD] at hvy
          have hy := HVLE.out t
          generalize v.getD c 0 = x at *
          generalize v.getD t 0 = y at *
          cases ho : overF q (l.length : Nat) 1000 1 with
          | none => rw [ho] at hi; cases hi
          | some o =>
            rw [ho] at hi
            simp only at hi
            have hol := overF_lt q _ _ _ _ ho
            have hxb : x * by_ ≤ 1000 * 1000 := Nat.mul_le_mul hx hbyl
            have hyb : y * by_ ≤ 1000 * 1000 := Nat.mul_le_mul hy hbyl
            have hsl2 := funSum_le q by_ v back hq1 hq2 _ _ _ _ hi
            have hmx : ∀ nq, Calls Try.prog 44 #[.pointer (some ⟨gb, 0, none⟩), .int .i64 ((x * by_ : Nat) : Int)] (wr.drewN nq) fun e w' => e = .returned (.int .i64 ((x * by_ % q : Nat) : Int)) ∧ ∃ k, w' = (wr.drewN nq).drewN k := fun nq => by
              have := mod_q q gb ((x * by_ : Nat) : Int) (wr.drewN nq) hq1 hq2 (by omega) (by omega) hg6
              rw [← natmod_cast] at this
              exact this
            have hmy : ∀ nq, Calls Try.prog 44 #[.pointer (some ⟨gb, 0, none⟩), .int .i64 ((y * by_ : Nat) : Int)] (wr.drewN nq) fun e w' => e = .returned (.int .i64 ((y * by_ % q : Nat) : Int)) ∧ ∃ k, w' = (wr.drewN nq).drewN k := fun nq => by
              have := mod_q q gb ((y * by_ : Nat) : Int) (wr.drewN nq) hq1 hq2 (by omega) (by omega) hg6
              rw [← natmod_cast] at this
              exact this
            have hoo := fun nq => over_q q gb (l.length : Nat) (wr.drewN nq) hq1 hq2 (by omega) (by omega) hg6 1000 o (by omega) ho
            have hmxl := Nat.mod_lt (x * by_) (show q > 0 by omega)
            have hmyl := Nat.mod_lt (y * by_) (show q > 0 by omega)
            have e1 : IntKind.i64.wrap ((x : Int) * (by_ : Int)) = ((x * by_ : Nat) : Int) := mul_wrap x by_ _ hxb (by omega)
            have e2 : IntKind.i64.wrap ((y : Int) * (by_ : Int)) = ((y * by_ : Nat) : Int) := mul_wrap y by_ _ hyb (by omega)
            generalize x * by_ % q = m1 at *
            generalize y * by_ % q = m2 at *
            have hmm : m1 * m2 ≤ 1000 * 1000 := Nat.mul_le_mul (by omega) (by omega)
            have e3 : IntKind.i64.wrap ((m1 : Int) * (m2 : Int)) = ((m1 * m2 : Nat) : Int) := mul_wrap m1 m2 _ hmm (by omega)
            have e4 : (((m1 * m2 : Nat) : Int)).tmod (q : Int) = ((m1 * m2 % q : Nat) : Int) := tmod_nat _ _
            have hml := Nat.mod_lt (m1 * m2) (show q > 0 by omega)
            have hq0 : ((q : Int) == 0) = false := by rw [beq_eq_false_iff_ne]; omega
            have hq0' : ¬ (q : Int) = 0 := by omega
            generalize hp1 : x * by_ = p1 at *
            generalize hp2 : y * by_ = p2 at *
            generalize hp3 : m1 * m2 = p3 at *
            generalize p3 % q = m3 at *
            have hmo : m3 * o ≤ 1000 * 1000 := Nat.mul_le_mul (by omega) (by omega)
            have e5 : IntKind.i64.wrap ((m3 : Int) * (o : Int)) = ((m3 * o : Nat) : Int) := mul_wrap m3 o _ hmo (by omega)
            generalize hp4 : m3 * o = p4 at *
            have e6 : IntKind.i64.wrap ((acc : Int) + (p4 : Int)) = ((acc + p4 : Nat) : Int) := by
              rw [show ((acc : Int) + (p4 : Int)) = ((acc + p4 : Nat) : Int) from by push_cast; rfl]
              exact wrap_nat _ (by omega)
            have HI2 := Lib.hid hi
            have HMX := Lib.hid hmx
            have HMY := Lib.hid hmy
            have HOO := Lib.hid hoo
            have hcn2 : (0 : Int) ≤ (c : Int) ∧ (c : Int) < (n : Int) := by omega
            clear hi HI hmx hmy hoo ho hp1 hp2 hp3 hp4 hbt hu hli
            go_wp2_with fail
            go_quiet ((first | (go_at_call 45; with_reducible exact Calls.quiet_of (HOO.out _)) | (go_at_call 44; with_reducible exact Calls.quiet_of (HMX.out _)) | (go_at_call 44; with_reducible exact Calls.quiet_of (HMY.out _))))
            go_wp2_with fail
            go_roundg m
            case rel => exact ⟨c + 1, acc + p4, by omega, by omega, by go_num, by push_cast; rfl, Lib.hid (HD.out.more _), HI2⟩
            case measure => omega

end Go.Proofs.Ytnejjgolmikplaa
