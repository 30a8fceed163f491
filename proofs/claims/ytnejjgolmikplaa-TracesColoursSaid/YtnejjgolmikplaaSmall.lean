/- The walks of the small functions of package traces: isPermutation, isPrime, inverse, order, mod, over. -/
import Derived.Test.YtnejjgolmikplaaTimes
import Derived.Laws.BitsAllLaws
import Derived.Laws.BitsLemmas
import Derived.Deep.LoopGhost
namespace Go.Proofs.Ytnejjgolmikplaa
open Go.RowKit Go.Proofs

/-- A slice of ints: its cells. -/
def IntsIn (w : World) (a : Option Addr) (xs : List Int) : Prop :=
  0 < xs.length → ∃ b o, a = some ⟨b, o, none⟩ ∧ b < w.heap.size ∧ ∀ j, j < xs.length → w.cell? ⟨b, o + j, none⟩ = some (.int .i64 (xs.getD j 0))

theorem IntsIn.below {w w' : World} {a : Option Addr} {xs : List Int} (h : IntsIn w a xs) (hb : Below w.heap.size w w') : IntsIn w' a xs := fun hp => by
  obtain ⟨b, o, ha, hlt, hc⟩ := h hp
  exact ⟨b, o, ha, Nat.lt_of_lt_of_le hlt hb.size, fun j hj => (hb.cell (p := ⟨b, o + j, none⟩) hlt).trans (hc j hj)⟩

theorem ofInt_i64 (a : Nat) (ha : a < 9223372036854775808) : (BitVec.ofInt 64 (a : Int)).toNat = a := by
  rw [BitVec.ofInt_natCast, BitVec.toNat_ofNat]; exact Nat.mod_eq_of_lt (by omega)
theorem i64_and_nat (a b : Nat) (ha : a < 9223372036854775808) (hb : b < 9223372036854775808) : bits .and .i64 (a : Int) (b : Int) = ((a &&& b : Nat) : Int) := by
  have hx : a &&& b < 2 ^ 63 := Nat.and_lt_two_pow _ (by omega)
  show IntKind.i64.wrap ((BitVec.ofInt 64 (a : Int) &&& BitVec.ofInt 64 (b : Int)).toNat : Int) = _
  rw [BitVec.toNat_and, ofInt_i64 a ha, ofInt_i64 b hb, IntKind.wrap_i64]
  omega
theorem i64_or_nat (a b : Nat) (ha : a < 9223372036854775808) (hb : b < 9223372036854775808) : bits .or .i64 (a : Int) (b : Int) = ((a ||| b : Nat) : Int) := by
  have hx : a ||| b < 2 ^ 63 := Nat.or_lt_two_pow (by omega) (by omega)
  show IntKind.i64.wrap ((BitVec.ofInt 64 (a : Int) ||| BitVec.ofInt 64 (b : Int)).toNat : Int) = _
  rw [BitVec.toNat_or, ofInt_i64 a ha, ofInt_i64 b hb, IntKind.wrap_i64]
  omega

def maskL (xs : List Int) : Nat := xs.foldl (fun m x => m ||| 2 ^ x.toNat) 0
def isPermB (xs : List Int) (d : Nat) : Bool := xs.all (fun x => decide (0 ≤ x ∧ x < (d : Int))) && (decide (xs.length = d) && decide (maskL xs = 2 ^ d - 1))

theorem maskL_snoc (xs : List Int) (k : Nat) (hk : k < xs.length) : maskL (xs.take (k + 1)) = maskL (xs.take k) ||| 2 ^ (xs.getD k 0).toNat := by
  unfold maskL
  rw [List.take_add_one, List.foldl_append]
  simp [List.getD, List.getElem?_eq_getElem hk]

theorem wrap64_two_pow (x : Int) (h0 : 0 ≤ x) (h1 : x < 5) : wrap64 (2 ^ x.toNat) = ((2 ^ x.toNat : Nat) : Int) := by
  have : x.toNat = 0 ∨ x.toNat = 1 ∨ x.toNat = 2 ∨ x.toNat = 3 ∨ x.toNat = 4 := by omega
  rcases this with h | h | h | h | h <;> rw [h] <;> decide +kernel

theorem two_pow_le (x : Int) (h0 : 0 ≤ x) (h1 : x < 5) : 2 ^ x.toNat ≤ 16 := by
  have : x.toNat = 0 ∨ x.toNat = 1 ∨ x.toNat = 2 ∨ x.toNat = 3 ∨ x.toNat = 4 := by omega
  rcases this with h | h | h | h | h <;> rw [h] <;> decide

theorem or_bits (m : Nat) (x : Int) (hm : m < 32) (h0 : 0 ≤ x) (h1 : x < 5) : bits .or .i64 (m : Int) (wrap64 (2 ^ x.toNat)) = ((m ||| 2 ^ x.toNat : Nat) : Int) := by
  rw [wrap64_two_pow x h0 h1]
  have := two_pow_le x h0 h1
  generalize 2 ^ x.toNat = p at *
  exact i64_or_nat _ _ (by omega) (by omega)

theorem or_lt32 (m : Nat) (x : Int) (hm : m < 32) (h0 : 0 ≤ x) (h1 : x < 5) : m ||| 2 ^ x.toNat < 32 := by
  have := two_pow_le x h0 h1
  exact Nat.or_lt_two_pow (n := 5) hm (by omega)

theorem bool_ret {a b : Bool} (h : a = b) : Ending.returned (.bool a) = .returned (.bool b) := by rw [h]
theorem int_ret {a b : Int} (h : a = b) : Ending.returned (.int .i64 a) = .returned (.int .i64 b) := by rw [h]

theorem allB_false (xs : List Int) (k : Nat) (d : Nat) (hk : k < xs.length) (h : ¬ (0 ≤ xs.getD k 0 ∧ xs.getD k 0 < (d : Int))) : isPermB xs d = false := by
  unfold isPermB
  have : xs.all (fun x => decide (0 ≤ x ∧ x < (d : Int))) = false := by
    rw [List.all_eq_false]
    refine ⟨xs.getD k 0, ?_, by simpa using h⟩
    rw [List.getD_eq_getElem?_getD, List.getElem?_eq_getElem hk]; exact List.getElem_mem hk
  rw [this]; rfl

def AllTo (xs : List Int) (d k : Nat) : Prop := ∀ j, j < k → 0 ≤ xs.getD j 0 ∧ xs.getD j 0 < (d : Int)
theorem allB_true (xs : List Int) (d : Nat) (h : AllTo xs d xs.length) : isPermB xs d = (decide (xs.length = d) && decide (maskL xs = 2 ^ d - 1)) := by
  unfold isPermB
  have : xs.all (fun x => decide (0 ≤ x ∧ x < (d : Int))) = true := by
    rw [List.all_eq_true]
    intro x hx
    obtain ⟨j, hj, rfl⟩ := List.getElem_of_mem hx
    have := h j hj
    rw [List.getD_eq_getElem?_getD, List.getElem?_eq_getElem hj] at this
    simpa using this
  rw [this]; rfl

theorem pow_sub (d : Nat) (h0 : 1 ≤ d) (h1 : d ≤ 5) : wrap64 (2 ^ d) - 1 = ((2 ^ d - 1 : Nat) : Int) := by
  have : d = 1 ∨ d = 2 ∨ d = 3 ∨ d = 4 ∨ d = 5 := by omega
  rcases this with rfl | rfl | rfl | rfl | rfl <;> decide +kernel

theorem mask_eq (M d : Nat) (h0 : 1 ≤ d) (h1 : d ≤ 5) : ((M : Int) == wrap64 ((2 ^ d - 1 : Nat) : Int)) = decide (M = 2 ^ d - 1) := by
  have hw : wrap64 ((2 ^ d - 1 : Nat) : Int) = ((2 ^ d - 1 : Nat) : Int) := by
    have : d = 1 ∨ d = 2 ∨ d = 3 ∨ d = 4 ∨ d = 5 := by omega
    rcases this with rfl | rfl | rfl | rfl | rfl <;> decide +kernel
  rw [hw, Bool.eq_iff_iff]
  simp only [beq_iff_eq, decide_eq_true_eq]
  exact Int.natCast_inj

set_option maxHeartbeats 1000000 in
theorem isPerm_any (a : Option Addr) (c : Nat) (xs : List Int) (d : Nat) (w : World) (h0 : 1 ≤ d) (h1 : d ≤ 5) (hl : xs.length ≤ 1000) (ha : IntsIn w a xs) :
    Calls Try.prog 25 #[.slice a xs.length c, .int .i64 d] w fun e w' => e = .returned (.bool (isPermB xs d)) ∧ w = w' := by
  go_enter Try.func25, Try.ntmps25
  go_wp2
  go_loop [5, 10] (fun s i => ∃ (k m : Nat), k ≤ xs.length ∧ m < 32 ∧ i = .int .i64 k ∧ s = .int .i64 m ∧ AllTo xs d k ∧ Hid (m = maskL (xs.take k))) (fun _ i => xs.length - (intOf i).toNat)
  case atStart => exact ⟨0, 0, by omega, by omega, rfl, rfl, fun j hj => by omega, Lib.hid rfl⟩
  case round =>
    obtain ⟨k, m, hk, hm, rfl, rfl, hall, HM⟩ := hrel
    by_cases hlt : k < xs.length
    · obtain ⟨b, o, rfl, -, hcc⟩ := ha (by omega)
      have hcell := hcc k hlt
      have HF := Lib.hid (allB_false xs k d hlt)
      have HS := Lib.hid (maskL_snoc xs k hlt)
      have HA := Lib.hid hall
      clear hcc ha hall
      generalize hx : xs.getD k 0 = x at *
      have HX := Lib.hid hx
      clear hx
      by_cases hx0 : x < 0
      · go_wp2
        go_ret
        exact ⟨bool_ret (by rw [HF.out (by omega)]), rfl⟩
      · by_cases hx1 : x < (d : Int)
        · have HO := Lib.hid (or_bits m x hm (by omega) (by omega))
          go_wp2
          go_round
          case rel =>
            refine ⟨k + 1, m ||| 2 ^ x.toNat, by omega, or_lt32 m x hm (by omega) (by omega), by go_num, by rw [HO.out], ?_, Lib.hid ?_⟩
            · intro j hj
              by_cases hjk : j < k
              · exact HA.out j hjk
              · obtain rfl : j = k := by omega
                rw [HX.out]; omega
            · rw [HS.out, HM.out]
          case measure => simp [intOf]; omega
        · go_wp2
          go_ret
          exact ⟨bool_ret (by rw [HF.out (by omega)]), rfl⟩
    · obtain rfl : k = xs.length := by omega
      have HF := Lib.hid (allB_true xs d hall)
      have HP := Lib.hid (pow_sub d h0 h1)
      clear hall ha
      have hM := HM.out
      rw [List.take_length] at hM
      have HMM := Lib.hid hM
      clear hM HM
      by_cases hd : xs.length = d
      · have hd1 : ((xs.length : Int) == (d : Int)) = true := by simp [hd]
        have HD := Lib.hid hd
        clear hd
        go_wp2
        go_ret
        refine ⟨bool_ret ?_, rfl⟩
        rw [HF.out, HP.out, HMM.out]
        simp only [HD.out, decide_true, Bool.true_and]
        exact mask_eq _ d h0 h1
      · have hd1 : ((xs.length : Int) == (d : Int)) = false := by simp; omega
        have HD := Lib.hid hd
        clear hd
        go_wp2
        go_ret
        refine ⟨bool_ret ?_, rfl⟩
        rw [HF.out]
        simp [HD.out]

/-- Is n a prime: with so many rounds at most. -/
def primeN : Nat → Nat → Nat → Option Bool
  | 0, _, _ => none
  | k + 1, n, d => if d * d ≤ n then (if n % d = 0 then some false else primeN k n (d + 1)) else some (decide (1 < n))

set_option maxHeartbeats 1000000 in
theorem isPrime_any (n k : Nat) (r : Bool) (w : World) (hn : n ≤ 100000) (h : primeN k n 2 = some r) :
    Calls Try.prog 54 #[.int .i64 n] w fun e w' => e = .returned (.bool r) ∧ w = w' := by
  have H := Lib.hid h
  clear h
  go_enter Try.func54, Try.ntmps54
  go_wp2
  go_loopg [3] k (fun k dv wr => wr = w ∧ ∃ d : Nat, 2 ≤ d ∧ d ≤ 1000 ∧ dv = .int .i64 d ∧ Hid (primeN k n d = some r))
  case atStart => exact ⟨rfl, 2, by omega, by omega, rfl, H⟩
  case round =>
    obtain ⟨rfl, d, h2, h3, rfl, HR⟩ := hrel
    clear H
    have hdd : d * d ≤ 1000000 := by
      have : d * d ≤ 1000 * d := Nat.mul_le_mul_right _ h3
      omega
    have hr := HR.out
    clear HR
    cases gk with
    | zero => simp [primeN] at hr
    | succ k =>
      simp only [primeN] at hr
      have hcast : ((d : Int) * (d : Int)) = ((d * d : Nat) : Int) := by simp
      have hlow : 0 ≤ (d : Int) * (d : Int) := by rw [hcast]; omega
      have hhigh : (d : Int) * (d : Int) ≤ 1000000 := by rw [hcast]; omega
      by_cases hle : d * d ≤ n
      · have hle' : (d : Int) * (d : Int) ≤ (n : Int) := by rw [hcast]; omega
        rw [if_pos hle] at hr
        have hd32 : d ≤ 400 := by
          rcases Nat.lt_or_ge 400 d with h | h
          · have : 401 * 401 ≤ d * d := Nat.mul_le_mul h h
            omega
          · exact h
        clear hcast hdd
        by_cases hm : n % d = 0
        · rw [if_pos hm] at hr
          obtain rfl : false = r := by simpa using hr
          have hm' : ((n : Int) % (d : Int) == 0) = true := by rw [← Int.natCast_emod, hm]; rfl
          clear hr hm
          go_wp2
          go_ret
          exact ⟨rfl, rfl⟩
        · rw [if_neg hm] at hr
          have hm' : ((n : Int) % (d : Int) == 0) = false := by rw [← Int.natCast_emod]; simp; omega
          have HR := Lib.hid hr
          clear hr hm
          go_wp2
          go_roundg k
          case rel => exact ⟨rfl, d + 1, by omega, by omega, by go_num, HR⟩
          case measure => omega
      · have hle' : ¬ (d : Int) * (d : Int) ≤ (n : Int) := by rw [hcast]; omega
        rw [if_neg hle] at hr
        have HR := Lib.hid (Option.some.inj hr)
        clear hr hcast hdd
        go_wp2
        go_ret
        refine ⟨bool_ret ?_, rfl⟩
        rw [← HR.out]
        simp only [decide_eq_decide]
        omega

end Go.Proofs.Ytnejjgolmikplaa
