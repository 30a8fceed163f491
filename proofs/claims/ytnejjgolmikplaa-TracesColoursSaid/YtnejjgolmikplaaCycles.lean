/- The walk of (*group).cycles. -/
import Derived.Test.YtnejjgolmikplaaReadSpec
namespace Go.Proofs.Ytnejjgolmikplaa
open Go.RowKit Go.Proofs

/-- The loop along one cycle: what is seen behind it. -/
def cycIn (c : Nat) : Nat → Nat → Nat → Option Nat
  | 0, _, _ => none
  | m + 1, s, j => if s / 2 ^ j % 2 = 0 then cycIn c m (s ||| 2 ^ j) (dg c j) else some s

/-- The loop over the places. -/
def cycOut (c : Nat) : Nat → Nat → Nat → Nat → Option Nat
  | 0, _, _, n => some n
  | m + 1, i, s, n => match cycIn c 9 s i with
    | none => none
    | some s' => cycOut c m (i + 1) s' (if s / 2 ^ i % 2 = 0 then n + 1 else n)

theorem bit_at (s i : Nat) (hs : s < 9223372036854775808) : bits .and .i64 ((s : Int) / 2 ^ i) 1 = ((s / 2 ^ i % 2 : Nat) : Int) := by
  have h := i64_and_nat (s / 2 ^ i) 1 (Nat.lt_of_le_of_lt (Nat.div_le_self _ _) hs) (by omega)
  rw [Nat.and_one_is_mod] at h
  rw [← h]
  simp

theorem bit_cases (s i : Nat) (hs : s < 32) : (s / 2 ^ i % 2 = 0 ∧ bits .and .i64 ((s : Int) / 2 ^ i) 1 = 0) ∨ (s / 2 ^ i % 2 = 1 ∧ bits .and .i64 ((s : Int) / 2 ^ i) 1 = 1) := by
  have h := bit_at s i (by omega)
  have : s / 2 ^ i % 2 = 0 ∨ s / 2 ^ i % 2 = 1 := by omega
  rcases this with e | e
  · left; rw [e] at h; exact ⟨e, h⟩
  · right; rw [e] at h; exact ⟨e, h⟩

theorem or_lt (m i : Nat) (hm : m < 32) (hi : i < 5) : m ||| 2 ^ i < 32 := by
  have : 2 ^ i < 2 ^ 5 := Nat.pow_lt_pow_right (by omega) hi
  exact Nat.or_lt_two_pow (n := 5) hm this

theorem or_at (m i : Nat) (hm : m < 32) (hi : i < 5) : bits .or .i64 (m : Int) (wrap64 (2 ^ i)) = ((m ||| 2 ^ i : Nat) : Int) := by
  have h := or_bits m (i : Int) hm (by omega) (by omega)
  simpa using h

set_option maxHeartbeats 4000000 in
set_option maxRecDepth 100000 in
theorem cycles_g (gb d c r : Nat) (w : World) (hc : okC c) (hd5 : d ≤ 5) (hd : w.cell? ⟨gb, 0, none⟩ = some (.int .i64 d)) (hr : cycOut c d 0 0 0 = some r) :
    Calls Try.prog 16 #[.pointer (some ⟨gb, 0, none⟩), .agg (cellsP c)] w fun e w' => e = .returned (.int .i64 r) ∧ Below w.heap.size w w' := by
  have hgb := lt_of_cell hd
  have hcell : ∀ t, t < 5 → (w.alloc (.cells (cellsP c) 46)).cell? ⟨w.heap.size, t, none⟩ = some (.int .i64 (dg c t : Nat)) := fun t ht => by
    rw [cell_of_row _ _ t _ _ _ (heap_alloc_new w _)]; exact cellsP_get c t ht
  have HCELL := Lib.hid hcell
  have HR := Lib.hid hr
  have HD := Lib.hid hd
  have hdw : (w.alloc (.cells (cellsP c) 46)).cell? ⟨gb, 0, none⟩ = some (.int .i64 d) := (World.cell?_alloc_past _ _ _ hgb).trans hd
  have hbw : Below w.heap.size w (w.alloc (.cells (cellsP c) 46)) := (Below.refl _ _).alloc (Nat.le_refl _) _
  clear hcell hr hd
  go_enter Try.func16, Try.ntmps16
  go_wp2_with fail
  generalize hwx : w.alloc (.cells (cellsP c) 46) = wx at *
  clear hwx
  go_loopg [5, 6, 13] d (fun m sv nv iv wr => ∃ i s n : Nat, i + m = d ∧ iv = .int .i64 i ∧ sv = .int .i64 s ∧ nv = .int .i64 n ∧ s < 32 ∧ n ≤ i ∧ cycOut c m i s n = some r ∧ wr = wx)
  case atStart => exact ⟨0, 0, 0, by omega, rfl, rfl, rfl, by omega, by omega, HR.out, rfl⟩
  case round =>
    obtain ⟨i, s, n, him, rfl, rfl, rfl, hs, hn, hrr, rfl⟩ := hrel
    cases gm : gk with
    | zero =>
      subst gm
      simp only [cycOut, Option.some.injEq] at hrr
      subst hrr
      go_wp2_with fail
      go_ret
      exact ⟨rfl, hbw⟩
    | succ m =>
      subst gm
      have hi5 : i < 5 := by omega
      simp only [cycOut] at hrr
      cases hci : cycIn c 9 s i with
      | none => rw [hci] at hrr; cases hrr
      | some s' =>
        rw [hci] at hrr
        have HRR := Lib.hid hrr
        have HCI := Lib.hid hci
        clear hrr hci
        obtain ⟨n', hn', hnn⟩ : ∃ n' : Nat, (if s / 2 ^ i % 2 = 0 then n + 1 else n) = n' ∧ n' ≤ i + 1 := ⟨_, rfl, by split <;> omega⟩
        have HNN := Lib.hid hn'
        clear hn'

        rcases bit_cases s i hs with ⟨h0, hb⟩ | ⟨h0, hb⟩
        all_goals
          have hn2 := HNN.out
          simp only [h0, if_true, Nat.one_ne_zero, if_false] at hn2
          clear HNN
          subst hn2
          go_wp2_with fail

          go_loopg [5, 8] 9 (fun k sv jv wx => ∃ s j : Nat, sv = .int .i64 s ∧ jv = .int .i64 j ∧ s < 32 ∧ j < 5 ∧ cycIn c k s j = some s' ∧ wx = wr)
          case atStart => exact ⟨s, i, rfl, rfl, hs, hi5, HCI.out, rfl⟩
          case round =>
            obtain ⟨s1, j, rfl, rfl, hs1, hj5, hcc, rfl⟩ := hrel
            cases gk2 : gk with
            | zero => subst gk2; simp [cycIn] at hcc
            | succ k2 =>
              subst gk2
              simp only [cycIn] at hcc
              rcases bit_cases s1 j hs1 with ⟨h1, hb1⟩ | ⟨h1, hb1⟩
              · rw [if_pos h1] at hcc
                have HCC := Lib.hid hcc
                have hxj := HCELL.out j hj5
                have ho := or_at s1 j hs1 hj5
                have hol := or_lt s1 j hs1 hj5
                have hcj := hc j hj5
                have HOL := Lib.hid hol
                clear hcc
                go_wp2_with fail
                go_roundg k2
                case rel => exact ⟨s1 ||| 2 ^ j, dg c j, rfl, rfl, hol, hcj, HCC.out, rfl⟩
                case measure => omega
              · rw [if_neg (by omega)] at hcc
                obtain rfl : s1 = s' := by simpa using hcc
                have hrr := HRR.out
                simp only [h0, if_true, Nat.one_ne_zero, if_false] at hrr
                have HRR2 := Lib.hid hrr
                clear hrr
                go_wp2_with fail
                go_roundg m
                case rel => exact ⟨i + 1, s1, _, by omega, by go_num, rfl, by go_num, hs1, hnn, HRR2.out, rfl⟩
                case measure => omega
end Go.Proofs.Ytnejjgolmikplaa
