/- The walks of (*group).inverse, order, mod, over. -/
import Derived.Test.YtnejjgolmikplaaSmall
namespace Go.Proofs.Ytnejjgolmikplaa
open Go.RowKit Go.Proofs

/-- What times answers. -/
def tm (els : List Nat) (a b : Nat) : Nat := place (mulC (els.getD a 0) (els.getD b 0)) els

/-- A list of codes that is closed under products. -/
structure GOK (els : List Nat) : Prop where
  lt : ∀ c ∈ els, c < 32768
  ok : ∀ c ∈ els, okC c
  mul : ∀ p ∈ els, ∀ q ∈ els, mulC p q ∈ els
  len : els.length ≤ 24
  pos : 0 < els.length

theorem getD_mem (els : List Nat) (a : Nat) (h : a < els.length) : els.getD a 0 ∈ els := by
  rw [List.getD_eq_getElem?_getD, List.getElem?_eq_getElem h]; exact List.getElem_mem h

theorem place_lt (c : Nat) : ∀ (l : List Nat), c ∈ l → place c l < l.length
  | [], h => by simp at h
  | k :: l, h => by
    unfold place
    by_cases hk : (c == k) = true
    · rw [if_pos hk]; simp
    · rw [if_neg hk]
      have hne : c ≠ k := by simpa using hk
      have := place_lt c l (by
        rcases List.mem_cons.1 h with h | h
        · exact absurd h hne
        · exact h)
      simp; omega

theorem tm_lt {els : List Nat} (G : GOK els) {a b : Nat} (ha : a < els.length) (hb : b < els.length) : tm els a b < els.length :=
  place_lt _ _ (G.mul _ (getD_mem _ _ ha) _ (getD_mem _ _ hb))

/-- g as far as its elements and their numbers go: where it lies. -/
structure GAt (w : World) (gb eb mb cap : Nat) (els : List Nat) : Prop where
  at_ : ElsAt w gb eb mb cap els
  hg : gb < w.heap.size
  he : eb < w.heap.size
  hm : mb < w.heap.size

theorem GAt.below {w w' : World} {gb eb mb cap : Nat} {els : List Nat} (h : GAt w gb eb mb cap els) (hb : Below w.heap.size w w') : GAt w' gb eb mb cap els :=
  ⟨h.at_.below hb h.hg h.he h.hm, Nat.lt_of_lt_of_le h.hg hb.size, Nat.lt_of_lt_of_le h.he hb.size, Nat.lt_of_lt_of_le h.hm hb.size⟩

theorem times_g {gb eb mb cap : Nat} {els : List Nat} (G : GOK els) (a b : Nat) (w : World) (h : GAt w gb eb mb cap els) (ha : a < els.length) (hb : b < els.length) :
    Calls Try.prog 50 #[.pointer (some ⟨gb, 0, none⟩), .int .i64 a, .int .i64 b] w fun e w' => e = .returned (.int .i64 (tm els a b : Nat)) ∧ Below w.heap.size w w' :=
  times_any gb eb mb cap els a b w h.at_ h.hg h.he h.hm (by have := G.len; omega) G.lt G.ok ha hb (G.mul _ (getD_mem _ _ ha) _ (getD_mem _ _ hb))

/-- The first one whose product with a is the first element; 0: there is none. -/
def invF (els : List Nat) (a : Nat) : Nat → Nat → Nat
  | 0, _ => 0
  | k + 1, b => if tm els a b = 0 then b else invF els a k (b + 1)
def inv (els : List Nat) (a : Nat) : Nat := invF els a els.length 0

set_option maxHeartbeats 1000000 in
theorem inverse_g {gb eb mb cap : Nat} {els : List Nat} (G : GOK els) (a : Nat) (w : World) (h : GAt w gb eb mb cap els) (ha : a < els.length) :
    Calls Try.prog 51 #[.pointer (some ⟨gb, 0, none⟩), .int .i64 a] w fun e w' => e = .returned (.int .i64 (inv els a : Nat)) ∧ Below w.heap.size w w' := by
  have h1 := h.at_.he
  have hn := G.len
  have HG := Lib.hid G
  have HA := Lib.hid h
  clear G h
  go_enter Try.func51, Try.ntmps51
  go_wp2
  go_loopg [11] els.length (fun k iv wr => ∃ b : Nat, b + k = els.length ∧ iv = .int .i64 b ∧ Below w.heap.size w wr ∧ Hid (invF els a k b = inv els a))
  case atStart => exact ⟨0, by omega, rfl, Below.refl _ _, Lib.hid rfl⟩
  case round =>
    obtain ⟨b, hbk, rfl, hbel, HI⟩ := hrel
    have HH := Lib.hid (HA.out.below hbel)
    clear h1
    cases gk with
    | zero =>
      have hi := HI.out
      clear HI
      have HI := Lib.hid hi
      clear hi
      go_wp2
      go_ret
      refine ⟨int_ret ?_, hbel⟩
      rw [← HI.out]; simp [invF]
    | succ k =>
      have hlt : b < els.length := by omega
      have hi := HI.out
      clear HI
      simp only [invF] at hi
      have ht := tm_lt HG.out ha hlt
      by_cases h0 : tm els a b = 0
      · have hd : ((tm els a b : Int) == 0) = true := by simp [h0]
        have HI := Lib.hid hi
        have H0 := Lib.hid h0
        clear hi h0
        go_wp2_with (go_at_call 50; refine (times_g HG.out a b _ HH.out ha hlt).mono ?_; rintro e w1 ⟨rfl, hw1⟩)
        go_ret
        refine ⟨int_ret ?_, hbel.trans (hw1.mono hbel.size)⟩
        rw [← HI.out, if_pos H0.out]
      · have hd : ((tm els a b : Int) == 0) = false := by simp [h0]
        rw [if_neg h0] at hi
        have HI := Lib.hid hi
        clear hi h0
        go_wp2_with (go_at_call 50; refine (times_g HG.out a b _ HH.out ha hlt).mono ?_; rintro e w1 ⟨rfl, hw1⟩)
        go_roundg k
        case rel => exact ⟨b + 1, by omega, by go_num, hbel.trans (hw1.mono hbel.size), HI⟩
        case measure => omega

/-- How often an element is taken until nothing moves. -/
def ordF (els : List Nat) (a : Nat) : Nat → Nat → Nat → Option Nat
  | 0, _, _ => none
  | k + 1, x, n => if x = 0 then some n else ordF els a k (tm els x a) (n + 1)

set_option maxHeartbeats 1000000 in
theorem order_g {gb eb mb cap : Nat} {els : List Nat} (G : GOK els) (a : Nat) (w : World) (h : GAt w gb eb mb cap els) (ha : a < els.length) (k r : Nat) (hk : k ≤ 1000) (hr : ordF els a k a 1 = some r) :
    Calls Try.prog 53 #[.pointer (some ⟨gb, 0, none⟩), .int .i64 a] w fun e w' => e = .returned (.int .i64 (r : Nat)) ∧ Below w.heap.size w w' := by
  have hn := G.len
  have HG := Lib.hid G
  have HA := Lib.hid h
  have HR := Lib.hid hr
  clear G h hr
  go_enter Try.func53, Try.ntmps53
  go_wp2
  go_loopg [5, 6] k (fun k nv xv wr => ∃ (n x : Nat), n + k ≤ 1001 ∧ x < els.length ∧ nv = .int .i64 n ∧ xv = .int .i64 x ∧ Below w.heap.size w wr ∧ Hid (ordF els a k x n = some r))
  case atStart => exact ⟨1, a, by omega, ha, rfl, rfl, Below.refl _ _, HR⟩
  case round =>
    obtain ⟨n, x, hnk, hx, rfl, rfl, hbel, HI⟩ := hrel
    have HH := Lib.hid (HA.out.below hbel)
    have hi := HI.out
    clear HI HR
    cases gk with
    | zero => simp [ordF] at hi
    | succ k =>
      simp only [ordF] at hi
      by_cases h0 : x = 0
      · rw [if_pos h0] at hi
        have HI := Lib.hid (Option.some.inj hi)
        clear hi
        subst h0
        go_wp2
        go_ret
        exact ⟨int_ret (by rw [HI.out]), hbel⟩
      · rw [if_neg h0] at hi
        have HI := Lib.hid hi
        clear hi
        have ht := tm_lt HG.out hx ha
        have hd : ((x : Int) != 0) = true := by rw [bne_iff_ne]; omega
        go_wp2_with (go_at_call 50; refine (times_g HG.out x a _ HH.out hx ha).mono ?_; rintro e w1 ⟨rfl, hw1⟩)
        go_roundg k
        case rel => exact ⟨n + 1, tm els x a, by omega, ht, by go_num, rfl, hbel.trans (hw1.mono hbel.size), HI⟩
        case measure => omega

theorem tmod_facts (q : Nat) (n : Int) (hq1 : 1 ≤ q) : -(q : Int) < n.tmod q ∧ n.tmod q < q ∧ (n.tmod q + q) % (q : Int) = n % (q : Int) := by
  by_cases h : n < 0
  · have h2 : n.tmod (q : Int) = -((-n) % (q : Int)) := by
      have e : n = -(-n) := by omega
      rw [e, Int.neg_tmod, Int.tmod_eq_emod_of_nonneg (by omega)]; simp
    have h3 := Int.emod_lt_of_pos (-n) (b := (q : Int)) (by omega)
    have h4 := Int.emod_nonneg (-n) (b := (q : Int)) (by omega)
    refine ⟨by omega, by omega, ?_⟩
    rw [Int.add_emod_right, h2]
    have e1 : -n = (-n) % (q : Int) + (q : Int) * ((-n) / (q : Int)) := (Int.emod_add_mul_ediv (-n) q).symm
    have e2 : n = -((-n) % (q : Int)) + (q : Int) * (-((-n) / (q : Int))) := by rw [Int.mul_neg]; omega
    conv => rhs; rw [e2]
    rw [Int.add_mul_emod_self_left]
  · rw [Int.tmod_eq_emod_of_nonneg (by omega)]
    have h3 := Int.emod_lt_of_pos n (b := (q : Int)) (by omega)
    have h4 := Int.emod_nonneg n (b := (q : Int)) (by omega)
    exact ⟨by omega, h3, by rw [Int.add_emod_right, Int.emod_emod]⟩

set_option maxHeartbeats 1000000 in
theorem mod_q (q gb : Nat) (n : Int) (w : World) (hq1 : 1 ≤ q) (hq2 : q ≤ 1000) (hn1 : -1000000000000 ≤ n) (hn2 : n ≤ 1000000000000) (hc : w.cell? ⟨gb, 6, none⟩ = some (.int .i64 q)) :
    Calls Try.prog 44 #[.pointer (some ⟨gb, 0, none⟩), .int .i64 n] w fun e w' => e = .returned (.int .i64 (n % (q : Int))) ∧ ∃ k, w' = w.drewN k := by
  obtain ⟨hm1, hm2, hfin⟩ := tmod_facts q n hq1
  have HF := Lib.hid hfin
  clear hfin
  go_enter Try.func44, Try.ntmps44
  go_wp2
  go_quiet (fail)
  go_wp2
  go_ret
  exact ⟨int_ret HF.out, _, rfl⟩

/-- The least x from here on whose product with n is 1. -/
def overF (q : Nat) (n : Int) : Nat → Nat → Option Nat
  | 0, _ => none
  | k + 1, x => if ((x : Int) * n) % (q : Int) = 1 then some x else overF q n k (x + 1)

set_option maxHeartbeats 1000000 in
theorem over_q (q gb : Nat) (n : Int) (w : World) (hq1 : 1 ≤ q) (hq2 : q ≤ 1000) (hn1 : -500000000 ≤ n) (hn2 : n ≤ 500000000) (hc : w.cell? ⟨gb, 6, none⟩ = some (.int .i64 q)) (k r : Nat) (hk : k ≤ 1000) (hr : overF q n k 1 = some r) :
    Calls Try.prog 45 #[.pointer (some ⟨gb, 0, none⟩), .int .i64 n] w fun e w' => e = .returned (.int .i64 (r : Nat)) ∧ ∃ k, w' = w.drewN k := by
  have HR := Lib.hid hr
  clear hr
  go_enter Try.func45, Try.ntmps45
  go_wp2
  go_loopg [5] k (fun k xv wr => (∃ m, wr = w.drewN m) ∧ ∃ x : Nat, x + k ≤ 1001 ∧ xv = .int .i64 x ∧ Hid (overF q n k x = some r))
  case atStart => exact ⟨⟨0, rfl⟩, 1, by omega, rfl, HR⟩
  case round =>
    obtain ⟨⟨m, rfl⟩, x, hx, rfl, HI⟩ := hrel
    have hi := HI.out
    clear HI HR
    have hb1 : -500500000000 ≤ (x : Int) * n ∧ (x : Int) * n ≤ 500500000000 := by
      have h1 : (x : Int) * n ≤ (x : Int) * 500000000 := Int.mul_le_mul_of_nonneg_left hn2 (by omega)
      have h2 : (x : Int) * (-500000000) ≤ (x : Int) * n := Int.mul_le_mul_of_nonneg_left hn1 (by omega)
      omega
    obtain ⟨hb1, hb2⟩ := hb1
    cases gk with
    | zero => simp [overF] at hi
    | succ k =>
      simp only [overF] at hi
      by_cases h0 : ((x : Int) * n) % (q : Int) = 1
      · rw [if_pos h0] at hi
        have HI := Lib.hid (Option.some.inj hi)
        have hd : (((x : Int) * n) % (q : Int) != 1) = false := by simp [h0]
        clear hi h0
        go_wp2_with (go_at_call 44; refine (mod_q q gb _ _ hq1 hq2 (by omega) (by omega) (by rw [World.cell?_drewN]; exact hc)).mono ?_; rintro e w1 ⟨rfl, j, rfl⟩)
        go_ret
        exact ⟨int_ret (by rw [HI.out]), _, rfl⟩
      · rw [if_neg h0] at hi
        have HI := Lib.hid hi
        have hd : (((x : Int) * n) % (q : Int) != 1) = true := by rw [bne_iff_ne]; exact h0
        clear hi h0
        go_wp2_with (go_at_call 44; refine (mod_q q gb _ _ hq1 hq2 (by omega) (by omega) (by rw [World.cell?_drewN]; exact hc)).mono ?_; rintro e w1 ⟨rfl, j, rfl⟩)
        go_roundg k
        case rel => exact ⟨⟨_, rfl⟩, x + 1, by omega, by go_num, HI⟩
        case measure => omega
end Go.Proofs.Ytnejjgolmikplaa
