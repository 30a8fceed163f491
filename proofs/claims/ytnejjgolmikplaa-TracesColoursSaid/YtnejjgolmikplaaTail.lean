/- A region that draws its order, whose first operations are quiet and whose last ones stand in one order: one walk. -/
import Derived.Test.YtnejjgolmikplaaProg
import Derived.Deep.Quiet
import Derived.StillTail
import Derived.Deep.QuietTactic
import Derived.BigQuiet
namespace Go.Proofs.Ytnejjgolmikplaa
open Go Go.Proofs

section
variable {P : Program} {ops : Array Oper} {md : Region.Mode} {C : World → Prop}

/-- Whatever of the first n operations is picked, quietly, till L holds. -/
def HeadQ (P : Program) (md : Region.Mode) (ops : Array Oper) (C : World → Prop) (n : Nat) (L : Array Bool → Act → Prop) : Nat → Array Bool → Act → Prop
  | 0, done, a => L done a
  | k + 1, done, a => Region.ready md ops done ≠ [] ∧ ∀ i ∈ Region.ready md ops done, i < n ∧ qOp P ops C i (HeadQ P md ops C n L k (done.setIfInBounds i true)) a

theorem HeadQ.any {n g : Nat} {L : Array Bool → Act → Prop} {Q : Exit → Act → World → Prop} (hL : ∀ done a w, C w → L done a → wpAny P md ops Q g done a w) :
    ∀ (k : Nat) (done : Array Bool) (a : Act) (w : World), C w → HeadQ P md ops C n L k done a → wpAny P md ops Q (k + g) done a w := by
  intro k
  induction k with
  | zero => intro done a w hw h; rw [Nat.zero_add]; exact hL _ _ _ hw h
  | succ k ih =>
    intro done a w hw h
    have e : k + 1 + g = (k + g) + 1 := by omega
    rw [e]
    refine ⟨fun h0 => absurd h0 h.1, fun i hi => wpOp_of_qOp hw (fun a' w' hw' h' => ih _ a' w' hw' h') (h.2 i hi).2⟩

/-- The operation that stands first may be taken first. -/
theorem HeadQ.first {n i : Nat} {oi : Oper} {v : Value} {L : Array Bool → Act → Prop} (hi : ops[i]? = some oi) (hsel : ∀ (j : Nat) (o : Oper) cs b, ops[j]? = some o → o.op ≠ .select cs b)
    (hw : ∀ done, HeadInv md ops n done → done.getD i true = false → ∀ t, n ≤ t → t ∉ Region.ready md ops done) (hin : i < n) (hdone : ∀ done a, L done a → ∀ j ∈ Region.ready md ops done, n ≤ j) :
    ∀ (k : Nat) (done : Array Bool) (a : Act), HeadInv md ops n done →
      (∀ j oj, ops[j]? = some oj → j ≠ i → done.getD j true = false → (∀ e ∈ oj.after, Region.binds md e = true → e.on ≠ i) → oi.apart ops oj = true) →
      i ∈ Region.ready md ops done → YieldsIn P ops C oi v a → HeadQ P md ops C n L k (done.setIfInBounds i true) (a.put oi.dst v) → HeadQ P md ops C n L (k + 1) done a := by
  intro k
  induction k with
  | zero =>
    intro done a inv _ hr hy H
    refine ⟨List.ne_nil_of_mem hr, fun j hj => ?_⟩
    have hjn : j < n := Nat.lt_of_not_le fun hge => hw done inv (mem_ready.1 hr).1 j hge hj
    refine ⟨hjn, ?_⟩
    rcases Nat.decEq j i with hji | hji
    · exact absurd (hdone _ _ H j (ready_mono hj hji)) (Nat.not_le_of_lt hjn)
    · subst hji; exact hy.qOp hi H
  | succ k ih =>
    intro done a inv hfree hr hy H
    refine ⟨List.ne_nil_of_mem hr, fun j hj => ?_⟩
    have hjn : j < n := Nat.lt_of_not_le fun hge => hw done inv (mem_ready.1 hr).1 j hge hj
    refine ⟨hjn, ?_⟩
    rcases Nat.decEq j i with hji | hji
    · obtain ⟨hjun, oj, hoj, hall⟩ := mem_ready.1 hj
      have hnot : ∀ e ∈ oj.after, Region.binds md e = true → e.on ≠ i := by
        intro e he hb heq
        have h2 := hall e he hb
        rw [heq, getD_both (mem_ready.1 hr).1] at h2
        cases h2
      have h1 := qOp_put hoj (hfree j oj hoj hji hjun hnot) (fun cs b => hsel i oi cs b hi) (fun cs b => hsel j oj cs b hoj) hy (H.2 j (ready_mono hj hji)).2
      refine qOp_mono (fun a' h3 => ih _ a' (inv.set hj hjn) (fun t ot ht hti hun hno => hfree t ot ht hti ?_ hno) (ready_mono hr (Ne.symm hji)) h3.1 ?_) h1
      · rcases Nat.decEq j t with hjt | hjt
        · rwa [getD_set_ne true hjt] at hun
        · subst hjt; exact hjun
      · rw [Array.setIfInBounds_comm _ _ hji]; exact h3.2
    · subst hji; exact hy.qOp hi H

theorem HeadQ.lex {n g k0 : Nat} {Lq : Act → Prop} (hsel : Region.noSelect ops = true) (hw : ∀ i, k0 ≤ i → i < n → ∀ done, HeadInv md ops n done → done.getD i true = false → ∀ t, n ≤ t → t ∉ Region.ready md ops done) :
    ∀ (l : List Oper) (k : Nat) (done : Array Bool) (a : Act), k0 ≤ k → (∀ j, j < l.length → l[j]? = ops[k + j]?) → k + l.length = n → HeadInv md ops n done → Region.lexHead md ops g l.length k done = true →
    wpQuiet P ops C Lq l a → HeadQ P md ops C n (fun done' a' => Region.seqB md ops g n done' = true ∧ Lq a') l.length done a := by
  intro l
  induction l with
  | nil =>
    intro k done a _ _ hk _ hB h
    obtain rfl : k = n := by simpa using hk
    exact ⟨by simpa [Region.lexHead] using hB, h⟩
  | cons o l ih =>
    intro k done a hk0 hl hk inv hB h
    have h0 : ops[k]? = some o := by have := hl 0 (by simp); simpa using this.symm
    simp only [List.length_cons, Region.lexHead, Bool.and_eq_true] at hB hk
    have hq : qOp P ops C k (wpQuiet P ops C Lq l) a := by unfold qOp; simp only [h0]; exact h
    obtain ⟨v, hy, hK⟩ := yieldsIn_of_qOp h0 hq
    have hr : k ∈ Region.ready md ops done := by simpa using hB.1.1
    refine HeadQ.first h0 (Region.noSelect_spec hsel) (hw k hk0 (by omega)) (by omega) (fun _ _ hL => seqB_ready hL.1) l.length done a inv (Region.free_spec h0 hB.1.2) hr hy (ih (k + 1) _ _ (by omega) (fun j hj => ?_) (by omega) (inv.set hr (by omega)) hB.2 hK)
    have := hl (j + 1) (by simp; omega)
    rw [show k + 1 + j = k + (j + 1) from by omega, ← this]
    rfl

/-- The region's law: quiet operations, then those in one order, from whatever world of the class. -/
theorem wp_region_quiet_tail {id : Nat} {Q : Exit → Act → World → Prop} {a : Act} {w : World} {l : List Oper} (n : Nat) (hm : P.follows .mixedOrders = true) (hB : Region.lexTailB .any l.toArray n = true)
    (h : wpQuiet P l.toArray (fun w' => ∃ t, w' = w.drewN t) (fun a' => ∀ w', (∃ t, w' = w.drewN t) → wpList P l.toArray Q (l.drop n) a' w') (l.take n) a) : (Code.region id l.toArray true).wp P Q a w := by
  simp only [Region.lexTailB, Bool.and_eq_true, decide_eq_true_eq] at hB
  obtain ⟨⟨⟨⟨hsel, hn⟩, hs⟩, hc⟩, hlex⟩ := hB
  have hnl : n < l.length := by simpa using hn
  have htl : (l.take n).length = n := by rw [List.length_take]; omega
  have hdl : (l.drop n).length = l.toArray.size - n := by simp
  have inv0 : HeadInv .any l.toArray n (Array.replicate l.toArray.size false) :=
    ⟨by simp, (fun j oj _ hl => by rw [getD_replicate_false] at hl; cases hl), (fun t _ ht => getD_in (by simpa using ht) (getD_replicate_false _ _))⟩
  have H := HeadQ.lex (g := l.toArray.size - n) (k0 := 0) hsel (fun i _ hi done inv hun => tail_waits hs hc hn inv _ i rfl hi hun) (l.take n) 0 _ a (Nat.le_refl _) (fun j hj => by rw [htl] at hj; simp [hj]) (by rw [htl]; omega) inv0 (by rw [htl]; exact hlex) h
  rw [htl] at H
  have A := HeadQ.any (Q := Q) (g := l.toArray.size - n) (fun done a' w' hw' hL => by
    have := wpAny_of_seq (md := .any) (Q' := Q) (l.drop n) n done a' w' (fun j => by simp [List.getElem?_drop]) (by rw [hdl]; exact hL.1) (hL.2 w' hw')
    rwa [hdl] at this) n _ a { w with drawn := w.drawn + 1 } ⟨1, rfl⟩ H
  refine wp_region_any hm ?_
  rwa [show n + (l.toArray.size - n) = l.toArray.size from by omega] at A

/-- Each but the first of the head is waited for. -/
def sink1 (md : Region.Mode) (ops : Array Oper) (n : Nat) : Bool := (List.range n).all fun i => i == 0 || (List.range (n + 1)).any fun j => decide (i < j) && Region.waitsFor md ops j i

theorem tail_waits1 {n : Nat} (hs : sink1 md ops n = true) (hc : Region.chainB md ops n = true) : ∀ (d i : Nat), n - i = d → 1 ≤ i → i < n → ∀ done, HeadInv md ops n done → done.getD i true = false → ∀ t, n ≤ t → t ∉ Region.ready md ops done := by
  intro d
  induction d using Nat.strongRecOn with
  | _ d ih =>
    intro i hd h1 hi done inv hun t ht hr
    obtain ⟨-, ot, hot, hall⟩ := mem_ready.1 hr
    have htlt : t < ops.size := (Array.getElem?_eq_some_iff.1 hot).1
    have hin := List.all_eq_true.1 hs i (List.mem_range.2 hi)
    rcases Nat.lt_or_ge n t with htn | htn
    · have h2 := List.all_eq_true.1 hc t (List.mem_range.2 htlt)
      simp only [Bool.or_eq_true, decide_eq_true_eq] at h2
      obtain ⟨o2, ho2, e, he, hb, hon⟩ := Region.waitsFor_spec (h2.resolve_left (by omega))
      rw [hot] at ho2
      injection ho2 with ho2
      subst ho2
      have h3 := hall e he hb
      rw [hon, getD_both (inv.tail (t - 1) (by omega) (by omega))] at h3
      cases h3
    · obtain rfl : t = n := by omega
      simp only [Bool.or_eq_true, beq_iff_eq] at hin
      obtain ⟨j, hj, hj2⟩ := List.any_eq_true.1 (hin.resolve_left (by omega))
      simp only [Bool.and_eq_true, decide_eq_true_eq] at hj2
      obtain ⟨oj, hoj, e, he, hb, hon⟩ := Region.waitsFor_spec hj2.2
      have hjr := List.mem_range.1 hj
      rcases Nat.lt_or_ge j t with hjt | hjt
      · cases hl : done.getD j false with
        | true =>
          have h3 := inv.closed j oj hoj hl e he hb
          rw [hon, getD_both hun] at h3
          cases h3
        | false => exact ih (t - j) (by omega) j rfl (by omega) hjt done inv (getD_in (by rw [inv.size]; omega) hl) t (Nat.le_refl _) hr
      · obtain rfl : j = t := by omega
        rw [hot] at hoj
        injection hoj with hoj
        subst hoj
        have h3 := hall e he hb
        rw [hon, getD_both hun] at h3
        cases h3

/-- What is asked of the region's order. -/
def tail1B (ops : Array Oper) (n : Nat) : Bool :=
  Region.noSelect ops && (decide (1 ≤ n) && (decide (n < ops.size) && (sink1 .any ops n && (Region.chainB .any ops n && (Region.free .any ops (Array.replicate ops.size false) 0 && ((Region.ready .any ops (Array.replicate ops.size false)).contains 0 &&
    Region.lexHead .any ops (ops.size - n) (n - 1) 1 ((Array.replicate ops.size false).setIfInBounds 0 true)))))))

/-- The region's law where the first operation is a move that nothing but the tail waits for: 'out = append(out, ..)'. -/
theorem wp_region_quiet_tail1 {id : Nat} {Q : Exit → Act → World → Prop} {a : Act} {w : World} {l : List Oper} (o0 : Oper) (x : Operand) (n : Nat) (hm : P.follows .mixedOrders = true) (hB : tail1B l.toArray n = true)
    (h0 : l[0]? = some o0) (h0m : o0.op = .move x) (h0g : o0.guard = none) (hQ : ∀ c a' w, Q (.panic c) (a'.put o0.dst (a.eval x)) w → Q (.panic c) a' w)
    (h : wpQuiet P l.toArray (fun w' => ∃ t, w' = w.drewN t) (fun a' => ∀ w', (∃ t, w' = w.drewN t) → wpList P l.toArray Q (l.drop n) a' w') ((l.take n).drop 1) (a.put o0.dst (a.eval x))) : (Code.region id l.toArray true).wp P Q a w := by
  simp only [tail1B, Bool.and_eq_true, decide_eq_true_eq] at hB
  obtain ⟨hsel, hn1, hn, hs, hc, hfree, hrdy, hlex⟩ := hB
  have hnl : n < l.length := by simpa using hn
  have htl : ((l.take n).drop 1).length = n - 1 := by rw [List.length_drop, List.length_take]; omega
  have hdl : (l.drop n).length = l.toArray.size - n := by simp
  have inv0 : HeadInv .any l.toArray n (Array.replicate l.toArray.size false) :=
    ⟨by simp, (fun j oj _ hl => by rw [getD_replicate_false] at hl; cases hl), (fun t _ ht => getD_in (by simpa using ht) (getD_replicate_false _ _))⟩
  have hrdy' : 0 ∈ Region.ready .any l.toArray (Array.replicate l.toArray.size false) := by simpa using hrdy
  have inv1 := inv0.set hrdy' (by omega)
  have H := HeadQ.lex (g := l.toArray.size - n) (k0 := 1) hsel (fun i hi1 hi done inv hun => tail_waits1 hs hc _ i rfl hi1 hi done inv hun) ((l.take n).drop 1) 1 _ _ (Nat.le_refl _) (fun j hj => by
    rw [htl] at hj
    rw [List.getElem?_drop, List.getElem?_take, if_pos (by omega)]; simp) (by rw [htl]; omega) inv1 (by rw [htl]; exact hlex) h
  rw [htl] at H
  have A := HeadQ.any (Q := Q) (g := l.toArray.size - n) (fun done a' w' hw' hL => by
    have := wpAny_of_seq (md := .any) (Q' := Q) (l.drop n) n done a' w' (fun j => by simp [List.getElem?_drop]) (by rw [hdl]; exact hL.1) (hL.2 w' hw')
    rwa [hdl] at this) (n - 1) _ _ { w with drawn := w.drawn + 1 } ⟨1, rfl⟩ H
  refine wp_region_any hm ?_
  have hfuel : l.toArray.size = (n - 1 + (l.toArray.size - n)) + 1 := by omega
  have ho0 : l.toArray[0]? = some o0 := by simpa using h0
  have hy : Yields P l.toArray o0 (a.eval x) a := .inl ⟨by simp [Region.wanted, h0g], fun w => by unfold execOp; rw [h0m]; rfl⟩
  have B := wpAny_take (fuel := n - 1 + (l.toArray.size - n)) ho0 hsel hfree hrdy hQ hy A
  rw [← hfuel] at B
  exact B

end
end Go.Proofs.Ytnejjgolmikplaa
