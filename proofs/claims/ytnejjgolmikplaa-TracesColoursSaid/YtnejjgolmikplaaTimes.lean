/- The walk of (*traces.group).times: the number of a product, by the map. -/
import Derived.Test.YtnejjgolmikplaaAfter
import Derived.Test.YtnejjgolmikplaaMap
namespace Go.Proofs.Ytnejjgolmikplaa
open Go.RowKit Go.Proofs

/-- What 'number' holds: each element's place. -/
def numbered (n : Nat) : List Nat → List (Nat × Value)
  | [] => []
  | c :: l => (c, .int .i64 (n : Nat)) :: numbered (n + 1) l

/-- Where a code stands in a list. -/
def place (c : Nat) : List Nat → Nat
  | [] => 0
  | k :: l => if c == k then 0 else place c l + 1

theorem atCode_numbered (c : Nat) : ∀ (l : List Nat) (i : Nat), c ∈ l → atCode c i (numbered i l) = some (i + place c l, .int .i64 ((i + place c l : Nat) : Int))
  | [], i, h => by simp at h
  | k :: l, i, h => by
    unfold numbered atCode place
    by_cases hk : (c == k) = true
    · rw [if_pos hk, if_pos hk]; simp
    · have hne : c ≠ k := by simpa using hk
      have hm : c ∈ l := by
        rcases List.mem_cons.1 h with h | h
        · exact absurd h hne
        · exact h
      rw [if_neg hk, if_neg hk, atCode_numbered c l (i + 1) hm]
      have : i + 1 + place c l = i + (place c l + 1) := by omega
      rw [this]

theorem numbered_mem : ∀ (l : List Nat) (i : Nat) (x : Nat × Value), x ∈ numbered i l → x.1 ∈ l
  | [], _, x, h => by simp [numbered] at h
  | k :: l, i, x, h => by
    unfold numbered at h
    rcases List.mem_cons.1 h with h | h
    · subst h; simp
    · exact List.mem_cons_of_mem _ (numbered_mem l (i + 1) x h)

theorem sz3 : ∀ w, (Go.sizeOf 3).run Try.prog w = .ok 1 w := fun _ => by kernel_rfl
theorem agg3 : ∀ w, (isAgg 3).run Try.prog w = .ok false w := fun _ => by kernel_rfl
theorem zero3 : ∀ w, (zeroValue 3).run Try.prog w = .ok (.int .i64 0) w := fun _ => by kernel_rfl

/-- The elements and their numbers lie in memory: g's fields 1 and 2. -/
structure ElsAt (w : World) (gb eb mb cap : Nat) (els : List Nat) : Prop where
  he : w.cell? ⟨gb, 1, none⟩ = some (.slice (some ⟨eb, 0, none⟩) els.length cap)
  hm : w.cell? ⟨gb, 2, none⟩ = some (.map (some mb))
  hel : ∀ k i, k < els.length → i < 5 → w.cell? ⟨eb, k * 5 + i, none⟩ = some (.int .i64 (dg (els.getD k 0) i : Nat))
  hmap : w.heap[mb]? = some (.map (ents 0 (numbered 0 els)).toArray els.length)

theorem lt_of_cell {w : World} {a : Addr} {v : Value} (h : w.cell? a = some v) : a.block < w.heap.size := World.block_lt_of_cell? w a h

theorem ElsAt.below {w w' : World} {gb eb mb cap : Nat} {els : List Nat} (h : ElsAt w gb eb mb cap els) {B : Nat} (hb : Below B w w') (hg : gb < B) (he : eb < B) (hm : mb < B) : ElsAt w' gb eb mb cap els :=
  ⟨(hb.cell (p := ⟨gb, 1, none⟩) hg).trans h.he, (hb.cell (p := ⟨gb, 2, none⟩) hg).trans h.hm, fun k i hk hi => (hb.cell (p := ⟨eb, k * 5 + i, none⟩) he).trans (h.hel k i hk hi), (hb.block mb hm).trans h.hmap⟩

set_option maxHeartbeats 4000000 in
set_option maxRecDepth 100000 in
theorem times_any (gb eb mb cap : Nat) (els : List Nat) (a b : Nat) (w : World) (h : ElsAt w gb eb mb cap els) (hgb : gb < w.heap.size) (heb : eb < w.heap.size) (hmb : mb < w.heap.size) (hlen : els.length ≤ 1000)
    (hlt : ∀ c ∈ els, c < 32768) (hok : ∀ c ∈ els, okC c) (ha : a < els.length) (hb : b < els.length) (hmem : mulC (els.getD a 0) (els.getD b 0) ∈ els) :
    Calls Try.prog 50 #[.pointer (some ⟨gb, 0, none⟩), .int .i64 a, .int .i64 b] w fun e w' =>
      e = .returned (.int .i64 (place (mulC (els.getD a 0) (els.getD b 0)) els : Nat)) ∧ Below w.heap.size w w' := by
  have hokb : okC (els.getD b 0) := hok _ (by rw [List.getD_eq_getElem?_getD, List.getElem?_eq_getElem hb]; exact List.getElem_mem hb)
  have hlook : ∀ w', Below w.heap.size w w' → (Instr.lookup 42 (.map (some mb)) (.agg (cellsP (mulC (els.getD a 0) (els.getD b 0)))) false).run Try.prog w' = .ok (.int .i64 (place (mulC (els.getD a 0) (els.getD b 0)) els : Nat)) w' := by
    intro w' hw'
    rw [run_lookup_cells Try.underlying42 Try.underlying46 Try.underlying3 sz3 agg3 _ zero3 mb _ els.length (hlt _ hmem) w' (numbered 0 els) (fun x hx => hlt _ (numbered_mem els 0 x hx)) ((hw'.block mb hmb).trans h.hmap)]
    rw [atCode_numbered _ els 0 hmem]
    simp
  have HL := Lib.hid hlook
  clear hlook
  have e0 := h.hel a 0 ha (by omega)
  have e1 := h.hel a 1 ha (by omega)
  have e2 := h.hel a 2 ha (by omega)
  have e3 := h.hel a 3 ha (by omega)
  have e4 := h.hel a 4 ha (by omega)
  have f0 := h.hel b 0 hb (by omega)
  have f1 := h.hel b 1 hb (by omega)
  have f2 := h.hel b 2 hb (by omega)
  have f3 := h.hel b 3 hb (by omega)
  have f4 := h.hel b 4 hb (by omega)
  have h1 := h.he
  have h2 := h.hm
  clear h
  have hcall : ∀ W, Calls Try.prog 26 #[.agg (cellsP (els.getD a 0)), .agg (cellsP (els.getD b 0))] W fun e w' => e = .returned (.agg (cellsP (mulC (els.getD a 0) (els.getD b 0)))) ∧ Below W.heap.size W w' :=
    fun W => after_any _ _ W hokb
  have HC := Lib.hid hcall
  clear hcall
  unfold cellsP at HC HL
  generalize hmm : mulC (els.getD a 0) (els.getD b 0) = m at *
  generalize els.getD a 0 = p at *
  generalize els.getD b 0 = q at *
  generalize hnn : els.length = n at *
  clear hmm hnn hokb hok hlt hmem
  simp only [Nat.add_zero] at e0 f0
  have hkeep : ∀ w', Below w.heap.size w w' → (w'.cell? ⟨gb, 1, none⟩ = some (.slice (some ⟨eb, 0, none⟩) n cap) ∧ w'.cell? ⟨gb, 2, none⟩ = some (.map (some mb)) ∧
      w'.cell? ⟨eb, a * 5, none⟩ = some (.int .i64 (dg p 0 : Nat)) ∧ w'.cell? ⟨eb, a * 5 + 1, none⟩ = some (.int .i64 (dg p 1 : Nat)) ∧ w'.cell? ⟨eb, a * 5 + 2, none⟩ = some (.int .i64 (dg p 2 : Nat)) ∧ w'.cell? ⟨eb, a * 5 + 3, none⟩ = some (.int .i64 (dg p 3 : Nat)) ∧ w'.cell? ⟨eb, a * 5 + 4, none⟩ = some (.int .i64 (dg p 4 : Nat)) ∧
      w'.cell? ⟨eb, b * 5, none⟩ = some (.int .i64 (dg q 0 : Nat)) ∧ w'.cell? ⟨eb, b * 5 + 1, none⟩ = some (.int .i64 (dg q 1 : Nat)) ∧ w'.cell? ⟨eb, b * 5 + 2, none⟩ = some (.int .i64 (dg q 2 : Nat)) ∧ w'.cell? ⟨eb, b * 5 + 3, none⟩ = some (.int .i64 (dg q 3 : Nat)) ∧ w'.cell? ⟨eb, b * 5 + 4, none⟩ = some (.int .i64 (dg q 4 : Nat))) := by
    intro w' hw'
    refine ⟨(hw'.cell (p := ⟨gb, 1, none⟩) hgb).trans h1, (hw'.cell (p := ⟨gb, 2, none⟩) hgb).trans h2, ?_, ?_, ?_, ?_, ?_, ?_, ?_, ?_, ?_, ?_⟩
    · exact (hw'.cell (p := ⟨eb, _, none⟩) heb).trans e0
    · exact (hw'.cell (p := ⟨eb, _, none⟩) heb).trans e1
    · exact (hw'.cell (p := ⟨eb, _, none⟩) heb).trans e2
    · exact (hw'.cell (p := ⟨eb, _, none⟩) heb).trans e3
    · exact (hw'.cell (p := ⟨eb, _, none⟩) heb).trans e4
    · exact (hw'.cell (p := ⟨eb, _, none⟩) heb).trans f0
    · exact (hw'.cell (p := ⟨eb, _, none⟩) heb).trans f1
    · exact (hw'.cell (p := ⟨eb, _, none⟩) heb).trans f2
    · exact (hw'.cell (p := ⟨eb, _, none⟩) heb).trans f3
    · exact (hw'.cell (p := ⟨eb, _, none⟩) heb).trans f4
  have HK := Lib.hid hkeep
  clear hkeep e0 e1 e2 e3 e4 f0 f1 f2 f3 f4 h1 h2
  have han : (0 : Int) ≤ (a : Int) ∧ (a : Int) < (n : Int) := by omega
  have hbn : (0 : Int) ≤ (b : Int) ∧ (b : Int) < (n : Int) := by omega
  go_enter Try.func50, Try.ntmps50
  go_wp2
  go_region_held3 (fun w' => w'.cell? ⟨gb, 1, none⟩ = some (.slice (some ⟨eb, 0, none⟩) n cap) ∧ w'.cell? ⟨gb, 2, none⟩ = some (.map (some mb)) ∧
      w'.cell? ⟨eb, a * 5, none⟩ = some (.int .i64 (dg p 0 : Nat)) ∧ w'.cell? ⟨eb, a * 5 + 1, none⟩ = some (.int .i64 (dg p 1 : Nat)) ∧ w'.cell? ⟨eb, a * 5 + 2, none⟩ = some (.int .i64 (dg p 2 : Nat)) ∧ w'.cell? ⟨eb, a * 5 + 3, none⟩ = some (.int .i64 (dg p 3 : Nat)) ∧ w'.cell? ⟨eb, a * 5 + 4, none⟩ = some (.int .i64 (dg p 4 : Nat)) ∧
      w'.cell? ⟨eb, b * 5, none⟩ = some (.int .i64 (dg q 0 : Nat)) ∧ w'.cell? ⟨eb, b * 5 + 1, none⟩ = some (.int .i64 (dg q 1 : Nat)) ∧ w'.cell? ⟨eb, b * 5 + 2, none⟩ = some (.int .i64 (dg q 2 : Nat)) ∧ w'.cell? ⟨eb, b * 5 + 3, none⟩ = some (.int .i64 (dg q 3 : Nat)) ∧ w'.cell? ⟨eb, b * 5 + 4, none⟩ = some (.int .i64 (dg q 4 : Nat)))
    (first | exact HK.out _ ((Below.refl _ _).drew) | exact HK.out _ (by assumption))
    (first | (go_at_call 26; refine (HC.out _).mono ?_; rintro e w1 ⟨rfl, hw1⟩; have hwb : Below w.heap.size w w1 := ((Below.refl _ _).drew).trans hw1; have hlk := HL.out w1 hwb))
  go_outline
  all_goals go_wp2
  all_goals go_ret
  all_goals exact ⟨rfl, by assumption⟩
end Go.Proofs.Ytnejjgolmikplaa
