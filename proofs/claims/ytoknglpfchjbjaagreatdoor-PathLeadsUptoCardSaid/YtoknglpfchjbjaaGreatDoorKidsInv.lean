/- The region of path.kids that appends a node: what has been done of it. Conditions: none. -/
import Derived.Test.YtoknglpfchjbjaaGreatDoorThose
namespace Go.Proofs.YtoknglpfchjbjaaGreatDoor
open Go.RowKit Go.Sp Go.Maps

/-- 0: the row · 1: where the path lies · 2: the path · 3: its clone · 4: the place · 5: a row of the place · 6: the path, longer by one · 7: the tree · 8: the node · 9: a row of the node · 10: the row, longer by one. -/
def KInv (W0 : World) (v0 pN aV : Value) (ats : List Int) (k : Nat) (tv : List Value) (Fin : Value → World → Prop) (L : Nat → Bool) (u : Nat → Value) (w : World) : Prop :=
  (L 10 = false ∧ Below W0.heap.size W0 w ∧ ((L 0 = true → u 0 = v0) ∧ (L 1 = true → u 1 = pN) ∧ (L 2 = true → u 2 = aV) ∧ (L 4 = true → u 4 = .int .i64 (k : Nat)) ∧ (L 7 = true → u 7 = .agg tv.toArray)) ∧
    (L 6 = false → (L 3 = true → w.ownsRow W0.heap.size 3 1 (u 3) ats.length (ats.map (Value.int .i64))) ∧ (L 5 = true → ∃ z, u 5 = .slice (some ⟨z, 0, none⟩) 1 1 ∧ w.cell? ⟨z, 0, none⟩ = some (.int .i64 (k : Nat)))) ∧
    (L 6 = true → w.ownsRow W0.heap.size 3 1 (u 6) (ats.length + 1) (ats.map (Value.int .i64) ++ [.int .i64 (k : Nat)])) ∧ (L 8 = true → u 8 = .agg (u 6 :: tv).toArray) ∧
    (L 9 = true → ∃ z, u 9 = .slice (some ⟨z, 0, none⟩) 1 1 ∧ ∀ j x, (u 6 :: tv)[j]? = some x → w.cell? ((⟨z, 0, none⟩ : Addr).add j) = some x)) ∨
  (L 10 = true ∧ Fin (u 10) w)

section
variable {l : List Oper} {W0 : World} {v0 pN aV : Value} {ats : List Int} {k : Nat} {tv : List Value} {Fin : Value → World → Prop} {L : Nat → Bool} {u : Nat → Value} {w w' : World}

theorem kinv_start : KInv W0 v0 pN aV ats k tv Fin (fun _ => false) u W0.drew := by
  refine .inl ⟨rfl, (Below.refl _ _).drew, ⟨by simp, by simp, by simp, by simp, by simp⟩, fun _ => ⟨by simp, by simp⟩, by simp, by simp, by simp⟩

theorem cell_below {w w' : World} {p : Addr} {v : Value} (h : w.cell? p = some v) (hb : Below w.heap.size w w') : w'.cell? p = some v :=
  (hb.cell (p := p) (World.block_lt_of_cell? w p h)).trans h

theorem kinv_world (h : KInv W0 v0 pN aV ats k tv Fin L u w) (hL : L 10 = false) (hb : Below w.heap.size w w') : KInv W0 v0 pN aV ats k tv Fin L u w' := by
  rcases h with ⟨h1, h2, h3, h4, h5, h6, h7⟩ | ⟨h1, _⟩
  · refine .inl ⟨h1, h2.trans (hb.mono h2.size), h3, fun hl => ⟨fun h => own_same ((h4 hl).1 h) (fun g hg => hb.block g (((h4 hl).1 h).lt g hg).2), fun h => ?_⟩, fun h => own_same (h5 h) (fun g hg => hb.block g ((h5 h).lt g hg).2), h6, fun h => ?_⟩
    · obtain ⟨z, e1, e2⟩ := (h4 hl).2 h
      exact ⟨z, e1, cell_below e2 hb⟩
    · obtain ⟨z, e1, e2⟩ := h7 h
      exact ⟨z, e1, fun j x hx => cell_below (e2 j x hx) hb⟩
  · rw [h1] at hL; cases hL

theorem kinv_first (h : KInv W0 v0 pN aV ats k tv Fin L u w) (hL : L 10 = false) : Below W0.heap.size W0 w ∧ ((L 0 = true → u 0 = v0) ∧ (L 1 = true → u 1 = pN) ∧ (L 2 = true → u 2 = aV) ∧ (L 4 = true → u 4 = .int .i64 (k : Nat)) ∧ (L 7 = true → u 7 = .agg tv.toArray)) := by
  rcases h with ⟨h1, h2, h3, _⟩ | ⟨h1, _⟩
  · exact ⟨h2, h3⟩
  · rw [h1] at hL; cases hL

/-- A plain one. -/
theorem kinv_side (i : Nat) (hi : i = 0 ∨ i = 1 ∨ i = 2 ∨ i = 4 ∨ i = 7) (h : KInv W0 v0 pN aV ats k tv Fin L u w) (hL : L 10 = false) :
    KInv W0 v0 pN aV ats k tv Fin (updB L i) (updU u i (if i = 0 then v0 else if i = 1 then pN else if i = 2 then aV else if i = 4 then .int .i64 (k : Nat) else .agg tv.toArray)) w := by
  rcases h with ⟨h1, h2, ⟨p0, p1, p2, p4, p7⟩, h4, h5, h6, h7⟩ | ⟨h1, _⟩
  · rcases hi with rfl | rfl | rfl | rfl | rfl
    all_goals
      refine .inl ⟨h1, h2, ⟨?_, ?_, ?_, ?_, ?_⟩, h4, h5, h6, h7⟩
      all_goals first | assumption | exact fun _ => rfl
  · rw [h1] at hL; cases hL
theorem kinv_3 {v : Value} (h : KInv W0 v0 pN aV ats k tv Fin L u w) (hL : L 10 = false) (h6 : L 6 = false) (hv : w.ownsRow W0.heap.size 3 1 v ats.length (ats.map (Value.int .i64))) : KInv W0 v0 pN aV ats k tv Fin (updB L 3) (updU u 3 v) w := by
  rcases h with ⟨h1, h2, h3, h4, h5, h6', h7⟩ | ⟨h1, _⟩
  · exact .inl ⟨h1, h2, h3, fun hl => ⟨fun _ => hv, (h4 h6).2⟩, h5, h6', h7⟩
  · rw [h1] at hL; cases hL
theorem kinv_5 {z : Nat} (h : KInv W0 v0 pN aV ats k tv Fin L u w) (hL : L 10 = false) (h6 : L 6 = false) (hz : w.cell? ⟨z, 0, none⟩ = some (.int .i64 (k : Nat))) : KInv W0 v0 pN aV ats k tv Fin (updB L 5) (updU u 5 (.slice (some ⟨z, 0, none⟩) 1 1)) w := by
  rcases h with ⟨h1, h2, h3, h4, h5, h6', h7⟩ | ⟨h1, _⟩
  · exact .inl ⟨h1, h2, h3, fun hl => ⟨(h4 h6).1, fun _ => ⟨z, rfl, hz⟩⟩, h5, h6', h7⟩
  · rw [h1] at hL; cases hL
theorem kinv_6 (h : KInv W0 v0 pN aV ats k tv Fin L u w) (hL : L 10 = false) (h6 : L 6 = false) (h8 : L 8 = false) (h9 : L 9 = false) (l3 : L 3 = true) (l5 : L 5 = true) :
    w.ownsRow W0.heap.size 3 1 (u 3) ats.length (ats.map (Value.int .i64)) ∧ (∃ z, u 5 = .slice (some ⟨z, 0, none⟩) 1 1 ∧ w.cell? ⟨z, 0, none⟩ = some (.int .i64 (k : Nat))) ∧
      ∀ v' w', w'.ownsRow W0.heap.size 3 1 v' (ats.length + 1) (ats.map (Value.int .i64) ++ [.int .i64 (k : Nat)]) → w.grownBy w' (u 3).ownBlock → KInv W0 v0 pN aV ats k tv Fin (updB L 6) (updU u 6 v') w' := by
  rcases h with ⟨h1, h2, h3, h4, h5, h6', h7⟩ | ⟨h1, _⟩
  · refine ⟨(h4 h6).1 l3, (h4 h6).2 l5, fun v' w' hr hg => ?_⟩
    have hrow := (h4 h6).1 l3
    refine .inl ⟨h1, ?_, h3, fun hl => ?_, fun _ => hr, fun h => ?_, fun h => ?_⟩
    · exact h2.trans ⟨hg.os, hg.tape, hg.output, hg.size, fun b hb => hg.block b (by have := h2.size; omega) (fun e => by have := (hrow.lt b e.symm).1; omega)⟩
    · have : updB L 6 6 = true := rfl
      rw [this] at hl; cases hl
    · have h' : L 8 = true := h
      rw [h8] at h'; cases h'
    · have h' : L 9 = true := h
      rw [h9] at h'; cases h'
  · rw [h1] at hL; cases hL
theorem kinv_8 (h : KInv W0 v0 pN aV ats k tv Fin L u w) (hL : L 10 = false) : KInv W0 v0 pN aV ats k tv Fin (updB L 8) (updU u 8 (.agg (u 6 :: tv).toArray)) w := by
  rcases h with ⟨h1, h2, h3, h4, h5, h6', h7⟩ | ⟨h1, _⟩
  · exact .inl ⟨h1, h2, h3, h4, h5, fun _ => rfl, h7⟩
  · rw [h1] at hL; cases hL
theorem kinv_row6 (h : KInv W0 v0 pN aV ats k tv Fin L u w) (hL : L 10 = false) (l6 : L 6 = true) : w.ownsRow W0.heap.size 3 1 (u 6) (ats.length + 1) (ats.map (Value.int .i64) ++ [.int .i64 (k : Nat)]) ∧ (L 8 = true → u 8 = .agg (u 6 :: tv).toArray) := by
  rcases h with ⟨h1, h2, h3, h4, h5, h6', h7⟩ | ⟨h1, _⟩
  · exact ⟨h5 l6, h6'⟩
  · rw [h1] at hL; cases hL
theorem kinv_9 {z : Nat} (h : KInv W0 v0 pN aV ats k tv Fin L u w) (hL : L 10 = false) (hz : ∀ j x, (u 6 :: tv)[j]? = some x → w.cell? ((⟨z, 0, none⟩ : Addr).add j) = some x) : KInv W0 v0 pN aV ats k tv Fin (updB L 9) (updU u 9 (.slice (some ⟨z, 0, none⟩) 1 1)) w := by
  rcases h with ⟨h1, h2, h3, h4, h5, h6', h7⟩ | ⟨h1, _⟩
  · exact .inl ⟨h1, h2, h3, h4, h5, h6', fun _ => ⟨z, rfl, hz⟩⟩
  · rw [h1] at hL; cases hL
theorem kinv_10 (h : KInv W0 v0 pN aV ats k tv Fin L u w) (hL : L 10 = false) (l0 : L 0 = true) (l6 : L 6 = true) (l9 : L 9 = true) :
    Below W0.heap.size W0 w ∧ u 0 = v0 ∧ w.ownsRow W0.heap.size 3 1 (u 6) (ats.length + 1) (ats.map (Value.int .i64) ++ [.int .i64 (k : Nat)]) ∧ (∃ z, u 9 = .slice (some ⟨z, 0, none⟩) 1 1 ∧ ∀ j x, (u 6 :: tv)[j]? = some x → w.cell? ((⟨z, 0, none⟩ : Addr).add j) = some x) ∧
      ∀ v' w', Fin v' w' → KInv W0 v0 pN aV ats k tv Fin (updB L 10) (updU u 10 v') w' := by
  rcases h with ⟨h1, h2, ⟨p0, _⟩, h4, h5, h6', h7⟩ | ⟨h1, _⟩
  · exact ⟨h2, p0 l0, h5 l6, h7 l9, fun v' w' hf => .inr ⟨rfl, hf⟩⟩
  · rw [h1] at hL; cases hL
theorem kinv_fin (h : KInv W0 v0 pN aV ats k tv Fin L u w) (l10 : L 10 = true) : Fin (u 10) w := by
  rcases h with ⟨h1, _⟩ | ⟨_, h⟩
  · rw [h1] at l10; cases l10
  · exact h
end

end Go.Proofs.YtoknglpfchjbjaaGreatDoor
