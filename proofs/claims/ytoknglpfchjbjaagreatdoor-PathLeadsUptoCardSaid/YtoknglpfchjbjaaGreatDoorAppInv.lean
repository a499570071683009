/- A region that appends a node to a row that the call owns, and stores the row where it was read: what has been done of it. Conditions: none. -/
import Derived.Test.YtoknglpfchjbjaaGreatDoorTree
import Derived.Test.YtoknglpfchjbjaaGreatDoorRegionX
import Derived.Test.YtoknglpfchjbjaaGreatDoorRows
import Derived.Lib.SmallJoins
import Derived.Laws.OwnMore
import Derived.Maps.AppendAt
import Derived.OwnWalk
namespace Go.Proofs.YtoknglpfchjbjaaGreatDoor
open Go.RowKit Go.Sp

theorem infoTree : (Tryz.prog.info? 29).map (fun i => (i.zero, i.size, i.bytes)) = some (some (.agg #[.string ⟨#[]⟩, .string ⟨#[]⟩, .slice none 0 0, .slice none 0 0]), 4, 80) := by kernel_rfl

/-- No node. -/
def z4 : List Value := [.string ⟨#[]⟩, .string ⟨#[]⟩, .slice none 0 0, .slice none 0 0]

/-- All that lay there stays, but two blocks. -/
structure Rest2 (db : Nat) (rb : Option Nat) (W0 w : World) : Prop where
  os : w.os = W0.os
  tape : w.tape = W0.tape
  output : w.output = W0.output
  size : W0.heap.size ≤ w.heap.size
  block : ∀ j, j < W0.heap.size → j ≠ db → some j ≠ rb → w.heap[j]? = W0.heap[j]?

theorem Rest2.of_below {db : Nat} {rb : Option Nat} {W0 w : World} (h : Below W0.heap.size W0 w) : Rest2 db rb W0 w := ⟨h.os, h.tape, h.output, h.size, fun j hj _ _ => h.block j hj⟩
theorem Rest2.grown {db : Nat} {rb r : Option Nat} {W0 w w' : World} (h : Rest2 db rb W0 w) (hg : w.grownBy w' r) (hr : ∀ j, j < W0.heap.size → j ≠ db → some j ≠ rb → some j ≠ r) : Rest2 db rb W0 w' :=
  ⟨hg.os.trans h.os, hg.tape.trans h.tape, hg.output.trans h.output, Nat.le_trans h.size hg.size, fun j hj h1 h2 => (hg.block j (Nat.lt_of_lt_of_le hj h.size) (hr j hj h1 h2)).trans (h.block j hj h1 h2)⟩

/-- u 0: the row · u 1: the node · u 2: the row's length · u 3: a row of one that is no node · u 4: the row, longer by one · u 5: where its last one lies · 6: the node is stored there · 7: the row is stored. -/
def AppInv (W0 : World) (db dof : Nat) (dcur : Array Value) (dt : TypeId) (base : Nat) (v0 : Value) (k : Nat) (xs vs : List Value) (L : Nat → Bool) (u : Nat → Value) (w : World) : Prop :=
  Rest2 db v0.ownBlock W0 w ∧ (L 0 = true → u 0 = v0) ∧ (L 1 = true → u 1 = .agg vs.toArray) ∧ (L 2 = true → u 2 = .int .i64 (k : Nat)) ∧
  ((L 4 = false ∧ L 5 = false ∧ L 6 = false ∧ L 7 = false ∧ Below W0.heap.size W0 w ∧ (L 3 = true → ∃ z, u 3 = .slice (some ⟨z, 0, none⟩) 1 1 ∧ ∀ j u', z4[j]? = some u' → w.cell? ((⟨z, 0, none⟩ : Addr).add j) = some u')) ∨
    (L 4 = true ∧ L 0 = true ∧ L 3 = true ∧ ∃ g cap, u 4 = .slice (some ⟨g, 0, none⟩) (k + 1) cap ∧ g ≠ db ∧ (v0.ownBlock = some g ∨ W0.heap.size ≤ g) ∧
      w.ownsRow base 29 4 (.slice (some ⟨g, 0, none⟩) (k + 1) cap) (k + 1) (xs ++ if L 6 = true then vs else z4) ∧ (L 5 = true → L 2 = true ∧ u 5 = .pointer (some ⟨g, k * 4, none⟩)) ∧ (L 6 = true → L 5 = true ∧ L 1 = true) ∧
      w.heap[db]? = some (.cells (if L 7 = true then dcur.setIfInBounds dof (u 4) else dcur) dt (0, 0))))

section
variable {W0 : World} {db dof : Nat} {dcur : Array Value} {dt : TypeId} {base : Nat} {v0 : Value} {k : Nat} {xs vs : List Value} {L : Nat → Bool} {u : Nat → Value} {w : World}

theorem app_start : AppInv W0 db dof dcur dt base v0 k xs vs (fun _ => false) u W0.drew :=
  ⟨Rest2.of_below (Below.refl _ _).drew, by simp, by simp, by simp, .inl ⟨rfl, rfl, rfl, rfl, (Below.refl _ _).drew, by simp⟩⟩

theorem app_0 (hL : L 0 = false) (h : AppInv W0 db dof dcur dt base v0 k xs vs L u w) : Below W0.heap.size W0 w ∧ AppInv W0 db dof dcur dt base v0 k xs vs (updB L 0) (updU u 0 v0) w := by
  obtain ⟨h1, h2, h3, h4, ⟨p1, p2, p3, p4, p5, p6⟩ | ⟨_, p2, _⟩⟩ := h
  · exact ⟨p5, h1, fun _ => rfl, h3, h4, .inl ⟨p1, p2, p3, p4, p5, p6⟩⟩
  · rw [p2] at hL; cases hL
theorem app_1 (hL : L 1 = false) (h : AppInv W0 db dof dcur dt base v0 k xs vs L u w) : AppInv W0 db dof dcur dt base v0 k xs vs (updB L 1) (updU u 1 (.agg vs.toArray)) w := by
  obtain ⟨h1, h2, h3, h4, ⟨p1, p2, p3, p4, p5, p6⟩ | ⟨p1, p2, p3, g, cap, q1, q2, q3, q4, q5, q6, q7⟩⟩ := h
  · exact ⟨h1, h2, fun _ => rfl, h4, .inl ⟨p1, p2, p3, p4, p5, p6⟩⟩
  · exact ⟨h1, h2, fun _ => rfl, h4, .inr ⟨p1, p2, p3, g, cap, q1, q2, q3, q4, q5, fun h => ⟨(q6 h).1, rfl⟩, q7⟩⟩
theorem app_2 (hL : L 2 = false) (h : AppInv W0 db dof dcur dt base v0 k xs vs L u w) : AppInv W0 db dof dcur dt base v0 k xs vs (updB L 2) (updU u 2 (.int .i64 (k : Nat))) w := by
  obtain ⟨h1, h2, h3, h4, ⟨p1, p2, p3, p4, p5, p6⟩ | ⟨p1, p2, p3, g, cap, q1, q2, q3, q4, q5, q6, q7⟩⟩ := h
  · exact ⟨h1, h2, h3, fun _ => rfl, .inl ⟨p1, p2, p3, p4, p5, p6⟩⟩
  · exact ⟨h1, h2, h3, fun _ => rfl, .inr ⟨p1, p2, p3, g, cap, q1, q2, q3, q4, fun h => ⟨rfl, (q5 h).2⟩, q6, q7⟩⟩
theorem app_3 (hL : L 3 = false) (h : AppInv W0 db dof dcur dt base v0 k xs vs L u w) : Below W0.heap.size W0 w ∧ ∀ z w', Below w.heap.size w w' → (∀ j u', z4[j]? = some u' → w'.cell? ((⟨z, 0, none⟩ : Addr).add j) = some u') →
    AppInv W0 db dof dcur dt base v0 k xs vs (updB L 3) (updU u 3 (.slice (some ⟨z, 0, none⟩) 1 1)) w' := by
  obtain ⟨h1, h2, h3, h4, ⟨p1, p2, p3, p4, p5, p6⟩ | ⟨_, _, p3, _⟩⟩ := h
  · refine ⟨p5, fun z w' hb hz => ?_⟩
    have hb' := p5.trans (hb.mono p5.size)
    exact ⟨Rest2.of_below hb', h2, h3, h4, .inl ⟨p1, p2, p3, p4, hb', fun _ => ⟨z, rfl, hz⟩⟩⟩
  · rw [p3] at hL; cases hL
theorem app_4 (hdb : db < W0.heap.size) (hne : v0.ownBlock ≠ some db) (hd : W0.heap[db]? = some (.cells dcur dt (0, 0))) (hL : L 4 = false) (l0 : L 0 = true) (l3 : L 3 = true) (h : AppInv W0 db dof dcur dt base v0 k xs vs L u w) :
    u 0 = v0 ∧ Below W0.heap.size W0 w ∧ (∃ z, u 3 = .slice (some ⟨z, 0, none⟩) 1 1 ∧ ∀ j u', z4[j]? = some u' → w.cell? ((⟨z, 0, none⟩ : Addr).add j) = some u') ∧
    ∀ v' w', w'.ownsRow base 29 4 v' (k + 1) (xs ++ z4) → w.grownBy w' v0.ownBlock → (v'.ownBlock = v0.ownBlock ∨ v'.ownBlock = some w.heap.size) → AppInv W0 db dof dcur dt base v0 k xs vs (updB L 4) (updU u 4 v') w' := by
  obtain ⟨h1, h2, h3, h4, ⟨p1, p2, p3, p4, p5, p6⟩ | ⟨p1, _⟩⟩ := h
  · refine ⟨h2 l0, p5, p6 l3, fun v' w' hr hg ho => ?_⟩
    obtain ⟨g, cap, rfl⟩ := Joins.ownsRow_form hr (Nat.succ_pos k)
    have ho' : v0.ownBlock = some g ∨ w.heap.size = g := by
      rcases ho with ho | ho
      · exact .inl ho.symm
      · exact .inr (Option.some.inj ho).symm
    have hs := p5.size
    refine ⟨h1.grown hg (fun j _ _ h2 => h2), h2, h3, h4, .inr ⟨rfl, l0, l3, g, cap, rfl, ?_, ?_, ?_, fun h => ?_, fun h => ?_, ?_⟩⟩
    · rintro rfl
      rcases ho' with ho | ho
      · exact hne ho
      · omega
    · rcases ho' with ho | ho
      · exact .inl ho
      · exact .inr (by omega)
    · have h6 : updB L 4 6 = false := p3
      rw [h6]; exact hr
    · have h5 : L 5 = true := h
      rw [p2] at h5; cases h5
    · have h5 : L 6 = true := h
      rw [p3] at h5; cases h5
    · have h7 : updB L 4 7 = false := p4
      rw [h7]
      exact (hg.block db (by omega) (fun e => hne e.symm)).trans ((p5.block db hdb).trans hd)
  · rw [p1] at hL; cases hL
theorem app_5 (l4 : L 4 = true) (l2 : L 2 = true) (hL : L 5 = false) (h : AppInv W0 db dof dcur dt base v0 k xs vs L u w) : u 2 = .int .i64 (k : Nat) ∧ ∃ g cap, u 4 = .slice (some ⟨g, 0, none⟩) (k + 1) cap ∧
    AppInv W0 db dof dcur dt base v0 k xs vs (updB L 5) (updU u 5 (.pointer (some ⟨g, k * 4, none⟩))) w := by
  obtain ⟨h1, h2, h3, h4, ⟨p1, _⟩ | ⟨p1, p2, p3, g, cap, q1, q2, q3, q4, q5, q6, q7⟩⟩ := h
  · rw [p1] at l4; cases l4
  · exact ⟨h4 l2, g, cap, q1, h1, h2, h3, h4, .inr ⟨p1, p2, p3, g, cap, q1, q2, q3, q4, fun _ => ⟨l2, rfl⟩, fun h => ⟨rfl, (q6 h).2⟩, q7⟩⟩
theorem app_6 (hvs : vs.length = 4) (hxs : xs.length = k * 4) (hdb : db < W0.heap.size) (l5 : L 5 = true) (l1 : L 1 = true) (hL : L 6 = false) (h : AppInv W0 db dof dcur dt base v0 k xs vs L u w) :
    ∃ g cap, u 1 = .agg vs.toArray ∧ u 5 = .pointer (some ⟨g, k * 4, none⟩) ∧ w.ownsRow base 29 4 (.slice (some ⟨g, 0, none⟩) (k + 1) cap) (k + 1) (xs ++ z4) ∧
    ∀ w', w'.ownsRow base 29 4 (.slice (some ⟨g, 0, none⟩) (k + 1) cap) (k + 1) (xs ++ vs) → w.grownBy w' (some g) → ∀ v, AppInv W0 db dof dcur dt base v0 k xs vs (updB L 6) (updU u 6 v) w' := by
  obtain ⟨h1, h2, h3, h4, ⟨_, p2, _⟩ | ⟨p1, p2, p3, g, cap, q1, q2, q3, q4, q5, q6, q7⟩⟩ := h
  · rw [p2] at l5; cases l5
  · refine ⟨g, cap, h3 l1, (q5 l5).2, ?_, fun w' hr hg v => ⟨h1.grown hg (fun j hj hj1 hj2 e => ?_), h2, h3, h4, .inr ⟨p1, p2, p3, g, cap, q1, q2, q3, ?_, q5, fun _ => ⟨l5, l1⟩, ?_⟩⟩⟩
    · rw [hL] at q4; exact q4
    · cases e
      rcases q3 with q | q
      · exact hj2 q.symm
      · omega
    · have h6 : updB L 6 6 = true := rfl
      rw [h6]; exact hr
    · exact (hg.block db (by have := h1.size; omega) (fun e => q2 (Option.some.inj e).symm)).trans q7
theorem app_7 (l4 : L 4 = true) (hL : L 7 = false) (h : AppInv W0 db dof dcur dt base v0 k xs vs L u w) : ∃ g cap, u 4 = .slice (some ⟨g, 0, none⟩) (k + 1) cap ∧ w.heap[db]? = some (.cells dcur dt (0, 0)) ∧
    ∀ v, AppInv W0 db dof dcur dt base v0 k xs vs (updB L 7) (updU u 7 v) (w.setCell ⟨db, dof, none⟩ (u 4)) := by
  obtain ⟨h1, h2, h3, h4, ⟨p1, _⟩ | ⟨p1, p2, p3, g, cap, q1, q2, q3, q4, q5, q6, q7⟩⟩ := h
  · rw [p1] at l4; cases l4
  · rw [hL] at q7
    have hg : w.grownBy (w.setCell ⟨db, dof, none⟩ (u 4)) (some db) := ⟨rfl, rfl, rfl, by simp, fun j _ hj => heap_setCell_other w ⟨db, dof, none⟩ j (u 4) (fun e => hj (by simp [e]))⟩
    refine ⟨g, cap, q1, q7, fun v => ⟨h1.grown hg (fun j _ hj _ e => hj (Option.some.inj e)), h2, h3, h4, .inr ⟨p1, p2, p3, g, cap, q1, q2, q3, ?_, q5, q6, ?_⟩⟩⟩
    · exact q4.kept hg (.inr (fun e => q2 (Option.some.inj e)))
    · exact heap_setCell_same w db dof dcur dt (u 4) q7
theorem app_fin (hall : ∀ i, i < 8 → L i = true) (h : AppInv W0 db dof dcur dt base v0 k xs vs L u w) : ∃ g cap, u 4 = .slice (some ⟨g, 0, none⟩) (k + 1) cap ∧ g ≠ db ∧ (v0.ownBlock = some g ∨ W0.heap.size ≤ g) ∧
    w.ownsRow base 29 4 (.slice (some ⟨g, 0, none⟩) (k + 1) cap) (k + 1) (xs ++ vs) ∧ w.heap[db]? = some (.cells (dcur.setIfInBounds dof (.slice (some ⟨g, 0, none⟩) (k + 1) cap)) dt (0, 0)) ∧ Rest2 db v0.ownBlock W0 w := by
  obtain ⟨h1, h2, h3, h4, ⟨p1, _⟩ | ⟨p1, p2, p3, g, cap, q1, q2, q3, q4, q5, q6, q7⟩⟩ := h
  · rw [hall 4 (by decide)] at p1; cases p1
  · rw [hall 6 (by decide)] at q4
    rw [hall 7 (by decide), q1] at q7
    exact ⟨g, cap, q1, q2, q3, q4, q7, h1⟩

theorem z4_new (w : World) (t : TypeId) : ∀ j u', z4[j]? = some u' → (w.alloc (.cells #[.string ⟨#[]⟩, .string ⟨#[]⟩, .slice none 0 0, .slice none 0 0] t)).cell? ((⟨w.heap.size, 0, none⟩ : Addr).add j) = some u' := by
  intro j u' h
  have h0 := heap_alloc_new w (.cells #[.string ⟨#[]⟩, .string ⟨#[]⟩, .slice none 0 0, .slice none 0 0] t)
  have hadd : (⟨w.heap.size, 0, none⟩ : Addr).add j = ⟨w.heap.size, j, none⟩ := by unfold Addr.add; split <;> simp_all
  rw [hadd, cell_of_row _ _ _ _ _ (0, 0) h0, ← h]
  simp [z4]
theorem ownsRow_below' {base : Nat} {e : TypeId} {size : Nat} {v : Value} {n : Nat} {ys : List Value} {w w' : World} (h : w.ownsRow base e size v n ys) (hb : Below w.heap.size w w') : w'.ownsRow base e size v n ys :=
  h.kept (row := none) ⟨hb.os, hb.tape, hb.output, hb.size, fun j hj _ => hb.block j hj⟩ (by
    cases hv : v.ownBlock with
    | none => exact .inl rfl
    | some g => exact .inr (by simp))

section
variable {xs : List Value} {k g cap base : Nat} {w : World} (hxs : xs.length = k * 4) (h : w.ownsRow base 29 4 (.slice (some ⟨g, 0, none⟩) (k + 1) cap) (k + 1) (xs ++ z4))
include hxs h
theorem row_cell0 : w.cell? ⟨g, k * 4, none⟩ = some (.string ⟨#[]⟩) := by rw [h.cellAt _ (by omega), ← hxs]; simp [z4]
theorem row_cell1 : w.cell? ⟨g, k * 4 + 1, none⟩ = some (.string ⟨#[]⟩) := by rw [h.cellAt _ (by omega), ← hxs]; simp [z4]
theorem row_cell2 : w.cell? ⟨g, k * 4 + 2, none⟩ = some (.slice none 0 0) := by rw [h.cellAt _ (by omega), ← hxs]; simp [z4]
theorem row_cell3 : w.cell? ⟨g, k * 4 + 3, none⟩ = some (.slice none 0 0) := by rw [h.cellAt _ (by omega), ← hxs]; simp [z4]
end

/-- The four cells of the last one, stored one by one. -/
theorem own_store4 {g cap : Nat} (hxs : xs.length = k * 4) (h : w.ownsRow base 29 4 (.slice (some ⟨g, 0, none⟩) (k + 1) cap) (k + 1) (xs ++ z4)) :
    (∀ a b c d, ((((w.setCell ⟨g, k * 4, none⟩ a).setCell ⟨g, k * 4 + 1, none⟩ b).setCell ⟨g, k * 4 + 2, none⟩ c).setCell ⟨g, k * 4 + 3, none⟩ d).ownsRow base 29 4 (.slice (some ⟨g, 0, none⟩) (k + 1) cap) (k + 1) (xs ++ [a, b, c, d])) ∧
      ∀ a b c d, w.grownBy ((((w.setCell ⟨g, k * 4, none⟩ a).setCell ⟨g, k * 4 + 1, none⟩ b).setCell ⟨g, k * 4 + 2, none⟩ c).setCell ⟨g, k * 4 + 3, none⟩ d) (some g) := by
  suffices hh : ∀ a b c d, ((((w.setCell ⟨g, k * 4, none⟩ a).setCell ⟨g, k * 4 + 1, none⟩ b).setCell ⟨g, k * 4 + 2, none⟩ c).setCell ⟨g, k * 4 + 3, none⟩ d).ownsRow base 29 4 (.slice (some ⟨g, 0, none⟩) (k + 1) cap) (k + 1) (xs ++ [a, b, c, d]) ∧
      w.grownBy ((((w.setCell ⟨g, k * 4, none⟩ a).setCell ⟨g, k * 4 + 1, none⟩ b).setCell ⟨g, k * 4 + 2, none⟩ c).setCell ⟨g, k * 4 + 3, none⟩ d) (some g) from ⟨fun a b c d => (hh a b c d).1, fun a b c d => (hh a b c d).2⟩
  intro a b c d
  have s1 := h.stored (k * 4) a
  have s2 := s1.1.stored (k * 4 + 1) b
  have s3 := s2.1.stored (k * 4 + 2) c
  have s4 := s3.1.stored (k * 4 + 3) d
  refine ⟨?_, ((s1.2.trans s2.2).trans s3.2).trans s4.2⟩
  have e : ((((xs ++ z4).set (k * 4) a).set (k * 4 + 1) b).set (k * 4 + 2) c).set (k * 4 + 3) d = xs ++ [a, b, c, d] := by
    rw [← hxs]
    simp [List.set_append, z4]
  rw [← e]
  exact s4.1
end

end Go.Proofs.YtoknglpfchjbjaaGreatDoor
