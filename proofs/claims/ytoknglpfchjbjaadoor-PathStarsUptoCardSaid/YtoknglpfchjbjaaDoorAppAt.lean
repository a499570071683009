/- A region of thirteen operations that appends a node to a row held in a node's cell: what has been done of it. Conditions: none. -/
import Derived.Test.YtoknglpfchjbjaaDoorAppInv
import Derived.Test.YtoknglpfchjbjaaDoorRegionX
namespace Go.Proofs.YtoknglpfchjbjaaDoor
open Go.RowKit Go.Sp

/-- Where the eight operations of AppInv stand among the thirteen. -/
def sig (j : Nat) : Nat := if j < 7 then j + 3 else if j = 7 then 12 else j + 100
theorem sig_inj {a b : Nat} (h : sig a = sig b) : a = b := by
  unfold sig at h
  repeat' split at h
  all_goals omega
theorem sig_ne {j i : Nat} (hi : i < 3 ∨ i = 10 ∨ i = 11) : sig j ≠ i := by
  unfold sig
  repeat' split
  all_goals omega
theorem sig_lt {i : Nat} (h : i < 8) : sig i < 13 := by
  unfold sig
  repeat' split
  all_goals omega
theorem sig_updB (L : Nat → Bool) (j : Nat) : (fun j' => updB L (sig j) (sig j')) = updB (fun j' => L (sig j')) j := by
  funext j'
  unfold updB
  by_cases h : j' = j
  · subst h; rw [if_pos rfl, if_pos rfl]
  · rw [if_neg (fun e => h (sig_inj e)), if_neg h]
theorem sig_updU (u : Nat → Value) (j : Nat) (v : Value) : (fun j' => updU u (sig j) v (sig j')) = updU (fun j' => u (sig j')) j v := by
  funext j'
  unfold updU
  by_cases h : j' = j
  · subst h; rw [if_pos rfl, if_pos rfl]
  · rw [if_neg (fun e => h (sig_inj e)), if_neg h]
theorem sig_notB (L : Nat → Bool) {i : Nat} (hi : i < 3 ∨ i = 10 ∨ i = 11) : (fun j' => updB L i (sig j')) = fun j' => L (sig j') := by
  funext j'
  unfold updB
  rw [if_neg (sig_ne hi)]
theorem sig_notU (u : Nat → Value) (v : Value) {i : Nat} (hi : i < 3 ∨ i = 10 ∨ i = 11) : (fun j' => updU u i v (sig j')) = fun j' => u (sig j') := by
  funext j'
  unfold updU
  rw [if_neg (sig_ne hi)]

def Inv13 (p q : Value) (A : (Nat → Bool) → (Nat → Value) → World → Prop) (L : Nat → Bool) (u : Nat → Value) (w : World) : Prop :=
  A (fun j => L (sig j)) (fun j => u (sig j)) w ∧ (L 0 = true → u 0 = p) ∧ (L 1 = true → u 1 = p) ∧ (L 2 = true → u 2 = q) ∧ (L 10 = true → u 10 = p) ∧ (L 11 = true → u 11 = q)

section
variable {p q : Value} {A : (Nat → Bool) → (Nat → Value) → World → Prop} {L : Nat → Bool} {u : Nat → Value} {w w' : World}
theorem inv13_side (i : Nat) (hi : i < 3 ∨ i = 10 ∨ i = 11) (h : Inv13 p q A L u w) : Inv13 p q A (updB L i) (updU u i (if i = 2 ∨ i = 11 then q else p)) w := by
  obtain ⟨h0, h1, h2, h3, h4, h5⟩ := h
  refine ⟨by rw [sig_notB _ hi, sig_notU _ _ hi]; exact h0, ?_, ?_, ?_, ?_, ?_⟩
  all_goals
    rcases hi with hi | rfl | rfl
    · have : i = 0 ∨ i = 1 ∨ i = 2 := by omega
      rcases this with rfl | rfl | rfl <;> simp [updB, updU] <;> assumption
    · simp [updB, updU] <;> assumption
    · simp [updB, updU] <;> assumption
theorem inv13_p (i : Nat) (hi : i < 2 ∨ i = 10) (h : Inv13 p q A L u w) : Inv13 p q A (updB L i) (updU u i p) w := by
  have := inv13_side i (by omega) h
  rwa [if_neg (by omega)] at this
theorem inv13_q (i : Nat) (hi : i = 2 ∨ i = 11) (h : Inv13 p q A L u w) : Inv13 p q A (updB L i) (updU u i q) w := by
  have := inv13_side i (by omega) h
  rwa [if_pos (by omega)] at this
theorem inv13_app (j : Nat) {v : Value} (h : Inv13 p q A L u w) (ha : A (updB (fun j => L (sig j)) j) (updU (fun j => u (sig j)) j v) w') : Inv13 p q A (updB L (sig j)) (updU u (sig j) v) w' := by
  obtain ⟨h0, h1, h2, h3, h4, h5⟩ := h
  have hne : ∀ i, (i < 3 ∨ i = 10 ∨ i = 11) → updB L (sig j) i = L i ∧ updU u (sig j) v i = u i := fun i hi => ⟨by unfold updB; rw [if_neg (sig_ne hi).symm], by unfold updU; rw [if_neg (sig_ne hi).symm]⟩
  refine ⟨by rw [sig_updB, sig_updU]; exact ha, ?_, ?_, ?_, ?_, ?_⟩
  · rw [(hne 0 (by omega)).1, (hne 0 (by omega)).2]; exact h1
  · rw [(hne 1 (by omega)).1, (hne 1 (by omega)).2]; exact h2
  · rw [(hne 2 (by omega)).1, (hne 2 (by omega)).2]; exact h3
  · rw [(hne 10 (by omega)).1, (hne 10 (by omega)).2]; exact h4
  · rw [(hne 11 (by omega)).1, (hne 11 (by omega)).2]; exact h5
end

end Go.Proofs.YtoknglpfchjbjaaDoor
