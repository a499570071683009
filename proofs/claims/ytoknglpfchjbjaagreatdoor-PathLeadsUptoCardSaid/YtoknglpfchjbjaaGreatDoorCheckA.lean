/- tree.faults: the six faults, each with the function that looks for it. Conditions: none. -/
import Derived.Test.YtoknglpfchjbjaaGreatDoorFaultsB
import Derived.Test.YtoknglpfchjbjaaGreatDoorBounded
import Derived.Test.YtoknglpfchjbjaaGreatDoorWalkIt
import Derived.Test.YtoknglpfchjbjaaGreatDoorAppInv
namespace Go.Proofs.YtoknglpfchjbjaaGreatDoor
open Go.RowKit Go.Sp

def faultCells : Array Value := #[.int .i64 12, .func (.func 60) #[] #[], .int .i64 11, .func (.func 61) #[] #[], .int .i64 10, .func (.func 65) #[] #[],
  .int .i64 18, .func (.func 68) #[] #[], .int .i64 14, .func (.func 69) #[] #[], .int .i64 15, .func (.func 70) #[] #[]]

theorem faults_any (w : World) : Calls Tryz.prog 39 #[] w (fun e w' => e = .returned (.slice (some ⟨w.heap.size, 0, none⟩) 6 6) ∧ w' = w.alloc (.cells faultCells 111)) := by
  go_enter Tryz.func39, Tryz.ntmps39
  go_wp2
  go_ret
  exact ⟨rfl, rfl⟩

/-- The function of a fault, and which one. -/
def faultFn : Nat → Nat
  | 0 => 60 | 1 => 61 | 2 => 65 | 3 => 68 | 4 => 69 | _ => 70
def faultNo : Nat → Int
  | 0 => 12 | 1 => 11 | 2 => 10 | 3 => 18 | 4 => 14 | _ => 15

theorem fault_cells (i : Nat) (hi : i < 6) : faultCells[i * 2]? = some (.int .i64 (faultNo i)) ∧ faultCells[i * 2 + 1]? = some (.func (.func (faultFn i)) #[] #[]) := by
  have : i = 0 ∨ i = 1 ∨ i = 2 ∨ i = 3 ∨ i = 4 ∨ i = 5 := by omega
  rcases this with rfl | rfl | rfl | rfl | rfl | rfl <;> exact ⟨rfl, rfl⟩

/-- Has a node a fault? -/
noncomputable def faultB : Nat → TT → Bool
  | 0, T => fault1B T.label T.text T.attrs.length T.kids.length
  | 1, T => fault2B T.label T.attrs
  | 2, T => fault3B T.text T.attrs
  | 3, T => T.label.toList.isEmpty && T.text.toList.isEmpty
  | 4, T => !rises T.attrs
  | _, T => !apartT T.kids

/-- The first fault that a node has. -/
noncomputable def firstFault (l : List TT) : Int := match [0, 1, 2, 3, 4, 5].find? (fun q => l.any (faultB q)) with
  | some q => faultNo q
  | none => 0
theorem firstFault_some {l : List TT} {q : Nat} (hq : q < 6) (h : ∃ T ∈ l, faultB q T = true) (h' : ∀ p, p < q → ∀ T ∈ l, faultB p T = false) : firstFault l = faultNo q := by
  have hy : l.any (faultB q) = true := List.any_eq_true.2 h
  have hn : ∀ p, p < q → l.any (faultB p) = false := fun p hp => by rw [List.any_eq_false]; exact fun T hT => by rw [h' p hp T hT]; decide
  unfold firstFault
  have : q = 0 ∨ q = 1 ∨ q = 2 ∨ q = 3 ∨ q = 4 ∨ q = 5 := by omega
  rcases this with rfl | rfl | rfl | rfl | rfl | rfl
  all_goals simp [List.find?, hy, hn]
theorem firstFault_none {l : List TT} (h' : ∀ p, p < 6 → ∀ T ∈ l, faultB p T = false) : firstFault l = 0 := by
  have hn : ∀ p, p < 6 → l.any (faultB p) = false := fun p hp => by rw [List.any_eq_false]; exact fun T hT => by rw [h' p hp T hT]; decide
  unfold firstFault
  simp [List.find?, hn]
theorem faultNo_ne {q : Nat} (hq : q < 6) : faultNo q ≠ 0 := by
  have : q = 0 ∨ q = 1 ∨ q = 2 ∨ q = 3 ∨ q = 4 ∨ q = 5 := by omega
  rcases this with rfl | rfl | rfl | rfl | rfl | rfl <;> decide
theorem firstFault_zero {l : List TT} (h : firstFault l = 0) : ∀ p, p < 6 → ∀ T ∈ l, faultB p T = false := by
  have hex : ∀ p, p ≤ 6 → ∀ q, q < p → ∀ T ∈ l, faultB q T = false := by
    intro p
    induction p with
    | zero => intro _ q hq; omega
    | succ p ih =>
      intro hp q hq T hT
      have ih' := ih (by omega)
      by_cases hqp : q < p
      · exact ih' q hqp T hT
      · obtain rfl : q = p := by omega
        rw [← Bool.not_eq_true]
        intro hf
        rw [firstFault_some (by omega) ⟨T, hT, hf⟩ ih'] at h
        exact faultNo_ne (by omega) h
  exact fun p hp => hex 6 (Nat.le_refl _) p hp

/-- What is wrong with a tree. -/
noncomputable def checkM (n : Nat) (T : TT) : Int := open Classical in if shallow 32 T = true ∧ (nodesM n T).length ≤ 4096 then firstFault (nodesM n T) else 17

/-- What a fault's function tells of a node. -/
theorem fault_any {n₀ n : Nat} {vs : Array Value} {T : TT} {w : World} (h : NodeAt n₀ n w vs T) (hn : n₀ ≤ w.heap.size) (hsp : SpansAt w) (i : Nat) (hi : i < 6) :
    Calls Tryz.prog (faultFn i) #[.agg vs] w fun e w' => e = .returned (.bool (faultB i T)) ∧ Below w.heap.size w w' := by
  obtain ⟨aa, ca, ka, ck, rfl, hr⟩ := h
  cases n with
  | zero => exact hr.elim
  | succ n =>
    obtain ⟨⟨h1, h2, h3, h4⟩, aa', ca', ka', ck', hvs, hat, hkd⟩ := tree_open hr
    simp only [List.cons.injEq, Value.slice.injEq, true_and, and_true] at hvs
    obtain ⟨⟨rfl, rfl⟩, rfl, rfl⟩ := hvs
    have hF : ∀ k, k < n₀ → k < w.heap.size := fun k hk => by omega
    have : i = 0 ∨ i = 1 ∨ i = 2 ∨ i = 3 ∨ i = 4 ∨ i = 5 := by omega
    rcases this with rfl | rfl | rfl | rfl | rfl | rfl
    · exact fault1_any _ _ _ _ _ _ _ _ w
    · exact fault2_any (· < n₀) _ _ _ _ _ _ _ _ w h1 hat hF h3 hsp
    · exact fault3_any (· < n₀) _ _ _ _ _ _ _ _ w h2 hat hF h3 hsp
    · exact fault4_any _ _ _ _ _ _ _ _ w
    · exact fault5_any (· < n₀) _ _ _ _ _ _ _ _ w hat hF h3
    · exact fault6_any n (· < n₀) _ _ _ _ _ _ _ _ w hkd hF h4

end Go.Proofs.YtoknglpfchjbjaaGreatDoor
