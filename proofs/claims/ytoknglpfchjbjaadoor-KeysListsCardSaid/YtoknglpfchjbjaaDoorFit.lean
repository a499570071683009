/- tree.fit: it returns. Conditions: none. -/
import Derived.Test.YtoknglpfchjbjaaDoorTree
import Derived.Test.YtoknglpfchjbjaaDoorRegion
import Derived.Test.YtoknglpfchjbjaaDoorRows
import Derived.WalkKit
namespace Go.Proofs.YtoknglpfchjbjaaDoor
open Go.RowKit Go.Sp

/-- A step: its kind, its name, its text. -/
structure Stp where
  kind : Int
  name : ByteArray
  text : ByteArray
def stpS : Shape Stp where
  sz := 3
  rep _ _ vs x := vs = [.int .i64 x.kind, .string x.name, .string x.text] ∧ x.name.size ≤ maxLen ∧ x.text.size ≤ maxLen
  len := by rintro _ _ _ _ ⟨rfl, _⟩; rfl
  frame := by intro _ _ _ _ _ h _; exact h
  mono := by intro _ _ _ _ _ h _; exact h
theorem stp_cells {F : Nat → Prop} {w : World} {a : Option Addr} {es : List Stp} (h : Sl stpS F w a es) (i : Nat) (hi : i < es.length) :
    ∃ b o, a = some ⟨b, o, none⟩ ∧ F b ∧ es[i].name.size ≤ maxLen ∧ es[i].text.size ≤ maxLen ∧ w.cell? ⟨b, o + i * 3, none⟩ = some (.int .i64 es[i].kind) ∧
      w.cell? ⟨b, o + i * 3 + 1, none⟩ = some (.string es[i].name) ∧ w.cell? ⟨b, o + i * 3 + 2, none⟩ = some (.string es[i].text) := by
  obtain ⟨b, o, vs, h1, h2, ⟨rfl, h3, h4⟩, h5⟩ := h i hi
  exact ⟨b, o, h1, h2, h3, h4, h5 0 (by simp), h5 1 (by simp), h5 2 (by simp)⟩

def fitB (k : Int) (n t : ByteArray) : Bool := if (k == 1) = true then !n.toList.isEmpty && t.toList.isEmpty else if (k == 2) = true then true else if (k == 3) = true then n.toList.isEmpty else if (k == 4) = true then n.toList.isEmpty && t.toList.isEmpty else false

theorem fit_any (k : Int) (n t : ByteArray) (w : World) : Calls Tryd.prog 21 #[.agg #[.int .i64 k, .string n, .string t]] w fun e w' => e = .returned (.bool (fitB k n t)) ∧ Below w.heap.size w w' := by
  obtain ⟨v, hv⟩ : ∃ v, v = fitB k n t := ⟨_, rfl⟩
  rw [← hv]
  unfold fitB at hv
  have hb : Below w.heap.size w (w.alloc (.cells #[.int .i64 k, .string n, .string t] 64)) := (Below.refl _ _).alloc (Nat.le_refl _) _
  have HB := Sp.hid hb
  clear hb
  cases h1 : (k == 1)
  · cases h2 : (k == 2)
    · cases h3 : (k == 3)
      · cases h4 : (k == 4)
        · simp only [h1, h2, h3, h4, Bool.false_eq_true, if_false] at hv
          subst hv
          go_enter Tryd.func21, Tryd.ntmps21
          go_wp2
          go_ret
          exact ⟨rfl, HB.out⟩
        · cases hn : n.toList.isEmpty
          all_goals cases ht : t.toList.isEmpty
          all_goals
            simp only [h1, h2, h3, h4, hn, ht, Bool.false_eq_true, if_false, if_true, Bool.and_self, Bool.false_and, Bool.and_false] at hv
            subst hv
            go_enter Tryd.func21, Tryd.ntmps21
            go_wp2
            go_ret
            exact ⟨rfl, HB.out⟩
      · cases hn : n.toList.isEmpty
        all_goals
          simp only [h1, h2, h3, hn, Bool.false_eq_true, if_false, if_true] at hv
          subst hv
          go_enter Tryd.func21, Tryd.ntmps21
          go_wp2
          go_ret
          exact ⟨rfl, HB.out⟩
    · simp only [h1, h2, Bool.false_eq_true, if_false, if_true] at hv
      subst hv
      go_enter Tryd.func21, Tryd.ntmps21
      go_wp2
      go_ret
      exact ⟨rfl, HB.out⟩
  · cases hn : n.toList.isEmpty
    all_goals cases ht : t.toList.isEmpty
    all_goals
      simp only [h1, hn, ht, if_true, Bool.not_true, Bool.not_false, Bool.and_self, Bool.false_and, Bool.and_false] at hv
      subst hv
      go_enter Tryd.func21, Tryd.ntmps21
      go_wp2
      go_ret
      exact ⟨rfl, HB.out⟩

end Go.Proofs.YtoknglpfchjbjaaDoor
