/- Steps of a tree, in memory. Conditions: none. -/
import Derived.Test.YtoknglpfchjbjaaGreatDoorTree
namespace Go.Proofs.YtoknglpfchjbjaaGreatDoor
open Go.RowKit Go.Sp

/-- A step: its kind, its name, its text. -/
structure Stp where
  kind : Int
  name : ByteArray
  text : ByteArray
def stpS : Shape Stp where
  sz := 3
  rep _ _ vs x := vs = [.int .i64 x.kind, .string x.name, .string x.text] ∧ x.name.size ≤ maxLen ∧ x.text.size ≤ maxLen
  len := by rintro _ _ _ _ ⟨rfl, _⟩; rfl
  frame := by intro _ _ _ _ _ h _; exact h
  mono := by intro _ _ _ _ _ h _; exact h
theorem stp_cells {F : Nat → Prop} {w : World} {a : Option Addr} {es : List Stp} (h : Sl stpS F w a es) (i : Nat) (hi : i < es.length) :
    ∃ b o, a = some ⟨b, o, none⟩ ∧ F b ∧ es[i].name.size ≤ maxLen ∧ es[i].text.size ≤ maxLen ∧ w.cell? ⟨b, o + i * 3, none⟩ = some (.int .i64 es[i].kind) ∧
      w.cell? ⟨b, o + i * 3 + 1, none⟩ = some (.string es[i].name) ∧ w.cell? ⟨b, o + i * 3 + 2, none⟩ = some (.string es[i].text) := by
  obtain ⟨b, o, vs, h1, h2, ⟨rfl, h3, h4⟩, h5⟩ := h i hi
  exact ⟨b, o, h1, h2, h3, h4, h5 0 (by simp), h5 1 (by simp), h5 2 (by simp)⟩

end Go.Proofs.YtoknglpfchjbjaaGreatDoor
