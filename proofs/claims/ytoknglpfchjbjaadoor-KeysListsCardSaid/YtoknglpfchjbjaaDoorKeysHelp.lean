/- The statements' helpers over keys: ints, apart, plain: what each call returns. Conditions: at most 1000 entries. -/
import Derived.Test.YtoknglpfchjbjaaDoorKeysAlign
import Derived.Deep.QuietTactic
import Derived.BigQuiet
import Derived.WalkSmall
namespace Go.Proofs.YtoknglpfchjbjaaDoor
open Go.RowKit Go.Sp Go.Maps

theorem ba_inj {a b : ByteArray} (h : a.toList = b.toList) : a = b := by
  rw [Go.ByteArray.toList_eq, Go.ByteArray.toList_eq] at h
  cases a with | mk x => cases b with | mk y =>
  rw [ByteArray.mk.injEq]
  exact Array.toList_inj.1 h

/-- Do two entries match? -/
def entMatch (a b : Ent) : Bool := a.has == b.has && (!a.has || a.key.toList == b.key.toList)
theorem entMatch_iff (a b : Ent) : entMatch a b = true ↔ a.lk = b.lk := by
  obtain ⟨_, h, k⟩ := a
  obtain ⟨_, h', k'⟩ := b
  cases h <;> cases h' <;> simp [entMatch, Ent.lk]
  exact ⟨ba_inj, fun h => by rw [h]⟩

/-- Do none of the first i match a later one, and none of the first k the i-th? -/
def apartTo (es : List Ent) (i k : Nat) : Prop := (∀ x y (hx : x < es.length) (hy : y < es.length), x < i → y < x → entMatch es[x] es[y] = false) ∧ ∀ y (hi : i < es.length) (hy : y < es.length), y < k → entMatch es[i] es[y] = false
def Apart (es : List Ent) : Prop := ∀ x y (hx : x < es.length) (hy : y < es.length), y < x → entMatch es[x] es[y] = false

theorem apartTo_next {es : List Ent} {i k : Nat} {hi : i < es.length} {hk : k < es.length} (h : apartTo es i k) (hm : entMatch es[i] es[k] = false) : apartTo es i (k + 1) :=
  ⟨h.1, fun y hi' hy hlt => by
    rcases Nat.lt_or_ge y k with h' | h'
    · exact h.2 y hi' hy h'
    · obtain rfl : y = k := by omega
      exact hm⟩
theorem apartTo_row {es : List Ent} {i : Nat} (h : apartTo es i i) : apartTo es (i + 1) 0 :=
  ⟨fun x y hx hy hlt hyx => by
    rcases Nat.lt_or_ge x i with h' | h'
    · exact h.1 x y hx hy h' hyx
    · obtain rfl : x = i := by omega
      exact h.2 y hx hy hyx, fun y _ _ h' => by omega⟩

theorem not_apart {es : List Ent} {i k : Nat} (hi : i < es.length) (hk : k < es.length) (hlt : k < i) (h : entMatch es[i] es[k] = true) : (false = true ↔ Apart es) := by
  simp only [Bool.false_eq_true, false_iff]
  intro ha
  rw [ha i k hi hk hlt] at h
  cases h

def SomeBool (P : Bool → Prop) (w : World) (e : Ending) (w' : World) : Prop := ∃ b : Bool, P b ∧ e = .returned (.bool b) ∧ Below w.heap.size w w'


end Go.Proofs.YtoknglpfchjbjaaDoor
