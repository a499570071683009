/- awake of the statements over keys returns true. Conditions: none. -/
import Derived.Test.YtoknglpfchjbjaaDoorKeysInts
namespace Go.Proofs.YtoknglpfchjbjaaDoor
open Go.RowKit Go.Sp Go.Maps

def awA : Ent := ⟨0, true, ⟨#[97]⟩⟩
def awB : Ent := ⟨0, true, ⟨#[98]⟩⟩
def awC : Ent := ⟨0, true, ⟨#[99]⟩⟩
theorem aw_plain : (alignM ([awA, awB].map Ent.lk) (List.range 2) ([awB, awC, awA].map Ent.lk)).map encO = [1, -1, 0] := by decide

/-- Entries laid out in one block. -/
theorem ents_block {w : World} {g : Nat} {es : List Ent} {F : Nat → Prop} (hF : F g) (h : ∀ i (hi : i < es.length), es[i].key.size ≤ maxLen ∧ w.cell? ⟨g, i * 3, none⟩ = some (.int .i64 es[i].pl) ∧ w.cell? ⟨g, i * 3 + 1, none⟩ = some (.bool es[i].has) ∧ w.cell? ⟨g, i * 3 + 2, none⟩ = some (.string es[i].key)) :
    Sl entS F w (some ⟨g, 0, none⟩) es := by
  intro i hi
  obtain ⟨h0, h1, h2, h3⟩ := h i hi
  refine ⟨g, 0, _, rfl, hF, ⟨rfl, h0⟩, ?_⟩
  intro j hj
  simp only [entS, Nat.zero_add]
  match j, hj with
  | 0, _ => exact h1
  | 1, _ => exact h2
  | 2, _ => exact h3
  | j + 3, hj => exact absurd hj (by simp)

set_option maxRecDepth 100000 in
set_option maxHeartbeats 1000000 in
theorem awake_any (w : World) : Calls Tryd.prog 6 #[] w (IsBool true w) := by
  go_enter Tryd.func6, Tryd.ntmps6
  go_wp2_with fail
  refine (Align_any _ _ _ _ [awB, awC, awA] [awA, awB] _ ?h1 ?h2 (by decide) (by decide)).mono ?_
  case h1 =>
    refine ents_block (by simp; try omega) ?_
    intro i hi
    have : i = 0 ∨ i = 1 ∨ i = 2 := by simp at hi; omega
    rcases this with rfl | rfl | rfl <;> (refine ⟨?_, ?_, ?_, ?_⟩ <;> first | (simp [awA, awB, awC]; done) | (show ByteArray.size _ ≤ _; simp [awA, awB, awC, maxLen, ByteArray.size]; done))
  case h2 =>
    refine ents_block (by simp; try omega) ?_
    intro i hi
    have : i = 0 ∨ i = 1 := by simp at hi; omega
    rcases this with rfl | rfl <;> (refine ⟨?_, ?_, ?_, ?_⟩ <;> first | (simp [awA, awB]; done) | (show ByteArray.size _ ≤ _; simp [awA, awB, maxLen, ByteArray.size]; done))
  rintro e w1 ⟨a, cap, rfl, hc, hsl, hb⟩
  have HSL := Sp.hid hsl
  have HB := Sp.hid hb
  clear hsl hb
  go_wp2_with fail
  have hs1 := HB.out.size
  simp only [World.size_alloc] at hs1
  refine (ints_any _ (fun b => b = w1.heap.size) _ _ _ _ ((alignM ([awA, awB].map Ent.lk) (List.range 2) ([awB, awC, awA].map Ent.lk)).map encO) [1, -1, 0] _ (HSL.out.frame (fun k hk => Below.heap_alloc _ _ _ hk.2)) ?h3 (fun k hk => by have := hk.2; simp; omega) (fun k hk => by simp [hk]) (by rw [aw_plain]; decide) (by decide)).mono ?_
  case h3 =>
    intro i hi
    refine ⟨w1.heap.size, 0, [.int .i64 _], rfl, rfl, rfl, ?_⟩
    intro j hj
    have hj0 : j = 0 := by simpa using hj
    subst hj0
    have : i = 0 ∨ i = 1 ∨ i = 2 := by simp at hi; omega
    rcases this with rfl | rfl | rfl <;> simp [Shape.int]
  rw [aw_plain]
  rintro e w2 ⟨rfl, hb2⟩
  have HB2 := Sp.hid hb2
  clear hb2
  go_wp2
  go_ret
  exact ⟨rfl, (((((Below.refl _ _).alloc (Nat.le_refl _) _).alloc (by simp) _).trans (HB.out.mono (by simp; omega))).alloc (by omega) _).trans (HB2.out.mono (by simp; omega))⟩

end Go.Proofs.YtoknglpfchjbjaaDoor
