/- The table of spans reads as its text lays it: what the row's condition gives the walks, and that the program's own start meets it. Conditions: none. -/
import Derived.Test.YtoknglpfchjbjaaDoorUtf
import Derived.Test.YtoknglpfchjbjaaDoorTie
import Derived.ProofKit
import Derived.LaidMore
import Derived.OpenShut
import Derived.Stop.Joined
namespace Go.Proofs.YtoknglpfchjbjaaDoor
open Go.ChangeShapes Go.WideShapes Go.ChangeAt Go.RowKit Go.Sp

set_option maxRecDepth 100000 in
theorem ownKnobK : ownKnob Tryd.prog.godebug = none := by kernel_rfl
set_option maxRecDepth 100000 in
theorem gSpans : Tryd.prog.globalNamed "spyglass/utf.spans" = some 0 := by kernel_rfl
set_option maxRecDepth 100000 in
theorem tSpans : (Tryd.prog.globals[0]?).map (·.type) = some 168 := by kernel_rfl

abbrev laidS : List (String × DataW Unit) := [("spyglass/utf.spans", Rows.laid_spyglass_utf_spans)]

set_option maxRecDepth 100000 in
theorem span_cells {H : Type} {enc : TypeId × Value → H} {w : World} {base : Nat} {spare : Nat → Bool} {held : Bool} {fuel : Nat} {cs : List Value} {x : DataW H × List MemPlace} {a b : Int}
    (h : DataW.trod enc Tryd.prog w base spare held fuel 166 cs = some x) (hx : x.1 = .agg [.lit (.int .i32 a), .lit (.int .i32 b)]) : cs = [.int .i32 a, .int .i32 b] := by
  obtain ⟨y0, y1, n, rfl, hl, h0, h1⟩ := trod_struct2 Tryd.underlying166 h
  obtain ⟨p, e0, rfl, _⟩ := DataW.trod_int Tryd.underlying21 h0
  obtain ⟨q, e1, rfl, _⟩ := DataW.trod_int Tryd.underlying21 h1
  have c53 : Tryd.prog.cellsOf 166 = 2 := by kernel_rfl
  have c21 : Tryd.prog.cellsOf 21 = 1 := by kernel_rfl
  rw [c53] at hl
  rw [c21] at e0 e1
  simp only [DataW.agg.injEq, List.cons.injEq, DataW.lit.injEq, Lit.int.injEq, true_and, and_true] at hx
  obtain ⟨rfl, rfl⟩ := hx
  match cs, hl with
  | [c0, c1], _ =>
    simp at e0 e1
    rw [e0, e1]

set_option maxRecDepth 100000 in
theorem door_met (os : Os) (args : Array Value) : laidMetH Tryd.prog laidS ((World.doorLaid Tryd.prog 19 os).forCall (fun _ _ => 0) ⟨#[], args, []⟩).memory :=
  laidMetH_of_parts3 (fuel := 8) (laidMet_of_run' 8 (by kernel_rfl) (by kernel_rfl)) (by kernel_rfl) (by kernel_rfl)

set_option maxRecDepth 100000 in
theorem of_laid {W : World} (h : laidMetH Tryd.prog laidS W) : SpansAt W := by
  rw [MakeChecks.laidMetH_plain _ _ _ (by kernel_rfl)] at h
  obtain ⟨ps, ⟨g0, t0, cs0, f0, p0, q0, hg0, ht0, hv0, hd0, _, _⟩, _, _⟩ := h
  obtain rfl := Option.some.inj (gSpans.symm.trans hg0)
  obtain rfl := Option.some.inj (tSpans.symm.trans ht0)
  obtain ⟨xs, m, rfl, hx, hlen, hn5, hel⟩ := DataW.trod_array Tryd.underlying168 hd0
  have c55 : Tryd.prog.cellsOf 168 = 10 := by kernel_rfl
  have c53 : Tryd.prog.cellsOf 166 = 2 := by kernel_rfl
  rw [c55] at hlen
  rw [c53] at hel
  obtain ⟨l0⟩ := cs0
  have hcell : ∀ i, W.cell? ⟨0, i, none⟩ = l0[i]? := fun i => by
    have := World.var?_cell hg0 hv0 i
    simpa using this
  have h0 := hel 0 (by decide)
  have h1 := hel 1 (by decide)
  have h2 := hel 2 (by decide)
  have h3 := hel 3 (by decide)
  have h4 := hel 4 (by decide)
  clear hel hd0 hv0
  simp only [Prod.mk.injEq, Rows.laid_spyglass_utf_spans, DataW.agg.injEq] at hx
  match xs, hn5, l0, hlen with
  | [x0, x1, x2, x3, x4], _, [a0, a1, a2, a3, a4, a5, a6, a7, a8, a9], _ =>
    simp only [List.map_cons, List.map_nil, List.cons.injEq, and_true] at hx
    obtain ⟨⟨k0, k1, k2, k3, k4⟩, _⟩ := hx
    have r0 := span_cells h0 k0.symm
    have r1 := span_cells h1 k1.symm
    have r2 := span_cells h2 k2.symm
    have r3 := span_cells h3 k3.symm
    have r4 := span_cells h4 k4.symm
    simp at r0 r1 r2 r3 r4
    obtain ⟨rfl, rfl⟩ := r0
    obtain ⟨rfl, rfl⟩ := r1
    obtain ⟨rfl, rfl⟩ := r2
    obtain ⟨rfl, rfl⟩ := r3
    obtain ⟨rfl, rfl⟩ := r4
    intro i hi
    rw [Nat.zero_add, hcell i]
    exact List.getElem?_eq_getElem hi

end Go.Proofs.YtoknglpfchjbjaaDoor
