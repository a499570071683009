/- The tables of spans and of powers of ten read as their text lays them: what the rows' conditions give the walks. Conditions: none. -/
import Derived.Test.YtoknglpfchjbjaaGreatDoorUtf
import Derived.Test.YtoknglpfchjbjaaGreatDoorTextW
import Derived.Stop.LaidErr
import Derived.Test.YtoknglpfchjbjaaGreatDoorTie
import Derived.ProofKit
import Derived.LaidMore
import Derived.OpenShut
import Derived.Stop.Joined
namespace Go.Proofs.YtoknglpfchjbjaaGreatDoor
open Go.ChangeShapes Go.WideShapes Go.ChangeAt Go.RowKit Go.Sp

set_option maxRecDepth 100000 in
theorem ownKnobK : ownKnob Tryz.prog.godebug = none := by kernel_rfl
set_option maxRecDepth 100000 in
theorem gSpans : Tryz.prog.globalNamed "spyglass/utf.spans" = some 1 := by kernel_rfl
set_option maxRecDepth 100000 in
theorem tSpans : (Tryz.prog.globals[1]?).map (·.type) = some 177 := by kernel_rfl

abbrev laidS : List (String × DataW Unit) := [("spyglass/utf.spans", Rows.laid_spyglass_utf_spans)]

set_option maxRecDepth 100000 in
theorem span_cells {H : Type} {enc : TypeId × Value → H} {w : World} {base : Nat} {spare : Nat → Bool} {held : Bool} {fuel : Nat} {cs : List Value} {x : DataW H × List MemPlace} {a b : Int}
    (h : DataW.trod enc Tryz.prog w base spare held fuel 175 cs = some x) (hx : x.1 = .agg [.lit (.int .i32 a), .lit (.int .i32 b)]) : cs = [.int .i32 a, .int .i32 b] := by
  obtain ⟨y0, y1, n, rfl, hl, h0, h1⟩ := trod_struct2 Tryz.underlying175 h
  obtain ⟨p, e0, rfl, _⟩ := DataW.trod_int Tryz.underlying21 h0
  obtain ⟨q, e1, rfl, _⟩ := DataW.trod_int Tryz.underlying21 h1
  have c53 : Tryz.prog.cellsOf 175 = 2 := by kernel_rfl
  have c21 : Tryz.prog.cellsOf 21 = 1 := by kernel_rfl
  rw [c53] at hl
  rw [c21] at e0 e1
  simp only [DataW.agg.injEq, List.cons.injEq, DataW.lit.injEq, Lit.int.injEq, true_and, and_true] at hx
  obtain ⟨rfl, rfl⟩ := hx
  match cs, hl with
  | [c0, c1], _ =>
    simp at e0 e1
    rw [e0, e1]

set_option maxRecDepth 100000 in
theorem of_laid {W : World} (h : laidMetH Tryz.prog laidS W) : SpansAt W := by
  rw [MakeChecks.laidMetH_plain _ _ _ (by kernel_rfl)] at h
  obtain ⟨ps, ⟨g0, t0, cs0, f0, p0, q0, hg0, ht0, hv0, hd0, _, _⟩, _, _⟩ := h
  obtain rfl := Option.some.inj (gSpans.symm.trans hg0)
  obtain rfl := Option.some.inj (tSpans.symm.trans ht0)
  obtain ⟨xs, m, rfl, hx, hlen, hn5, hel⟩ := DataW.trod_array Tryz.underlying177 hd0
  have c55 : Tryz.prog.cellsOf 177 = 10 := by kernel_rfl
  have c53 : Tryz.prog.cellsOf 175 = 2 := by kernel_rfl
  rw [c55] at hlen
  rw [c53] at hel
  obtain ⟨l0⟩ := cs0
  have hcell : ∀ i, W.cell? ⟨1, i, none⟩ = l0[i]? := fun i => by
    have := World.var?_cell hg0 hv0 i
    simpa using this
  have h0 := hel 0 (by decide)
  have h1 := hel 1 (by decide)
  have h2 := hel 2 (by decide)
  have h3 := hel 3 (by decide)
  have h4 := hel 4 (by decide)
  clear hel hd0 hv0
  simp only [Prod.mk.injEq, Rows.laid_spyglass_utf_spans, DataW.agg.injEq] at hx
  match xs, hn5, l0, hlen with
  | [x0, x1, x2, x3, x4], _, [a0, a1, a2, a3, a4, a5, a6, a7, a8, a9], _ =>
    simp only [List.map_cons, List.map_nil, List.cons.injEq, and_true] at hx
    obtain ⟨⟨k0, k1, k2, k3, k4⟩, _⟩ := hx
    have r0 := span_cells h0 k0.symm
    have r1 := span_cells h1 k1.symm
    have r2 := span_cells h2 k2.symm
    have r3 := span_cells h3 k3.symm
    have r4 := span_cells h4 k4.symm
    simp at r0 r1 r2 r3 r4
    obtain ⟨rfl, rfl⟩ := r0
    obtain ⟨rfl, rfl⟩ := r1
    obtain ⟨rfl, rfl⟩ := r2
    obtain ⟨rfl, rfl⟩ := r3
    obtain ⟨rfl, rfl⟩ := r4
    intro i hi
    rw [Nat.zero_add, hcell i]
    exact List.getElem?_eq_getElem hi

abbrev laid4 : List (String × DataW Unit) := [("math/bits.deBruijn32tab", Rows.laid_math_bits_deBruijn32tab), ("math/bits.deBruijn64tab", Rows.laid_math_bits_deBruijn64tab), ("internal/strconv.uint64pow10", Rows.laid_internal_strconv_uint64pow10), ("spyglass/utf.spans", Rows.laid_spyglass_utf_spans)]

set_option maxRecDepth 100000 in
theorem of_laid4 {W : World} (h : laidMetH Tryz.prog laid4 W) : SpansAt W ∧ PowAt W := by
  rw [MakeChecks.laidMetH_plain _ _ _ (by kernel_rfl)] at h
  have h3 := h.tail.tail
  refine ⟨of_laid ?_, ?_⟩
  · rw [MakeChecks.laidMetH_plain _ _ _ (by kernel_rfl)]
    exact h3.tail
  · have e : (Rows.laid_internal_strconv_uint64pow10 : DataW Unit) = Lib.tabData .u64 Lib.pow10Tab := by kernel_rfl
    rw [e] at h3
    exact Lib.tabIs_of_head (g := 2) (by kernel_rfl) (t := 186) (e := 179) (n := 20) (by kernel_rfl) Tryz.underlying186 Tryz.underlying179 (by kernel_rfl) (by kernel_rfl) h3

end Go.Proofs.YtoknglpfchjbjaaGreatDoor
