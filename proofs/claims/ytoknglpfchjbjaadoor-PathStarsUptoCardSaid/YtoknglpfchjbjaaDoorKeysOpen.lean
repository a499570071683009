/- From an argument's reading to its entries in memory. Conditions: none. -/
import Derived.Test.YtoknglpfchjbjaaDoorKeys
import Derived.ProofKit
import Derived.Deep.Slices
import Derived.Deep.Strs
import Derived.Lib.SmallJoins
namespace Go.Proofs.YtoknglpfchjbjaaDoor
open Go.ChangeShapes Go.WideShapes Go.ChangeAt Go.RowKit Go.Sp Go.Deep

section
variable {H : Type} {enc : TypeId × Value → H} {P : Program} {W : World} {spare : Nat → Bool} {held : Bool}

/-- A slice that came in, of whatever elements. -/
theorem open_sl {α : Type} [Inhabited α] {S : Shape α} {t e : TypeId} {fuel : Nat} {cs : List Value} {x : DataW H × List MemPlace} (ht : P.underlying t = some (.slice e)) (hc : P.cellsOf e = S.sz) (hsz : 0 < S.sz)
    (hopen : ∀ n cs y, DataW.trod enc P W 0 spare held n e cs = some y → ∃ x, S.rep (fun b => b < W.heap.size) W cs x) (h : DataW.trod enc P W 0 spare held fuel t cs = some x) :
    ∃ a len cap, ∃ xs : List α, cs = [.slice a len cap] ∧ len ≤ maxLen ∧ xs.length = len ∧ Sl S (fun b => b < W.heap.size) W a xs := by
  rcases open_slice ht h with ⟨rfl, _⟩ | ⟨a, len, cap, m, n, D, Pl, rfl, hb, hl, hm, hmm, _, hel⟩
  · exact ⟨none, 0, 0, [], rfl, by simp [maxLen], rfl, Sl.nil⟩
  · have hlm : len ≤ m := by rw [hmm]; split <;> omega
    have hadd : ∀ (a : Addr) j, a.spot = none → a.add j = ⟨a.block, a.off + j, none⟩ := by
      intro a j hs
      obtain ⟨b, o, s⟩ := a
      simp only at hs
      subst hs
      unfold Addr.add; split <;> simp_all
    have hspot : 0 < len → a.spot = none := by
      intro hp
      obtain ⟨cs', hcs, ht'⟩ := hel 0 (by omega)
      obtain ⟨x, hx⟩ := hopen _ _ _ ht'
      obtain ⟨_, hl', hcell⟩ := World.cells?_some hcs
      have hlen := S.len hx
      have h0 := hcell 0 (by omega)
      rw [List.getElem?_eq_getElem (by omega : 0 < cs'.length)] at h0
      simpa [Addr.add] using World.cell?_spot h0
    have hx : ∀ i, i < len → ∃ x, ∃ b o, a = ⟨b, o, none⟩ ∧ b < W.heap.size ∧ ∃ vs, S.rep (fun b => b < W.heap.size) W vs x ∧ CellsAt W b (o + i * S.sz) vs := by
      intro i hi
      obtain ⟨cs', hcs, ht'⟩ := hel i (by omega)
      obtain ⟨x, hx⟩ := hopen _ _ _ ht'
      obtain ⟨_, hl', hcell⟩ := World.cells?_some hcs
      have hlen := S.len hx
      have h0 := hcell 0 (by omega)
      rw [List.getElem?_eq_getElem (by omega : 0 < cs'.length)] at h0
      have hblk := World.block_lt_of_cell? W _ h0
      have hs := hspot (by omega)
      obtain ⟨b, o, s⟩ := a
      simp only at hs
      subst hs
      rw [hadd ⟨b, o, none⟩ _ rfl, hadd _ _ rfl] at hblk
      refine ⟨x, b, o, rfl, hblk, cs', hx, fun j hj => ?_⟩
      have := hcell j (by omega)
      rw [hadd ⟨b, o, none⟩ _ rfl, hadd _ _ rfl, hc] at this
      rw [this, List.getElem?_eq_getElem hj]
    obtain ⟨f, hf⟩ := choose_lt hx
    refine ⟨some a, len, cap, (List.range len).map f, rfl, by omega, by simp, fun i hi => ?_⟩
    have hi' : i < len := by simpa using hi
    obtain ⟨b, o, rfl, hblk, vs, hrep, hcells⟩ := hf i hi'
    exact ⟨b, o, vs, rfl, hblk, by simpa using hrep, hcells⟩
end

theorem cells3 : Tryd.prog.cellsOf 38 = 3 := by kernel_rfl
theorem cellsI : Tryd.prog.cellsOf 3 = 1 := by kernel_rfl

instance : Inhabited Ent := ⟨⟨0, false, ByteArray.empty⟩⟩

set_option maxRecDepth 100000 in
theorem open_entry {H : Type} {enc : TypeId × Value → H} {W : World} {spare : Nat → Bool} {held : Bool} (n : Nat) (cs : List Value) (y : DataW H × List MemPlace) (h : DataW.trod enc Tryd.prog W 0 spare held n 38 cs = some y) :
    ∃ x, entS.rep (fun b => b < W.heap.size) W cs x := by
  obtain ⟨y0, y1, y2, n', _, hl, h0, h1, h2⟩ := trod_struct3 Tryd.underlying38 h
  rw [cells3] at hl
  obtain ⟨a, e0, _, _⟩ := DataW.trod_int Tryd.underlying3 h0
  obtain ⟨b, e1, _⟩ := DataW.trod_bool Tryd.underlying4 h1
  obtain ⟨s, e2, _, hs⟩ := DataW.trod_string Tryd.underlying9 h2
  match cs, hl with
  | [c0, c1, c2], _ =>
    simp [cellsI, cellsB, cellsS] at e0 e1 e2
    subst e0 e1 e2
    exact ⟨⟨a, b, s⟩, rfl, hs⟩

set_option maxRecDepth 100000 in
theorem open_entries {H : Type} {enc : TypeId × Value → H} {W : World} {spare : Nat → Bool} {held : Bool} {fuel : Nat} {cs : List Value} {x : DataW H × List MemPlace} (h : DataW.trod enc Tryd.prog W 0 spare held fuel 31 cs = some x) :
    ∃ a len cap, ∃ xs : List Ent, cs = [.slice a len cap] ∧ len ≤ maxLen ∧ xs.length = len ∧ Sl entS (fun b => b < W.heap.size) W a xs :=
  open_sl (S := entS) Tryd.underlying31 cells3 (by decide) open_entry h

end Go.Proofs.YtoknglpfchjbjaaDoor
