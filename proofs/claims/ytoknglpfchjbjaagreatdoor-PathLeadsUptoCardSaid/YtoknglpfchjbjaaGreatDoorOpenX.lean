/- Merged: From an argument's reading to a path in memory · What the law's steps read as, and how many they are at most. Conditions: those of the parts. -/
import Derived.Test.YtoknglpfchjbjaaGreatDoorPathData
import Derived.Test.YtoknglpfchjbjaaGreatDoorTree
import Derived.Test.YtoknglpfchjbjaaGreatDoorRows
import Derived.ProofKit
import Derived.Deep.Slices
import Derived.Deep.Strs
import Derived.Lib.SmallJoins
import Derived.Test.YtoknglpfchjbjaaGreatDoorStp
/- From an argument's reading to a path in memory. Conditions: none. -/
namespace Go.Proofs.YtoknglpfchjbjaaGreatDoor
open Go.ChangeShapes Go.WideShapes Go.ChangeAt Go.RowKit Go.Sp Go.Deep

section
variable {H : Type} {enc : TypeId × Value → H} {P : Program} {W : World} {spare : Nat → Bool} {held : Bool}

/-- A slice that came in, of whatever elements. -/
theorem open_slg {α : Type} [Inhabited α] {S : Shape α} {t e : TypeId} {fuel : Nat} {cs : List Value} {x : DataW H × List MemPlace} (ht : P.underlying t = some (.slice e)) (hc : P.cellsOf e = S.sz) (hsz : 0 < S.sz)
    (hopen : ∀ n cs y, DataW.trod enc P W 0 spare held n e cs = some y → ∃ x, S.rep (fun b => b < W.heap.size) W cs x) (h : DataW.trod enc P W 0 spare held fuel t cs = some x) :
    ∃ a len cap, ∃ xs : List α, cs = [.slice a len cap] ∧ len ≤ maxLen ∧ xs.length = len ∧ Sl S (fun b => b < W.heap.size) W a xs := by
  rcases open_slice ht h with ⟨rfl, _⟩ | ⟨a, len, cap, m, n, D, Pl, rfl, hb, hl, hm, hmm, _, hel⟩
  · exact ⟨none, 0, 0, [], rfl, by simp [maxLen], rfl, Sl.nil⟩
  · have hlm : len ≤ m := by rw [hmm]; split <;> omega
    have hadd : ∀ (a : Addr) j, a.spot = none → a.add j = ⟨a.block, a.off + j, none⟩ := by
      intro a j hs
      obtain ⟨b, o, s⟩ := a
      simp only at hs
      subst hs
      unfold Addr.add; split <;> simp_all
    have hspot : 0 < len → a.spot = none := by
      intro hp
      obtain ⟨cs', hcs, ht'⟩ := hel 0 (by omega)
      obtain ⟨x, hx⟩ := hopen _ _ _ ht'
      obtain ⟨_, hl', hcell⟩ := World.cells?_some hcs
      have hlen := S.len hx
      have h0 := hcell 0 (by omega)
      rw [List.getElem?_eq_getElem (by omega : 0 < cs'.length)] at h0
      simpa [Addr.add] using World.cell?_spot h0
    have hx : ∀ i, i < len → ∃ x, ∃ b o, a = ⟨b, o, none⟩ ∧ b < W.heap.size ∧ ∃ vs, S.rep (fun b => b < W.heap.size) W vs x ∧ CellsAt W b (o + i * S.sz) vs := by
      intro i hi
      obtain ⟨cs', hcs, ht'⟩ := hel i (by omega)
      obtain ⟨x, hx⟩ := hopen _ _ _ ht'
      obtain ⟨_, hl', hcell⟩ := World.cells?_some hcs
      have hlen := S.len hx
      have h0 := hcell 0 (by omega)
      rw [List.getElem?_eq_getElem (by omega : 0 < cs'.length)] at h0
      have hblk := World.block_lt_of_cell? W _ h0
      have hs := hspot (by omega)
      obtain ⟨b, o, s⟩ := a
      simp only at hs
      subst hs
      rw [hadd ⟨b, o, none⟩ _ rfl, hadd _ _ rfl] at hblk
      refine ⟨x, b, o, rfl, hblk, cs', hx, fun j hj => ?_⟩
      have := hcell j (by omega)
      rw [hadd ⟨b, o, none⟩ _ rfl, hadd _ _ rfl, hc] at this
      rw [this, List.getElem?_eq_getElem hj]
    obtain ⟨f, hf⟩ := choose_lt hx
    refine ⟨some a, len, cap, (List.range len).map f, rfl, by omega, by simp, fun i hi => ?_⟩
    have hi' : i < len := by simpa using hi
    obtain ⟨b, o, rfl, hblk, vs, hrep, hcells⟩ := hf i hi'
    exact ⟨b, o, vs, rfl, hblk, by simpa using hrep, hcells⟩
end


theorem pcellsP : Tryz.prog.cellsOf 70 = 3 := by kernel_rfl
theorem pcellsS : Tryz.prog.cellsOf 68 = 3 := by kernel_rfl
theorem pcellsI : Tryz.prog.cellsOf 3 = 1 := by kernel_rfl
theorem pcellsB : Tryz.prog.cellsOf 4 = 1 := by kernel_rfl
theorem pcellsT : Tryz.prog.cellsOf 9 = 1 := by kernel_rfl
theorem pcellsL : Tryz.prog.cellsOf 66 = 1 := by kernel_rfl
theorem pcellsQ : Tryz.prog.cellsOf 23 = 1 := by kernel_rfl
theorem pcellsX : Tryz.prog.cellsOf 25 = 1 := by kernel_rfl
instance : Inhabited PredM := ⟨⟨ByteArray.empty, ByteArray.empty, 0⟩⟩
instance : Inhabited StepM := ⟨⟨false, ByteArray.empty, []⟩⟩

set_option maxRecDepth 100000 in
theorem open_pred {H : Type} {enc : TypeId × Value → H} {W : World} {spare : Nat → Bool} {held : Bool} (n : Nat) (cs : List Value) (y : DataW H × List MemPlace) (h : DataW.trod enc Tryz.prog W 0 spare held n 70 cs = some y) :
    ∃ x, predS.rep (fun b => b < W.heap.size) W cs x := by
  obtain ⟨y0, y1, y2, n', _, hl, h0, h1, h2⟩ := trod_struct3 Tryz.underlying70 h
  rw [pcellsP] at hl
  obtain ⟨a, e0, _, ha⟩ := DataW.trod_string Tryz.underlying9 h0
  obtain ⟨b, e1, _, hb⟩ := DataW.trod_string Tryz.underlying9 h1
  obtain ⟨p, e2, _, hp⟩ := DataW.trod_int Tryz.underlying3 h2
  have m1 : IntKind.i64.min = -9223372036854775808 := rfl
  have m2 : IntKind.i64.max = 9223372036854775807 := rfl
  simp only [Lit.wf, Bool.and_eq_true, decide_eq_true_eq, m1, m2] at hp
  match cs, hl with
  | [c0, c1, c2], _ =>
    simp [pcellsI, pcellsT] at e0 e1 e2
    subst e0 e1 e2
    exact ⟨⟨a, b, p⟩, rfl, ha, hb, hp⟩

set_option maxRecDepth 100000 in
theorem open_pstep {H : Type} {enc : TypeId × Value → H} {W : World} {spare : Nat → Bool} {held : Bool} (n : Nat) (cs : List Value) (y : DataW H × List MemPlace) (h : DataW.trod enc Tryz.prog W 0 spare held n 68 cs = some y) :
    ∃ x, pstepS.rep (fun b => b < W.heap.size) W cs x := by
  obtain ⟨y0, y1, y2, n', _, hl, h0, h1, h2⟩ := trod_struct3 Tryz.underlying68 h
  rw [pcellsS] at hl
  obtain ⟨a, e0, _⟩ := DataW.trod_bool Tryz.underlying4 h0
  obtain ⟨b, e1, _, hb⟩ := DataW.trod_string Tryz.underlying9 h1
  obtain ⟨pa, pl, pc, xs, e2, hpl, hxs, hsl⟩ := open_slg (S := predS) Tryz.underlying66 pcellsP (by decide) open_pred h2
  match cs, hl with
  | [c0, c1, c2], _ =>
    simp [pcellsB, pcellsT, pcellsL] at e0 e1 e2
    subst e0 e1 e2 hxs
    exact ⟨⟨a, b, xs⟩, ⟨hb, hpl⟩, pa, pc, rfl, hsl⟩

set_option maxRecDepth 100000 in
theorem open_psteps {H : Type} {enc : TypeId × Value → H} {W : World} {spare : Nat → Bool} {held : Bool} {fuel : Nat} {cs : List Value} {x : DataW H × List MemPlace} (h : DataW.trod enc Tryz.prog W 0 spare held fuel 23 cs = some x) :
    ∃ a len cap, ∃ xs : List StepM, cs = [.slice a len cap] ∧ len ≤ maxLen ∧ xs.length = len ∧ Sl pstepS (fun b => b < W.heap.size) W a xs :=
  open_slg (S := pstepS) Tryz.underlying23 pcellsS (by decide) open_pstep h

set_option maxRecDepth 100000 in
theorem open_path {H : Type} {enc : TypeId × Value → H} {W : World} {spare : Nat → Bool} {held : Bool} {fuel : Nat} {cs : List Value} {x : DataW H × List MemPlace} (h : DataW.trod enc Tryz.prog W 0 spare held fuel 25 cs = some x) :
    ∃ a cap, ∃ xs : List StepM, cs = [.slice a xs.length cap] ∧ xs.length ≤ maxLen ∧ Sl pstepS (fun b => b < W.heap.size) W a xs := by
  obtain ⟨y0, n', _, hl, h0⟩ := trod_struct1 Tryz.underlying25 h
  rw [pcellsX] at hl
  obtain ⟨a, len, cap, xs, e0, hm, rfl, hsl⟩ := open_psteps h0
  match cs, hl with
  | [c0], _ =>
    simp [pcellsQ] at e0
    subst e0
    exact ⟨a, cap, xs, rfl, hm, hsl⟩

end Go.Proofs.YtoknglpfchjbjaaGreatDoor

/- What the law's steps read as, and how many they are at most. Conditions: none. -/
namespace Go.Proofs.YtoknglpfchjbjaaGreatDoor
open Go.ChangeShapes Go.WideShapes Go.ChangeAt Go.RowKit Go.Sp Go.Deep

theorem cells3p : Tryz.prog.cellsOf 64 = 3 := by kernel_rfl
instance : Inhabited Stp := ⟨⟨0, ByteArray.empty, ByteArray.empty⟩⟩

set_option maxRecDepth 100000 in
theorem open_stp {H : Type} {enc : TypeId × Value → H} {W : World} {spare : Nat → Bool} {held : Bool} (n : Nat) (cs : List Value) (y : DataW H × List MemPlace) (h : DataW.trod enc Tryz.prog W 0 spare held n 64 cs = some y) :
    ∃ x, stpS.rep (fun b => b < W.heap.size) W cs x := by
  obtain ⟨y0, y1, y2, n', _, hl, h0, h1, h2⟩ := trod_struct3 Tryz.underlying64 h
  rw [cells3p] at hl
  obtain ⟨a, e0, _, _⟩ := DataW.trod_int Tryz.underlying3 h0
  obtain ⟨b, e1, _, hb⟩ := DataW.trod_string Tryz.underlying9 h1
  obtain ⟨s, e2, _, hs⟩ := DataW.trod_string Tryz.underlying9 h2
  match cs, hl with
  | [c0, c1, c2], _ =>
    simp [pcellsI, pcellsT] at e0 e1 e2
    subst e0 e1 e2
    exact ⟨⟨a, b, s⟩, rfl, hb, hs⟩

set_option maxRecDepth 100000 in
theorem open_stps {H : Type} {enc : TypeId × Value → H} {W : World} {spare : Nat → Bool} {held : Bool} {fuel : Nat} {cs : List Value} {x : DataW H × List MemPlace} (h : DataW.trod enc Tryz.prog W 0 spare held fuel 22 cs = some x) :
    ∃ a len cap, ∃ xs : List Stp, cs = [.slice a len cap] ∧ len ≤ maxLen ∧ xs.length = len ∧ Sl stpS (fun b => b < W.heap.size) W a xs :=
  open_slg (S := stpS) Tryz.underlying22 cells3p (by decide) open_stp h

theorem bulk_one {H : Type} (d : DataW H) : 1 ≤ Rows.uptoBulk d := by
  cases d with
  | lit l => cases l <;> simp [Rows.uptoBulk]
  | nil => simp [Rows.uptoBulk]
  | ptr d => simp [Rows.uptoBulk]
  | slice elems spare => simp [Rows.uptoBulk]
  | agg parts => simp [Rows.uptoBulk]
  | iface t d => simp [Rows.uptoBulk]
  | map entries => simp [Rows.uptoBulk]
  | held h => simp [Rows.uptoBulk]
theorem bulk_len {H : Type} (l : List (DataW H)) : l.length ≤ Rows.uptoBulkAll l := by
  induction l with
  | nil => simp [Rows.uptoBulkAll]
  | cons x r ih => have := bulk_one x; simp only [Rows.uptoBulkAll, List.length_cons]; omega
theorem bulk_mem {H : Type} {d : DataW H} {l : List (DataW H)} (h : d ∈ l) : Rows.uptoBulk d ≤ Rows.uptoBulkAll l := by
  induction l with
  | nil => cases h
  | cons x r ih =>
    simp only [Rows.uptoBulkAll]
    cases List.mem_cons.1 h with
    | inl e => subst e; omega
    | inr e => have := ih e; omega
theorem bulk_bound {H : Type} {l : List (DataW H)} (hk : Rows.uptoSmall H l = true) : Rows.uptoBulkAll l ≤ 1048576 := of_decide_eq_true hk
/-- A slice's reading counts its elements. -/
theorem bulk_slice {H : Type} {enc : TypeId × Value → H} {P : Program} {W : World} {spare : Nat → Bool} {held : Bool} {t e : TypeId} {fuel : Nat} {x : DataW H × List MemPlace} {a : Option Addr} {len cap : Nat} (ht : P.underlying t = some (.slice e))
    (h : DataW.trod enc P W 0 spare held fuel t [.slice a len cap] = some x) : len ≤ Rows.uptoBulk x.1 := by
  rcases open_slice ht h with ⟨e1, _⟩ | ⟨a', len', cap', m, n, D, Pl, e1, _, _, _, _, e2, _⟩
  · simp at e1
    omega
  · simp at e1
    obtain ⟨_, rfl, rfl⟩ := e1
    rw [e2]
    have := bulk_len ((List.range len).map D)
    simp only [Rows.uptoBulk, List.length_map, List.length_range] at this ⊢
    omega

end Go.Proofs.YtoknglpfchjbjaaGreatDoor
