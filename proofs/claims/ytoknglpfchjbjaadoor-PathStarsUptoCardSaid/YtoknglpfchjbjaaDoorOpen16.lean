/- What the law's steps read as, and how many they are at most. Conditions: none. -/
import Derived.Test.YtoknglpfchjbjaaDoorKeysOpen
import Derived.Test.YtoknglpfchjbjaaDoorUtfDoor
import Derived.Test.YtoknglpfchjbjaaDoorStp
namespace Go.Proofs.YtoknglpfchjbjaaDoor
open Go.ChangeShapes Go.WideShapes Go.ChangeAt Go.RowKit Go.Sp Go.Deep

theorem cells3p : Tryd.prog.cellsOf 64 = 3 := by kernel_rfl
instance : Inhabited Stp := ⟨⟨0, ByteArray.empty, ByteArray.empty⟩⟩

set_option maxRecDepth 100000 in
theorem open_stp {H : Type} {enc : TypeId × Value → H} {W : World} {spare : Nat → Bool} {held : Bool} (n : Nat) (cs : List Value) (y : DataW H × List MemPlace) (h : DataW.trod enc Tryd.prog W 0 spare held n 64 cs = some y) :
    ∃ x, stpS.rep (fun b => b < W.heap.size) W cs x := by
  obtain ⟨y0, y1, y2, n', _, hl, h0, h1, h2⟩ := trod_struct3 Tryd.underlying64 h
  rw [cells3p] at hl
  obtain ⟨a, e0, _, _⟩ := DataW.trod_int Tryd.underlying3 h0
  obtain ⟨b, e1, _, hb⟩ := DataW.trod_string Tryd.underlying9 h1
  obtain ⟨s, e2, _, hs⟩ := DataW.trod_string Tryd.underlying9 h2
  match cs, hl with
  | [c0, c1, c2], _ =>
    simp [cellsI, cellsS] at e0 e1 e2
    subst e0 e1 e2
    exact ⟨⟨a, b, s⟩, rfl, hb, hs⟩

set_option maxRecDepth 100000 in
theorem open_stps {H : Type} {enc : TypeId × Value → H} {W : World} {spare : Nat → Bool} {held : Bool} {fuel : Nat} {cs : List Value} {x : DataW H × List MemPlace} (h : DataW.trod enc Tryd.prog W 0 spare held fuel 22 cs = some x) :
    ∃ a len cap, ∃ xs : List Stp, cs = [.slice a len cap] ∧ len ≤ maxLen ∧ xs.length = len ∧ Sl stpS (fun b => b < W.heap.size) W a xs :=
  open_sl (S := stpS) Tryd.underlying22 cells3p (by decide) open_stp h

theorem bulk_one {H : Type} (d : DataW H) : 1 ≤ Rows.uptoBulk d := by
  cases d with
  | lit l => cases l <;> simp [Rows.uptoBulk]
  | nil => simp [Rows.uptoBulk]
  | ptr d => simp [Rows.uptoBulk]
  | slice elems spare => simp [Rows.uptoBulk]
  | agg parts => simp [Rows.uptoBulk]
  | iface t d => simp [Rows.uptoBulk]
  | map entries => simp [Rows.uptoBulk]
  | held h => simp [Rows.uptoBulk]
theorem bulk_len {H : Type} (l : List (DataW H)) : l.length ≤ Rows.uptoBulkAll l := by
  induction l with
  | nil => simp [Rows.uptoBulkAll]
  | cons x r ih => have := bulk_one x; simp only [Rows.uptoBulkAll, List.length_cons]; omega
theorem bulk_mem {H : Type} {d : DataW H} {l : List (DataW H)} (h : d ∈ l) : Rows.uptoBulk d ≤ Rows.uptoBulkAll l := by
  induction l with
  | nil => cases h
  | cons x r ih =>
    simp only [Rows.uptoBulkAll]
    cases List.mem_cons.1 h with
    | inl e => subst e; omega
    | inr e => have := ih e; omega
theorem bulk_bound {H : Type} {l : List (DataW H)} (hk : Rows.uptoSmall H l = true) : Rows.uptoBulkAll l ≤ 1048576 := of_decide_eq_true hk
/-- A slice's reading counts its elements. -/
theorem bulk_slice {H : Type} {enc : TypeId × Value → H} {P : Program} {W : World} {spare : Nat → Bool} {held : Bool} {t e : TypeId} {fuel : Nat} {x : DataW H × List MemPlace} {a : Option Addr} {len cap : Nat} (ht : P.underlying t = some (.slice e))
    (h : DataW.trod enc P W 0 spare held fuel t [.slice a len cap] = some x) : len ≤ Rows.uptoBulk x.1 := by
  rcases open_slice ht h with ⟨e1, _⟩ | ⟨a', len', cap', m, n, D, Pl, e1, _, _, _, _, e2, _⟩
  · simp at e1
    omega
  · simp at e1
    obtain ⟨_, rfl, rfl⟩ := e1
    rw [e2]
    have := bulk_len ((List.range len).map D)
    simp only [Rows.uptoBulk, List.length_map, List.length_range] at this ⊢
    omega

end Go.Proofs.YtoknglpfchjbjaaDoor
