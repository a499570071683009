/- What spyglassref04.node makes of steps, on lists. Plain: no program in sight. Conditions: none. -/
import Derived.Test.YtoknglpfchjbjaaDoorStp
namespace Go.Proofs.YtoknglpfchjbjaaDoor
open Go.RowKit Go.Sp

def plainB (s : Stp) : Bool := if s.kind = 1 then s.text.toList.isEmpty else if s.kind = 3 then s.name.toList.isEmpty else (s.kind == 2) || ((s.kind == 4) && s.name.toList.isEmpty && s.text.toList.isEmpty)
def isAt (s : Stp) : Bool := s.kind == 2
def attrsOf (l : List Stp) : List (ByteArray × ByteArray) := (l.takeWhile isAt).map fun s => (s.name, s.text)
/-- none: a node; some: what follows a node's attributes and the children that have been. -/
def parL : Nat → Option (ByteArray × List (ByteArray × ByteArray) × List TT) → List Stp → Option (TT × List Stp)
  | 0, _, _ => none
  | _ + 1, _, [] => none
  | f + 1, none, s :: r => if plainB s = false ∨ (s.kind ≠ 1 ∧ s.kind ≠ 3) then none else if s.kind = 3 then some (.mk ⟨#[]⟩ s.text [] [], r) else parL f (some (s.name, attrsOf r, [])) (r.dropWhile isAt)
  | f + 1, some (lab, al, ks), s :: r => if s.kind = 4 then (if plainB s then some (.mk lab ⟨#[]⟩ al ks, r) else none) else
      match parL f none (s :: r) with
      | none => none
      | some (k, r') => parL f (some (lab, al, ks ++ [k])) r'

theorem parL_end {f : Nat} {m : Option (ByteArray × List (ByteArray × ByteArray) × List TT)} : parL f m [] = none := by cases f <;> rfl
theorem parL_bad {f : Nat} {s : Stp} {r : List Stp} (h : plainB s = false ∨ (s.kind ≠ 1 ∧ s.kind ≠ 3)) : parL (f + 1) none (s :: r) = none := by unfold parL; rw [if_pos h]
theorem parL_text {f : Nat} {s : Stp} {r : List Stp} (h : plainB s = true) (h3 : s.kind = 3) : parL (f + 1) none (s :: r) = some (.mk ⟨#[]⟩ s.text [] [], r) := by
  unfold parL; rw [if_neg (by rw [h, h3]; simp), if_pos h3]
theorem parL_open {f : Nat} {s : Stp} {r : List Stp} (h : plainB s = true) (h1 : s.kind = 1) : parL (f + 1) none (s :: r) = parL f (some (s.name, attrsOf r, [])) (r.dropWhile isAt) := by
  conv => lhs; unfold parL
  rw [if_neg (by rw [h, h1]; simp), if_neg (by rw [h1]; decide)]
theorem parL_close {f : Nat} {lab : ByteArray} {al : List (ByteArray × ByteArray)} {ks : List TT} {s : Stp} {r : List Stp} (h4 : s.kind = 4) (h : plainB s = true) : parL (f + 1) (some (lab, al, ks)) (s :: r) = some (.mk lab ⟨#[]⟩ al ks, r) := by
  unfold parL; rw [if_pos h4, if_pos h]
theorem parL_close_bad {f : Nat} {lab : ByteArray} {al : List (ByteArray × ByteArray)} {ks : List TT} {s : Stp} {r : List Stp} (h4 : s.kind = 4) (h : plainB s = false) : parL (f + 1) (some (lab, al, ks)) (s :: r) = none := by
  unfold parL; rw [if_pos h4, if_neg (by rw [h]; simp)]
theorem parL_kid {f : Nat} {lab : ByteArray} {al : List (ByteArray × ByteArray)} {ks : List TT} {s : Stp} {r r' : List Stp} {k : TT} (h4 : s.kind ≠ 4) (h : parL f none (s :: r) = some (k, r')) : parL (f + 1) (some (lab, al, ks)) (s :: r) = parL f (some (lab, al, ks ++ [k])) r' := by
  conv => lhs; unfold parL
  rw [if_neg h4, h]
theorem parL_kid_bad {f : Nat} {lab : ByteArray} {al : List (ByteArray × ByteArray)} {ks : List TT} {s : Stp} {r : List Stp} (h4 : s.kind ≠ 4) (h : parL f none (s :: r) = none) : parL (f + 1) (some (lab, al, ks)) (s :: r) = none := by
  unfold parL; rw [if_neg h4, h]

theorem attrs_step {s : Stp} {r : List Stp} (h : isAt s = true) : attrsOf (s :: r) = (s.name, s.text) :: attrsOf r ∧ (s :: r).dropWhile isAt = r.dropWhile isAt := by
  unfold attrsOf
  rw [List.takeWhile_cons_of_pos h, List.dropWhile_cons_of_pos h]
  exact ⟨rfl, rfl⟩
theorem attrs_stop {s : Stp} {r : List Stp} (h : isAt s = false) : attrsOf (s :: r) = [] ∧ (s :: r).dropWhile isAt = s :: r := by
  unfold attrsOf
  rw [List.takeWhile_cons_of_neg (by rw [h]; simp), List.dropWhile_cons_of_neg (by rw [h]; simp)]
  exact ⟨rfl, rfl⟩
theorem drop_at {xs : List Stp} {k : Nat} (h : k < xs.length) : xs.drop k = xs[k] :: xs.drop (k + 1) := List.drop_eq_getElem_cons h

end Go.Proofs.YtoknglpfchjbjaaDoor
