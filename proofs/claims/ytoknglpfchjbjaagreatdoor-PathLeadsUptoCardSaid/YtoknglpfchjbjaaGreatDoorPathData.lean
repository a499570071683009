/- Paths: as data, in memory, and what may be wrong with one. Conditions: none. -/
import Derived.Test.YtoknglpfchjbjaaGreatDoorStr
import Derived.Test.YtoknglpfchjbjaaGreatDoorFaults
namespace Go.Proofs.YtoknglpfchjbjaaGreatDoor
open Go.RowKit Go.Sp

/-- A predicate: an attribute, its value, a place. -/
structure PredM where
  attr : ByteArray
  value : ByteArray
  place : Int
/-- A step: to an attribute?, a name, predicates. -/
structure StepM where
  isAttr : Bool
  name : ByteArray
  preds : List PredM

def predS : Shape PredM where
  sz := 3
  rep _ _ vs x := vs = [.string x.attr, .string x.value, .int .i64 x.place] ∧ x.attr.size ≤ maxLen ∧ x.value.size ≤ maxLen ∧ (-9223372036854775808 ≤ x.place ∧ x.place ≤ 9223372036854775807)
  len := by rintro _ _ _ _ ⟨rfl, _⟩; rfl
  frame := by intro _ _ _ _ _ h _; exact h
  mono := by intro _ _ _ _ _ h _; exact h
def pstepS : Shape StepM where
  sz := 3
  rep F w vs x := (x.name.size ≤ maxLen ∧ x.preds.length ≤ maxLen) ∧ ∃ a c, vs = [.bool x.isAttr, .string x.name, .slice a x.preds.length c] ∧ Sl predS F w a x.preds
  len := by rintro _ _ _ _ ⟨_, _, _, rfl, _⟩; rfl
  frame := by rintro F w w' vs x ⟨h1, a, c, rfl, h3⟩ hw; exact ⟨h1, a, c, rfl, h3.frame hw⟩
  mono := by rintro F G w vs x ⟨h1, a, c, rfl, h3⟩ hF; exact ⟨h1, a, c, rfl, h3.mono hF⟩

theorem pred_cells {F : Nat → Prop} {w : World} {a : Option Addr} {xs : List PredM} (h : Sl predS F w a xs) (i : Nat) (hi : i < xs.length) :
    ∃ b o, a = some ⟨b, o, none⟩ ∧ F b ∧ (xs[i].attr.size ≤ maxLen ∧ xs[i].value.size ≤ maxLen ∧ (-9223372036854775808 ≤ xs[i].place ∧ xs[i].place ≤ 9223372036854775807)) ∧
      w.cell? ⟨b, o + i * 3, none⟩ = some (.string xs[i].attr) ∧ w.cell? ⟨b, o + i * 3 + 1, none⟩ = some (.string xs[i].value) ∧ w.cell? ⟨b, o + i * 3 + 2, none⟩ = some (.int .i64 xs[i].place) := by
  obtain ⟨b, o, vs, h1, h2, ⟨rfl, h3⟩, h5⟩ := h i hi
  exact ⟨b, o, h1, h2, h3, h5 0 (by simp), h5 1 (by simp), h5 2 (by simp)⟩
theorem pstep_cells {F : Nat → Prop} {w : World} {a : Option Addr} {xs : List StepM} (h : Sl pstepS F w a xs) (i : Nat) (hi : i < xs.length) :
    ∃ b o pa pc, a = some ⟨b, o, none⟩ ∧ F b ∧ (xs[i].name.size ≤ maxLen ∧ xs[i].preds.length ≤ maxLen) ∧ Sl predS F w pa xs[i].preds ∧
      w.cell? ⟨b, o + i * 3, none⟩ = some (.bool xs[i].isAttr) ∧ w.cell? ⟨b, o + i * 3 + 1, none⟩ = some (.string xs[i].name) ∧ w.cell? ⟨b, o + i * 3 + 2, none⟩ = some (.slice pa xs[i].preds.length pc) := by
  obtain ⟨b, o, vs, h1, h2, ⟨h3, pa, pc, rfl, h4⟩, h5⟩ := h i hi
  exact ⟨b, o, pa, pc, h1, h2, h3, h4, h5 0 (by simp), h5 1 (by simp), h5 2 (by simp)⟩

def formedP (q : PredM) : Bool := if q.attr.toList.isEmpty then q.value.toList.isEmpty && decide (1 ≤ q.place) && decide (q.place ≤ 4096) else (q.place == 0) && !(hasB q.value 39 && hasB q.value 34)
def okStep (last : Bool) (s : StepM) : Bool := !(s.isAttr && (!last || !s.preds.isEmpty)) && s.preds.all formedP
def formedM (l : List StepM) : Bool := (List.range l.length).all fun k => (l[k]?.map (okStep (k + 1 == l.length))).getD true
def namedS (s : StepM) : Bool := (s.preds.all fun q => q.attr.toList.isEmpty || isName q.attr) && (s.name.toList == [42] || isName s.name)
noncomputable def writtenS (s : StepM) : Bool := s.preds.all fun q => textB q.value
def manyP (s : StepM) : Bool := decide (8 < s.preds.length)
/-- What is wrong with a path. -/
noncomputable def pcheckM (l : List StepM) : Int :=
  if (decide (32 < l.length) || l.any manyP) = true then 17 else if formedM l = false then 12 else if (l.any fun s => !namedS s) = true then 11 else if (l.any fun s => !writtenS s) = true then 10 else 0

set_option maxRecDepth 100000 in
theorem predFormed_any (q : PredM) (w : World) (hp : -9223372036854775808 ≤ q.place ∧ q.place ≤ 9223372036854775807) :
    Calls Tryz.prog 72 #[.agg #[.string q.attr, .string q.value, .int .i64 q.place]] w fun e w' => e = .returned (.bool (formedP q)) ∧ Below w.heap.size w w' := by
  obtain ⟨v, hv⟩ : ∃ v, v = formedP q := ⟨_, rfl⟩
  rw [← hv]
  unfold formedP at hv
  obtain ⟨qa, qv, qp⟩ := q
  dsimp only at hv hp ⊢
  have hb0 : Below w.heap.size w (w.alloc (.cells #[.string qa, .string qv, .int .i64 qp] 70)) := (Below.refl _ _).alloc (Nat.le_refl _) _
  have HB0 := Sp.hid hb0
  clear hb0
  cases ha : qa.toList.isEmpty
  · rw [ha] at hv
    simp only [Bool.false_eq_true, if_false] at hv
    cases h0 : (qp == 0)
    · rw [h0, Bool.false_and] at hv
      subst hv
      go_enter Tryz.func72, Tryz.ntmps72
      go_wp2_with (go_at_call 80; refine (contains_any _ _ _).mono ?_; rintro e w' ⟨rfl, rfl⟩)
      go_ret
      exact ⟨rfl, HB0.out⟩
    · rw [h0, Bool.true_and] at hv
      cases h1 : hasB qv 39
      · rw [h1, Bool.false_and] at hv
        subst hv
        have HC := Sp.hid (fun W => contains_any qv 39 W)
        rw [h1] at HC
        go_enter Tryz.func72, Tryz.ntmps72
        go_wp2_with fail
        refine (HC.out _).mono ?_
        rintro e w' ⟨rfl, rfl⟩
        go_wp2
        go_ret
        exact ⟨rfl, HB0.out⟩
      · rw [h1, Bool.true_and] at hv
        have HC := Sp.hid (fun W => contains_any qv 39 W)
        rw [h1] at HC
        have HC2 := Sp.hid (fun W => contains_any qv 34 W)
        obtain ⟨q2, hq2⟩ : ∃ q2, q2 = hasB qv 34 := ⟨_, rfl⟩
        rw [← hq2] at hv HC2
        clear hq2
        subst hv
        go_enter Tryz.func72, Tryz.ntmps72
        go_wp2_with fail
        refine (HC.out _).mono ?_
        rintro e w' ⟨rfl, rfl⟩
        go_wp2_with fail
        refine (HC2.out _).mono ?_
        rintro e w' ⟨rfl, rfl⟩
        go_wp2
        go_ret
        exact ⟨rfl, HB0.out⟩
  · rw [ha] at hv
    simp only [if_true] at hv
    cases h1 : qv.toList.isEmpty
    · rw [h1, Bool.false_and, Bool.false_and] at hv
      subst hv
      go_enter Tryz.func72, Tryz.ntmps72
      go_wp2
      go_ret
      exact ⟨rfl, HB0.out⟩
    · rw [h1, Bool.true_and] at hv
      by_cases h2 : 1 ≤ qp
      · rw [decide_eq_true h2, Bool.true_and] at hv
        by_cases h3 : qp ≤ 4096
        · rw [decide_eq_true h3] at hv
          subst hv
          go_enter Tryz.func72, Tryz.ntmps72
          go_wp2
          go_ret
          exact ⟨rfl, HB0.out⟩
        · rw [decide_eq_false h3] at hv
          subst hv
          go_enter Tryz.func72, Tryz.ntmps72
          go_wp2
          go_ret
          exact ⟨rfl, HB0.out⟩
      · rw [decide_eq_false h2, Bool.false_and] at hv
        subst hv
        go_enter Tryz.func72, Tryz.ntmps72
        go_wp2
        go_ret
        exact ⟨rfl, HB0.out⟩

end Go.Proofs.YtoknglpfchjbjaaGreatDoor
