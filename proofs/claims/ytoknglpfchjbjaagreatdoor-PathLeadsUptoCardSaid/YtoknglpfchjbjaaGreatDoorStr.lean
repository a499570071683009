/- The library's IndexByte, Index and Contains at a text of one byte. Conditions: none. -/
import Derived.Test.YtoknglpfchjbjaaGreatDoorRows
import Derived.Test.YtoknglpfchjbjaaGreatDoorBase
import Derived.WalkKit
import Derived.WalkSpells
import Derived.Lib.Walk
import Derived.Lib.Strings
import Derived.Lib.Slices
import Derived.Lib.Bytealg
namespace Go.Proofs.YtoknglpfchjbjaaGreatDoor
open Go.RowKit Go.Sp Go.Lib

/-- Where a byte first stands; -1: nowhere. -/
abbrev idxB (s : ByteArray) (c : UInt8) : Int := Lib.indexByte s.data.toList c

set_option maxRecDepth 100000 in
theorem sliteIndexByte_any (s : ByteArray) (c : Int) (w : World) :
    Calls Tryz.prog 110 #[.string s, .int .u8 c] w fun e w' => e = .returned (.int .i64 (idxB s c.toNat.toUInt8)) ∧ w = w' := by
  go_enter Tryz.func110, Tryz.ntmps110
  go_wp2
  rw [run_callFunc_extern Tryz.func119 (by kernel_rfl) (by kernel_rfl) (by kernel_rfl) (e := Extern.BytealgIndexByte.indexByte) (by kernel_rfl), Lib.run_indexByteString]
  simp only [Result.andThen]
  rw [Oper.upon_value]
  go_wp2
  go_ret
  exact ⟨rfl, rfl⟩

set_option maxRecDepth 100000 in
theorem strIndexByte_any (s : ByteArray) (c : Int) (w : World) :
    Calls Tryz.prog 101 #[.string s, .int .u8 c] w fun e w' => e = .returned (.int .i64 (idxB s c.toNat.toUInt8)) ∧ w = w' := by
  go_enter Tryz.func101, Tryz.ntmps101
  go_wp2_with fail
  refine (sliteIndexByte_any _ _ _).mono ?_
  rintro e w' ⟨rfl, rfl⟩
  go_wp2
  go_ret
  exact ⟨rfl, rfl⟩

set_option maxRecDepth 100000 in
theorem sliteIndex_one (s : ByteArray) (c : UInt8) (w : World) :
    Calls Tryz.prog 109 #[.string s, .string ⟨#[c]⟩] w fun e w' => e = .returned (.int .i64 (idxB s c)) ∧ w = w' := by
  go_enter Tryz.func109, Tryz.ntmps109
  go_wp2_with (go_at_call 110; refine (sliteIndexByte_any _ _ _).mono ?_; rintro e w' ⟨rfl, rfl⟩)
  · have h : ([c] == s.toList) = true := by assumption
    go_ret
    refine ⟨?_, rfl⟩
    have e : s.data.toList = [c] := by rw [← Lib.toList_data]; exact (beq_iff_eq.1 h).symm
    unfold idxB
    rw [e]
    simp [Lib.indexByte]
  · go_ret
    exact ⟨rfl, rfl⟩

set_option maxRecDepth 100000 in
theorem strIndex_one (s : ByteArray) (c : UInt8) (w : World) :
    Calls Tryz.prog 96 #[.string s, .string ⟨#[c]⟩] w fun e w' => e = .returned (.int .i64 (idxB s c)) ∧ w = w' := by
  go_enter Tryz.func96, Tryz.ntmps96
  go_wp2_with (go_at_call 109; refine (sliteIndex_one _ _ _).mono ?_; rintro e w' ⟨rfl, rfl⟩)
  go_ret
  exact ⟨rfl, rfl⟩

/-- Does a byte stand in a text? -/
def hasB (s : ByteArray) (c : UInt8) : Bool := decide (0 ≤ idxB s c)

set_option maxRecDepth 100000 in
theorem contains_any (s : ByteArray) (c : UInt8) (w : World) :
    Calls Tryz.prog 80 #[.string s, .string ⟨#[c]⟩] w fun e w' => e = .returned (.bool (hasB s c)) ∧ w = w' := by
  go_enter Tryz.func80, Tryz.ntmps80
  go_wp2_with (go_at_call 96; refine (strIndex_one _ _ _).mono ?_; rintro e w' ⟨rfl, rfl⟩)
  go_ret
  exact ⟨rfl, rfl⟩

theorem idxB_spec : ∀ (l : List UInt8) (c : UInt8), (Lib.indexByte l c = -1 ∧ c ∉ l) ∨ ∃ (i : Nat) (hi : i < l.length), Lib.indexByte l c = i ∧ l[i] = c ∧ c ∉ l.take i
  | [], c => .inl ⟨rfl, by simp⟩
  | b :: l, c => by
    unfold Lib.indexByte
    by_cases hb : b = c
    · right
      refine ⟨0, by simp, ?_, by simpa using hb, by simp⟩
      rw [if_pos (by simpa using hb)]; rfl
    · rw [if_neg (by simpa using hb)]
      rcases idxB_spec l c with ⟨h1, h2⟩ | ⟨i, hi, h1, h2, h3⟩
      · left
        rw [h1]
        refine ⟨rfl, ?_⟩
        simp only [List.mem_cons, not_or]
        exact ⟨fun e => hb e.symm, h2⟩
      · right
        refine ⟨i + 1, by simpa using hi, ?_, by simpa using h2, ?_⟩
        · rw [h1, if_neg (by rw [beq_iff_eq]; omega)]; rfl
        · simp only [List.take_succ_cons, List.mem_cons, not_or]
          exact ⟨fun e => hb e.symm, h3⟩
theorem hasB_iff (s : ByteArray) (c : UInt8) : hasB s c = true ↔ c ∈ s.data.toList := by
  unfold hasB idxB
  rw [decide_eq_true_iff]
  rcases idxB_spec s.data.toList c with ⟨h1, h2⟩ | ⟨i, hi, h1, h2, _⟩
  · rw [h1]; exact ⟨fun h => by omega, fun h => absurd h h2⟩
  · rw [h1]; exact ⟨fun _ => by rw [← h2]; exact List.getElem_mem hi, fun _ => by omega⟩

end Go.Proofs.YtoknglpfchjbjaaGreatDoor
