/- names: its small functions, and Is: what each call returns. Conditions: none. -/
import Derived.Test.YtoknglpfchjbjaaGreatDoorBase
import Derived.WalkKit
import Derived.Test.YtoknglpfchjbjaaGreatDoorUtf
import Derived.Test.YtoknglpfchjbjaaGreatDoorRows
import Derived.Laws.RangeAny
import Derived.Laws.RangeString
import Derived.LoopTactic
namespace Go.Proofs.YtoknglpfchjbjaaGreatDoor
open Go.RowKit Go.Sp


def isLetter (c : Int) : Bool := (decide (97 ≤ c) && decide (c ≤ 122)) || (decide (65 ≤ c) && decide (c ≤ 90)) || decide (c = 95)
def isDigit (c : Int) : Bool := decide (48 ≤ c) && decide (c ≤ 57)
def isPart (c : Int) : Bool := isLetter c || isDigit c || decide (c = 45) || decide (c = 46)

theorem letter_any (c : Int) (w : World) : Calls Tryz.prog 85 #[.int .u8 c] w fun e w' => e = .returned (.bool (isLetter c)) ∧ w = w' := by
  have ht : ((97 ≤ c ∧ c ≤ 122) ∨ (65 ≤ c ∧ c ≤ 90) ∨ c = 95) → isLetter c = true := fun h => by unfold isLetter; simp only [Bool.or_eq_true, Bool.and_eq_true, decide_eq_true_eq]; omega
  have hf : ¬ ((97 ≤ c ∧ c ≤ 122) ∨ (65 ≤ c ∧ c ≤ 90) ∨ c = 95) → isLetter c = false := fun h => by rw [← Bool.not_eq_true]; unfold isLetter; simp only [Bool.or_eq_true, Bool.and_eq_true, decide_eq_true_eq]; omega
  obtain ⟨b, hb⟩ : ∃ b, b = isLetter c := ⟨_, rfl⟩
  rw [← hb] at ht hf ⊢
  have HT := Sp.hid ht
  have HF := Sp.hid hf
  clear hb ht hf
  by_cases a1 : 97 ≤ c
  · by_cases a2 : c ≤ 122
    · skip
      have h := HT.out (by omega)
      subst h
      go_enter Tryz.func85, Tryz.ntmps85
      go_wp2
      go_ret
      exact ⟨rfl, rfl⟩
    · have a3 : ¬ c ≤ 90 := by omega
      have a5 : 65 ≤ c := by omega
      have a4 : (c == 95) = false := by simp; omega
      have h := HF.out (by omega)
      subst h
      go_enter Tryz.func85, Tryz.ntmps85
      go_wp2
      go_ret
      exact ⟨rfl, rfl⟩
  · by_cases a2 : 65 ≤ c
    · by_cases a3 : c ≤ 90
      · skip
        have h := HT.out (by omega)
        subst h
        go_enter Tryz.func85, Tryz.ntmps85
        go_wp2
        go_ret
        exact ⟨rfl, rfl⟩
      · by_cases a4 : c = 95
        · subst a4
          have h := HT.out (by omega)
          subst h
          go_enter Tryz.func85, Tryz.ntmps85
          go_wp2
          go_ret
          exact ⟨rfl, rfl⟩
        · have a5 : (c == 95) = false := by simpa using a4
          have h := HF.out (by omega)
          clear a4
          subst h
          go_enter Tryz.func85, Tryz.ntmps85
          go_wp2
          go_ret
          exact ⟨rfl, rfl⟩
    · have a4 : (c == 95) = false := by simp; omega
      have h := HF.out (by omega)
      subst h
      go_enter Tryz.func85, Tryz.ntmps85
      go_wp2
      go_ret
      exact ⟨rfl, rfl⟩

theorem decimal_any (c : Int) (w : World) : Calls Tryz.prog 102 #[.int .u8 c] w fun e w' => e = .returned (.bool (isDigit c)) ∧ w = w' := by
  have ht : (48 ≤ c ∧ c ≤ 57) → isDigit c = true := fun h => by unfold isDigit; simp only [Bool.or_eq_true, Bool.and_eq_true, decide_eq_true_eq]; omega
  have hf : ¬ (48 ≤ c ∧ c ≤ 57) → isDigit c = false := fun h => by rw [← Bool.not_eq_true]; unfold isDigit; simp only [Bool.or_eq_true, Bool.and_eq_true, decide_eq_true_eq]; omega
  obtain ⟨b, hb⟩ : ∃ b, b = isDigit c := ⟨_, rfl⟩
  rw [← hb] at ht hf ⊢
  have HT := Sp.hid ht
  have HF := Sp.hid hf
  clear hb ht hf
  by_cases a1 : 48 ≤ c
  · by_cases a2 : c ≤ 57
    · skip
      have h := HT.out (by omega)
      subst h
      go_enter Tryz.func102, Tryz.ntmps102
      go_wp2
      go_ret
      exact ⟨rfl, rfl⟩
    · skip
      have h := HF.out (by omega)
      subst h
      go_enter Tryz.func102, Tryz.ntmps102
      go_wp2
      go_ret
      exact ⟨rfl, rfl⟩
  · skip
    have h := HF.out (by omega)
    subst h
    go_enter Tryz.func102, Tryz.ntmps102
    go_wp2
    go_ret
    exact ⟨rfl, rfl⟩

theorem part_any (c : Int) (w : World) : Calls Tryz.prog 87 #[.int .u8 c] w fun e w' => e = .returned (.bool (isPart c)) ∧ w = w' := by
  have HL := Sp.hid (letter_any c w)
  have HD := Sp.hid (decimal_any c w)
  have hp : isPart c = (isLetter c || isDigit c || decide (c = 45) || decide (c = 46)) := rfl
  obtain ⟨b, hb⟩ : ∃ b, b = isPart c := ⟨_, rfl⟩
  rw [← hb] at hp ⊢
  obtain ⟨l, hl⟩ : ∃ l, l = isLetter c := ⟨_, rfl⟩
  obtain ⟨d, hd⟩ : ∃ d, d = isDigit c := ⟨_, rfl⟩
  rw [← hl] at HL hp
  rw [← hd] at HD hp
  clear hl hd hb
  cases l
  · cases d
    · by_cases a1 : c = 45
      · subst a1
        simp at hp
        subst hp
        go_enter Tryz.func87, Tryz.ntmps87
        go_wp2_with fail
        refine HL.out.mono ?_
        rintro e w1 ⟨rfl, rfl⟩
        go_wp2_with fail
        refine HD.out.mono ?_
        rintro e w2 ⟨rfl, rfl⟩
        go_wp2
        go_ret
        exact ⟨rfl, rfl⟩
      · by_cases a2 : c = 46
        · subst a2
          simp at hp
          subst hp
          go_enter Tryz.func87, Tryz.ntmps87
          go_wp2_with fail
          refine HL.out.mono ?_
          rintro e w1 ⟨rfl, rfl⟩
          go_wp2_with fail
          refine HD.out.mono ?_
          rintro e w2 ⟨rfl, rfl⟩
          go_wp2
          go_ret
          exact ⟨rfl, rfl⟩
        · have e1 : (c == 45) = false := by simpa using a1
          have e2 : (c == 46) = false := by simpa using a2
          simp [a1, a2] at hp
          subst hp
          clear a1 a2
          go_enter Tryz.func87, Tryz.ntmps87
          go_wp2_with fail
          refine HL.out.mono ?_
          rintro e w1 ⟨rfl, rfl⟩
          go_wp2_with fail
          refine HD.out.mono ?_
          rintro e w2 ⟨rfl, rfl⟩
          go_wp2
          go_ret
          exact ⟨rfl, rfl⟩
    · simp at hp
      subst hp
      go_enter Tryz.func87, Tryz.ntmps87
      go_wp2_with fail
      refine HL.out.mono ?_
      rintro e w1 ⟨rfl, rfl⟩
      go_wp2_with fail
      refine HD.out.mono ?_
      rintro e w2 ⟨rfl, rfl⟩
      go_wp2
      go_ret
      exact ⟨rfl, rfl⟩
  · simp at hp
    subst hp
    go_enter Tryz.func87, Tryz.ntmps87
    go_wp2_with fail
    refine HL.out.mono ?_
    rintro e w1 ⟨rfl, rfl⟩
    go_wp2
    go_ret
    exact ⟨rfl, rfl⟩

/-- Are all bytes of a text of a name's kind? -/
def allPart (s : ByteArray) : Bool := s.data.toList.all fun b => isPart (b.toNat : Nat)

theorem part_small {c : Nat} (h : isPart (c : Nat) = true) : c < 128 := by
  unfold isPart isLetter isDigit at h
  simp only [Bool.or_eq_true, Bool.and_eq_true, decide_eq_true_eq] at h
  omega
theorem allPart_iff (s : ByteArray) : allPart s = true ↔ ∀ i (hi : i < s.size), isPart ((s[i]'hi).toNat : Nat) = true := by
  unfold allPart
  rw [List.all_eq_true]
  constructor
  · intro h i hi
    exact h (s[i]'hi) (by show s.data[i]'hi ∈ s.data.toList; simp)
  · intro h b hb
    obtain ⟨i, hi, rfl⟩ := List.getElem_of_mem hb
    have h2 : i < s.size := by simpa using hi
    have := h i h2
    rw [Array.getElem_toList]
    exact this

theorem below_iter {w w' : World} {n : Nat} {s : ByteArray} (h : Below n w w') (hn : n ≤ w'.heap.size) (p : Nat) : Below n w (w'.iter s p) := h.alloc hn (.stringIter s p)

set_option maxHeartbeats 1000000 in
theorem all_any (s : ByteArray) (w : World) (hs : s.size ≤ maxLen) : Calls Tryz.prog 86 #[.string s, .func (.func 87) #[] #[]] w fun e w' => e = .returned (.bool (allPart s)) ∧ Below w.heap.size w w' := by
  go_enter Tryz.func86, Tryz.ntmps86
  go_wp2
  go_loopw [5] (fun _ wr => ∃ pos : Nat, pos ≤ s.size ∧ wr = w.iter s pos ∧ (∀ i (hi : i < s.size), i < pos → isPart ((s[i]'hi).toNat : Nat) = true)) (fun _ wr => s.size - wr.iterPos w.heap.size)
  case atStart => exact ⟨0, Nat.zero_le _, rfl, fun i _ h => absurd h (Nat.not_lt_zero _)⟩
  case round =>
    obtain ⟨pos, hpos, rfl, hall⟩ := hrel
    have HALL := Sp.hid hall
    clear hall
    by_cases hp : pos < s.size
    · have hnx : ∀ ty, (Instr.next (.pointer (some ⟨w.heap.size, 0, none⟩)) true ty).run Tryz.prog (w.iter s pos) = _ := fun ty => run_next_any w s pos ty hp
      have HP := Sp.hid (fun W => part_any ((s[pos]'hp).toNat : Nat) W)
      go_wp2_with fail
      refine (HP.out _).mono ?_
      rintro e w1 ⟨rfl, rfl⟩
      obtain ⟨b, hb⟩ : ∃ b, b = isPart ((s[pos]'hp).toNat : Nat) := ⟨_, rfl⟩
      rw [← hb]
      have HB := Sp.hid hb
      clear hb
      cases b
      · have hf : allPart s = false := by
          rw [← Bool.not_eq_true, allPart_iff]
          intro h
          have := h pos hp
          rw [← HB.out] at this; cases this
        have HFF := Sp.hid hf
        clear hf
        go_wp2
        go_ret
        exact ⟨by rw [HFF.out]; rfl, below_iter (Below.refl _ _) (Nat.le_refl _) _⟩
      · have hsm := part_small HB.out.symm
        have hdc := decode_ascii s pos hp hsm
        have HDC := Sp.hid hdc
        clear hdc hnx
        go_wp2
        go_roundw
        case rel =>
          refine ⟨pos + 1, by omega, by rw [HDC.out], fun i hi hlt => ?_⟩
          by_cases he : i = pos
          · subst he; exact HB.out.symm
          · exact HALL.out i hi (by omega)
        case measure => rw [HDC.out]; simp; omega
    · have hnx : ∀ ty, (Instr.next (.pointer (some ⟨w.heap.size, 0, none⟩)) true ty).run Tryz.prog (w.iter s pos) = _ := fun ty => run_next_end w s pos ty hp
      have hf : allPart s = true := (allPart_iff s).2 fun i hi => HALL.out i hi (by omega)
      have HFF := Sp.hid hf
      clear hf
      go_wp2
      go_ret
      exact ⟨by rw [HFF.out]; rfl, below_iter (Below.refl _ _) (Nat.le_refl _) _⟩

/-- Is a text a name? -/
def isName (s : ByteArray) : Bool := decide (1 ≤ s.size) && decide (s.size ≤ 64) && isLetter ((s.data.toList.headD 0).toNat : Nat) && allPart s

set_option maxHeartbeats 1000000 in
theorem nameIs_any (s : ByteArray) (w : World) (hs : s.size ≤ maxLen) : Calls Tryz.prog 63 #[.string s] w fun e w' => e = .returned (.bool (isName s)) ∧ Below w.heap.size w w' := by
  by_cases h1 : 1 ≤ s.size
  · by_cases h2 : s.size ≤ 64
    · have hh : s.data.toList.headD 0 = s[0]'h1 := by
        have hl : 0 < s.data.toList.length := by rw [Array.length_toList]; exact h1
        cases he : s.data.toList with
        | nil => rw [he] at hl; cases hl
        | cons b l =>
          have : s.data.toList[0]'hl = b := by simp [he]
          rw [List.headD_cons, ← this, Array.getElem_toList]; rfl
      have hn : isName s = (isLetter ((s[0]'h1).toNat : Nat) && allPart s) := by unfold isName; rw [hh, decide_eq_true h1, decide_eq_true h2]; rfl
      rw [hn]
      have HL := Sp.hid (fun W => letter_any ((s[0]'h1).toNat : Nat) W)
      have HA := Sp.hid (all_any s w hs)
      obtain ⟨l, hl⟩ : ∃ l, l = isLetter ((s[0]'h1).toNat : Nat) := ⟨_, rfl⟩
      obtain ⟨a, ha⟩ : ∃ a, a = allPart s := ⟨_, rfl⟩
      rw [← hl] at HL ⊢
      rw [← ha] at HA ⊢
      clear hl ha hn hh
      cases l
      · go_enter Tryz.func63, Tryz.ntmps63
        go_wp2_with fail
        refine (HL.out _).mono ?_
        rintro e w1 ⟨rfl, rfl⟩
        go_wp2
        go_ret
        exact ⟨rfl, Below.refl _ _⟩
      · go_enter Tryz.func63, Tryz.ntmps63
        go_wp2_with fail
        refine (HL.out _).mono ?_
        rintro e w1 ⟨rfl, rfl⟩
        go_wp2_with fail
        refine HA.out.mono ?_
        rintro e w2 ⟨rfl, hb⟩
        have HB := Sp.hid hb
        clear hb
        go_wp2
        go_ret
        exact ⟨by simp, HB.out⟩
    · have hn : isName s = false := by unfold isName; rw [decide_eq_false h2]; simp
      rw [hn]
      clear hn
      go_enter Tryz.func63, Tryz.ntmps63
      go_wp2
      go_ret
      exact ⟨rfl, Below.refl _ _⟩
  · have hn : isName s = false := by unfold isName; rw [decide_eq_false h1]; simp
    rw [hn]
    clear hn
    go_enter Tryz.func63, Tryz.ntmps63
    go_wp2
    go_ret
    exact ⟨rfl, Below.refl _ _⟩

end Go.Proofs.YtoknglpfchjbjaaGreatDoor
