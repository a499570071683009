/- Plain laws of characters and bytes: what is encoded is decoded, and what is decoded is an encoding. Conditions: none. -/
import Derived.Test.YtoknglpfchjbjaaDoorUtf
namespace Go.Proofs.YtoknglpfchjbjaaDoor

def isCont (c : Int) : Bool := decide (128 ≤ c) && decide (c ≤ 191)
def foldC (r : Int) (cs : List Int) : Int := cs.foldl (fun r c => r * 64 + (c - 128)) r
/-- The character at the beginning of bytes, and how many it has. -/
def decM : List Int → Option (Int × Nat)
  | [] => none
  | c :: t =>
    if (beginOf c).1 ≠ 0 ∧ (beginOf c).1 ≤ t.length + 1 ∧ (t.take ((beginOf c).1 - 1)).all isCont = true ∧ sizeOf_ (foldC (beginOf c).2 (t.take ((beginOf c).1 - 1))) = (beginOf c).1 ∧ isChar (foldC (beginOf c).2 (t.take ((beginOf c).1 - 1))) = true
    then some (foldC (beginOf c).2 (t.take ((beginOf c).1 - 1)), (beginOf c).1) else none

def encM (r : Int) : List Int :=
  if r < 128 then [r] else if r < 2048 then [192 + r / 64, 128 + r % 64] else if r < 65536 then [224 + r / 4096, 128 + r / 64 % 64, 128 + r % 64]
  else [240 + r / 262144, 128 + r / 4096 % 64, 128 + r / 64 % 64, 128 + r % 64]

theorem encM_length (r : Int) : (encM r).length = sizeOf_ r := by
  unfold encM sizeOf_
  split
  · rfl
  split
  · rfl
  split <;> rfl

theorem isChar_bounds {r : Int} (h : isChar r = true) : 0 ≤ r ∧ r ≤ 1114111 := by
  unfold isChar at h
  simp only [Bool.or_eq_true, Bool.and_eq_true, decide_eq_true_eq] at h
  omega

theorem begin_cases (c : Int) : (c < 128 ∧ beginOf c = (1, c)) ∨ (192 ≤ c ∧ c < 224 ∧ beginOf c = (2, c - 192)) ∨ (224 ≤ c ∧ c < 240 ∧ beginOf c = (3, c - 224)) ∨ (240 ≤ c ∧ c < 248 ∧ beginOf c = (4, c - 240)) ∨ ((beginOf c).1 = 0) := by
  unfold beginOf
  by_cases h1 : c < 128
  · left; exact ⟨h1, by rw [if_pos h1]⟩
  rw [if_neg h1]
  by_cases h2 : c < 192
  · rw [if_pos h2]; simp
  rw [if_neg h2]
  by_cases h3 : c < 224
  · right; left; exact ⟨by omega, h3, by rw [if_pos h3]⟩
  rw [if_neg h3]
  by_cases h4 : c < 240
  · right; right; left; exact ⟨by omega, h4, by rw [if_pos h4]⟩
  rw [if_neg h4]
  by_cases h5 : c < 248
  · right; right; right; left; exact ⟨by omega, h5, by rw [if_pos h5]⟩
  rw [if_neg h5]; simp

/-- What is encoded is decoded. -/
theorem dec_enc (r : Int) (t : List Int) (h : isChar r = true) : decM (encM r ++ t) = some (r, sizeOf_ r) := by
  obtain ⟨h0, h1⟩ := isChar_bounds h
  unfold encM
  by_cases c1 : r < 128
  · rw [if_pos c1]
    have hb : beginOf r = (1, r) := by rcases begin_cases r with h | h | h | h | h <;> first | exact h.2 | omega | (unfold beginOf at h; rw [if_pos c1] at h; simp at h)
    have hs : sizeOf_ r = 1 := by unfold sizeOf_; rw [if_pos c1]
    simp [decM, hb, foldC, hs, h]
  rw [if_neg c1]
  by_cases c2 : r < 2048
  · rw [if_pos c2]
    have hb : beginOf (192 + r / 64) = (2, r / 64) := by
      unfold beginOf
      rw [if_neg (by omega), if_neg (by omega), if_pos (by omega)]
      congr 1; omega
    have hs : sizeOf_ r = 2 := by unfold sizeOf_; rw [if_neg c1, if_pos c2]
    have hf : r / 64 * 64 + (128 + r % 64 - 128) = r := by omega
    have hc : isCont (128 + r % 64) = true := by unfold isCont; simp only [Bool.and_eq_true, decide_eq_true_eq]; omega
    simp [decM, hb, foldC, hf, hs, h, hc]
  rw [if_neg c2]
  by_cases c3 : r < 65536
  · rw [if_pos c3]
    have hb : beginOf (224 + r / 4096) = (3, r / 4096) := by
      unfold beginOf
      rw [if_neg (by omega), if_neg (by omega), if_neg (by omega), if_pos (by omega)]
      congr 1; omega
    have hs : sizeOf_ r = 3 := by unfold sizeOf_; rw [if_neg c1, if_neg c2, if_pos c3]
    have hf : (r / 4096 * 64 + (128 + r / 64 % 64 - 128)) * 64 + (128 + r % 64 - 128) = r := by omega
    have hc : isCont (128 + r % 64) = true := by unfold isCont; simp only [Bool.and_eq_true, decide_eq_true_eq]; omega
    have hc2 : isCont (128 + r / 64 % 64) = true := by unfold isCont; simp only [Bool.and_eq_true, decide_eq_true_eq]; omega
    simp [decM, hb, foldC, hf, hs, h, hc, hc2]
  · rw [if_neg c3]
    have hb : beginOf (240 + r / 262144) = (4, r / 262144) := by
      unfold beginOf
      rw [if_neg (by omega), if_neg (by omega), if_neg (by omega), if_neg (by omega), if_pos (by omega)]
      congr 1; omega
    have hs : sizeOf_ r = 4 := by unfold sizeOf_; rw [if_neg c1, if_neg c2, if_neg c3]
    have hf : ((r / 262144 * 64 + (128 + r / 4096 % 64 - 128)) * 64 + (128 + r / 64 % 64 - 128)) * 64 + (128 + r % 64 - 128) = r := by omega
    have hc : isCont (128 + r % 64) = true := by unfold isCont; simp only [Bool.and_eq_true, decide_eq_true_eq]; omega
    have hc2 : isCont (128 + r / 64 % 64) = true := by unfold isCont; simp only [Bool.and_eq_true, decide_eq_true_eq]; omega
    have hc3 : isCont (128 + r / 4096 % 64) = true := by unfold isCont; simp only [Bool.and_eq_true, decide_eq_true_eq]; omega
    simp [decM, hb, foldC, hf, hs, h, hc, hc2, hc3]

theorem size_one {r : Int} (h : sizeOf_ r = 1) : r < 128 := by unfold sizeOf_ at h; split at h; assumption; split at h; cases h; split at h <;> cases h
theorem size_two {r : Int} (h : sizeOf_ r = 2) : 128 ≤ r ∧ r < 2048 := by unfold sizeOf_ at h; split at h; cases h; split at h; omega; split at h <;> cases h
theorem size_three {r : Int} (h : sizeOf_ r = 3) : 2048 ≤ r ∧ r < 65536 := by unfold sizeOf_ at h; split at h; cases h; split at h; cases h; split at h; omega; cases h
theorem size_four {r : Int} (h : sizeOf_ r = 4) : 65536 ≤ r := by unfold sizeOf_ at h; split at h; cases h; split at h; cases h; split at h; cases h; omega

theorem cont_bounds {c : Int} (h : isCont c = true) : 128 ≤ c ∧ c ≤ 191 := by unfold isCont at h; simpa using h

/-- What is decoded is an encoding. -/
theorem enc_dec {bs : List Int} {r : Int} {n : Nat} (h : decM bs = some (r, n)) : isChar r = true ∧ n = sizeOf_ r ∧ n ≤ bs.length ∧ bs.take n = encM r := by
  cases bs with
  | nil => simp [decM] at h
  | cons c t =>
    rw [decM] at h
    split at h
    · rename_i hc
      obtain ⟨h1, h2, h3, h4, h5⟩ := hc
      simp only [Option.some.injEq, Prod.mk.injEq] at h
      obtain ⟨rfl, rfl⟩ := h
      refine ⟨h5, h4.symm, by simpa using h2, ?_⟩
      obtain ⟨b0, b1⟩ := isChar_bounds h5
      rcases begin_cases c with ⟨k1, hb⟩ | ⟨k1, k2, hb⟩ | ⟨k1, k2, hb⟩ | ⟨k1, k2, hb⟩ | hb
      · rw [hb] at h4 h5 b0 b1 ⊢
        simp [foldC, encM, k1]
      · rw [hb] at h2 h3 h4 h5 b0 b1 ⊢
        match t, h2 with
        | x :: t, _ =>
          simp [foldC] at h3 h4 h5 b0 b1 ⊢
          have := cont_bounds h3
          have hz := size_two h4
          unfold encM; rw [if_neg (by omega), if_pos (by omega)]
          simp only [List.cons.injEq, and_true]
          omega
      · rw [hb] at h2 h3 h4 h5 b0 b1 ⊢
        match t, h2 with
        | x :: y :: t, _ =>
          simp [foldC] at h3 h4 h5 b0 b1 ⊢
          have := cont_bounds h3.1
          have := cont_bounds h3.2
          have hz := size_three h4
          unfold encM; rw [if_neg (by omega), if_neg (by omega), if_pos (by omega)]
          simp only [List.cons.injEq, and_true]
          omega
      · rw [hb] at h2 h3 h4 h5 b0 b1 ⊢
        match t, h2 with
        | x :: y :: z :: t, _ =>
          simp [foldC] at h3 h4 h5 b0 b1 ⊢
          have := cont_bounds h3.1
          have := cont_bounds h3.2.1
          have := cont_bounds h3.2.2
          have hz := size_four h4
          unfold encM; rw [if_neg (by omega), if_neg (by omega), if_neg (by omega)]
          simp only [List.cons.injEq, and_true]
          omega
      · exact absurd hb h1
    · simp at h

end Go.Proofs.YtoknglpfchjbjaaDoor
