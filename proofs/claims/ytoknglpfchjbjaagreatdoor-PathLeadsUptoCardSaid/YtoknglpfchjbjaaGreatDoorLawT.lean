/- spyglasslaw16.Small: all that it tells where it says yes. Conditions: none. -/
import Derived.Test.YtoknglpfchjbjaaGreatDoorPathCheck
import Derived.Test.YtoknglpfchjbjaaGreatDoorLeadX
namespace Go.Proofs.YtoknglpfchjbjaaGreatDoor
open Go.RowKit Go.Sp

/-- What a small path is. -/
def SmallQ (s : StepM) : Prop := s.preds.length ≤ 10 ∧ ∀ q ∈ s.preds, q.value.size ≤ 80
def SmallIs2 (l : List StepM) : Prop := l.length ≤ 40 ∧ ∀ s ∈ l, SmallQ s
def SmallPost2 (l : List StepM) (w : World) (e : Ending) (w' : World) : Prop := ∃ b, e = .returned (.bool b) ∧ (b = true → SmallIs2 l) ∧ Below w.heap.size w w'

theorem forall_take_nextT {α : Type} {p : α → Prop} {l : List α} {k : Nat} (hk : k < l.length) (h : ∀ x ∈ l.take k, p x) (hp : p l[k]) : ∀ x ∈ l.take (k + 1), p x := by
  rw [List.take_succ_eq_append_getElem hk]
  intro x hx
  rcases List.mem_append.1 hx with hx | hx
  · exact h x hx
  · rw [List.mem_singleton.1 hx]; exact hp

set_option maxRecDepth 100000 in
set_option maxHeartbeats 2000000 in
theorem small2_any (F : Nat → Prop) (steps : List StepM) (sa : Option Addr) (sc : Nat) (w : World) (hsl : Sl pstepS F w sa steps) (hF : ∀ k, F k → k < w.heap.size) (hst : steps.length ≤ 9223372036854775807) :
    Calls Tryz.prog 7 #[.agg #[.slice sa steps.length sc]] w (SmallPost2 steps w) := by
  obtain ⟨w1, hw1⟩ : ∃ w1, w1 = w.alloc (.cells #[.slice sa steps.length sc] 25) := ⟨_, rfl⟩
  have hs1 : w.heap.size + 1 ≤ w1.heap.size := by rw [hw1]; simp
  have hb1 : Below w.heap.size w w1 := by rw [hw1]; exact (Below.refl _ _).alloc (Nat.le_refl _) _
  have ht1 : w1.heap[w.heap.size]? = some (.cells #[.slice sa steps.length sc] 25 (0, 0)) := by rw [hw1]; exact World.alloc_heap_new _ _
  have HSL := Sp.hid (hsl.below hF hb1)
  have HF := Sp.hid (fun k hk => Nat.lt_of_lt_of_le (hF k hk) hb1.size : ∀ k, F k → k < w1.heap.size)
  have HW1 := Sp.hid hw1
  have HB1 := Sp.hid hb1
  have t0 : w1.cell? ⟨w.heap.size, 0, none⟩ = some (.slice sa steps.length sc) := cell_at ht1 0
  have hww : w.heap.size < w1.heap.size := by omega
  clear hsl hF hw1 hb1 ht1
  go_enter Tryz.func7, Tryz.ntmps7
  go_wp2
  rw [← HW1.out]
  go_loopw [3] (fun i wr => ∃ k : Nat, k ≤ steps.length ∧ i = .int .i64 k ∧ wr = w1 ∧ (∀ s ∈ steps.take k, SmallQ s)) (fun i _ => steps.length - (intOf i).toNat)
  case atStart => exact ⟨0, Nat.zero_le _, rfl, rfl, by simp⟩
  case round =>
    obtain ⟨k, hk, rfl, rfl, hall⟩ := hrel
    by_cases hlt : k < steps.length
    · obtain ⟨b, o, pa, pc, rfl, fb, ⟨hn, hpl⟩, hpr, e1, e2, e3⟩ := pstep_cells HSL.out k hlt
      have HALL := Sp.hid (fun h => forall_take_nextT (p := SmallQ) hlt hall h)
      obtain ⟨x, hx⟩ : ∃ x, x = steps[k] := ⟨_, rfl⟩
      rw [← hx] at hn hpl hpr e1 e2 e3 HALL
      have HPR := Sp.hid hpr
      clear hx hall hpr fb
      unfold maxLen at hn hpl
      by_cases h80 : 80 < x.name.size
      · have h80' : ((80 : Int) < (x.name.size : Int)) := by omega
        go_wp2
        go_ret
        exact ⟨false, rfl, (fun h => by cases h), HB1.out⟩
      · have h80' : ¬ ((80 : Int) < (x.name.size : Int)) := by omega
        by_cases h10 : 10 < x.preds.length
        · have h10' : ((10 : Int) < (x.preds.length : Int)) := by omega
          go_wp2
          go_ret
          exact ⟨false, rfl, (fun h => by cases h), HB1.out⟩
        · have h10' : ¬ ((10 : Int) < (x.preds.length : Int)) := by omega
          go_wp2
          go_loopw [4] (fun i wr2 => ∃ m : Nat, m ≤ x.preds.length ∧ i = .int .i64 m ∧ wr2 = wr ∧ (∀ q ∈ x.preds.take m, q.value.size ≤ 80)) (fun i _ => x.preds.length - (intOf i).toNat)
          case atStart => exact ⟨0, Nat.zero_le _, rfl, rfl, by simp⟩
          case round =>
            obtain ⟨m, hm, rfl, rfl, hin⟩ := hrel
            by_cases hmt : m < x.preds.length
            · obtain ⟨b2, o2, rfl, fb2, ⟨z1, z2, z3⟩, d1, d2, d3⟩ := pred_cells HPR.out m hmt
              have HIN := Sp.hid (fun h => forall_take_nextT (p := fun q : PredM => q.value.size ≤ 80) hmt hin h)
              obtain ⟨q, hq⟩ : ∃ q, q = x.preds[m] := ⟨_, rfl⟩
              rw [← hq] at z1 z2 d1 d2 HIN
              clear hq hin fb2 z3 d3
              unfold maxLen at z1 z2
              by_cases ha : 80 < q.attr.size
              · have ha' : ((80 : Int) < (q.attr.size : Int)) := by omega
                go_wp2
                go_ret
                exact ⟨false, rfl, (fun h => by cases h), HB1.out⟩
              · have ha' : ¬ ((80 : Int) < (q.attr.size : Int)) := by omega
                by_cases hv : 80 < q.value.size
                · have hv' : ((80 : Int) < (q.value.size : Int)) := by omega
                  go_wp2
                  go_ret
                  exact ⟨false, rfl, (fun h => by cases h), HB1.out⟩
                · have hv' : ¬ ((80 : Int) < (q.value.size : Int)) := by omega
                  go_wp2
                  go_roundw
                  case rel => exact ⟨m + 1, by omega, by go_num, (by first | trivial | rfl), HIN.out (by omega)⟩
                  case measure => simp [intOf]; omega
            · obtain rfl : m = x.preds.length := by omega
              rw [List.take_length] at hin
              have HNX := Sp.hid (HALL.out ⟨by omega, hin⟩)
              clear hin HALL
              go_wp2
              go_roundw
              case rel => exact ⟨k + 1, by omega, by go_num, (by first | trivial | rfl), HNX.out⟩
              case measure => simp [intOf]; omega
    · obtain rfl : k = steps.length := by omega
      rw [List.take_length] at hall
      have HALL := Sp.hid hall
      clear hall
      by_cases h40 : steps.length ≤ 40
      · have h40' : (steps.length : Int) ≤ 40 := by omega
        go_wp2
        go_ret
        exact ⟨_, rfl, fun _ => ⟨h40, HALL.out⟩, HB1.out⟩
      · have h40' : ¬ (steps.length : Int) ≤ 40 := by omega
        go_wp2
        go_ret
        exact ⟨false, rfl, (fun h => by cases h), HB1.out⟩

end Go.Proofs.YtoknglpfchjbjaaGreatDoor
