/- utf: the small functions: size, rest, begin, Is: what each call returns. Conditions: the table of spans reads as its text lays it. -/
import Derived.Test.YtoknglpfchjbjaaGreatDoorRows
import Derived.Test.YtoknglpfchjbjaaGreatDoorBase
import Derived.WalkKit
import Derived.Deep.QuietTactic
import Derived.Laws.BitsLemmas
namespace Go.Proofs.YtoknglpfchjbjaaGreatDoor
open Go.RowKit Go.Sp

theorem laidOutK : laidOutB Tryz.prog = true := by kernel_rfl

def isChar (r : Int) : Bool := decide (r = 9) || decide (r = 10) || decide (r = 13) || (decide (32 ≤ r) && decide (r ≤ 55295)) || (decide (57344 ≤ r) && decide (r ≤ 65533)) || (decide (65536 ≤ r) && decide (r ≤ 1114111))
def sizeOf_ (r : Int) : Nat := if r < 128 then 1 else if r < 2048 then 2 else if r < 65536 then 3 else 4

theorem size_any (r : Int) (w : World) : Calls Tryz.prog 104 #[.int .i32 r] w fun e w' => e = .returned (.int .i64 (sizeOf_ r : Nat)) ∧ w = w' := by
  by_cases h1 : r < 128
  · go_enter Tryz.func104, Tryz.ntmps104
    go_wp2
    go_ret
    exact ⟨by unfold sizeOf_; rw [if_pos h1]; rfl, rfl⟩
  by_cases h2 : r < 2048
  · go_enter Tryz.func104, Tryz.ntmps104
    go_wp2
    go_ret
    exact ⟨by unfold sizeOf_; rw [if_neg (by omega), if_pos h2]; rfl, rfl⟩
  by_cases h3 : r < 65536
  · go_enter Tryz.func104, Tryz.ntmps104
    go_wp2
    go_ret
    exact ⟨by unfold sizeOf_; rw [if_neg (by omega), if_neg (by omega), if_pos h3]; rfl, rfl⟩
  · go_enter Tryz.func104, Tryz.ntmps104
    go_wp2
    go_ret
    exact ⟨by unfold sizeOf_; rw [if_neg (by omega), if_neg (by omega), if_neg (by omega)]; rfl, rfl⟩

def beginOf (c : Int) : Nat × Int := if c < 128 then (1, c) else if c < 192 then (0, 0) else if c < 224 then (2, c - 192) else if c < 240 then (3, c - 224) else if c < 248 then (4, c - 240) else (0, 0)
theorem begin_any (c : Int) (w : World) (h0 : 0 ≤ c) (h1 : c ≤ 255) : Calls Tryz.prog 103 #[.int .u8 c] w fun e w' => e = .returned (.tuple #[.int .i64 ((beginOf c).1 : Nat), .int .i32 (beginOf c).2]) ∧ w = w' := by
  have hb : beginOf c = if c < 128 then (1, c) else if c < 192 then (0, 0) else if c < 224 then (2, c - 192) else if c < 240 then (3, c - 224) else if c < 248 then (4, c - 240) else (0, 0) := rfl
  have HB := Sp.hid hb
  clear hb
  obtain ⟨n, hn⟩ : ∃ n, n = (beginOf c).1 := ⟨_, rfl⟩
  obtain ⟨v, hv⟩ : ∃ v, v = (beginOf c).2 := ⟨_, rfl⟩
  rw [← hn, ← hv]
  rw [HB.out] at hn hv
  clear HB
  by_cases c1 : c < 128
  · rw [if_pos c1] at hn hv; dsimp only at hn hv; subst hn hv
    go_enter Tryz.func103, Tryz.ntmps103
    go_wp2
    go_ret2
    exact ⟨by rfl, rfl⟩
  rw [if_neg c1] at hn hv
  by_cases c2 : c < 192
  · rw [if_pos c2] at hn hv; dsimp only at hn hv; subst hn hv
    go_enter Tryz.func103, Tryz.ntmps103
    go_wp2
    go_ret2
    exact ⟨by rfl, rfl⟩
  rw [if_neg c2] at hn hv
  by_cases c3 : c < 224
  · rw [if_pos c3] at hn hv; dsimp only at hn hv; subst hn hv
    go_enter Tryz.func103, Tryz.ntmps103
    go_wp2
    go_ret2
    exact ⟨by rfl, rfl⟩
  rw [if_neg c3] at hn hv
  by_cases c4 : c < 240
  · rw [if_pos c4] at hn hv; dsimp only at hn hv; subst hn hv
    go_enter Tryz.func103, Tryz.ntmps103
    go_wp2
    go_ret2
    exact ⟨by rfl, rfl⟩
  rw [if_neg c4] at hn hv
  by_cases c5 : c < 248
  · rw [if_pos c5] at hn hv; dsimp only at hn hv; subst hn hv
    go_enter Tryz.func103, Tryz.ntmps103
    go_wp2
    go_ret2
    exact ⟨by rfl, rfl⟩
  · rw [if_neg c5] at hn hv; dsimp only at hn hv; subst hn hv
    go_enter Tryz.func103, Tryz.ntmps103
    go_wp2
    go_ret2
    exact ⟨by rfl, rfl⟩

/-- The table of spans, as its text lays it. -/
def SpansAt (w : World) : Prop := CellsAt w 1 0 [.int .i32 9, .int .i32 10, .int .i32 13, .int .i32 13, .int .i32 32, .int .i32 55295, .int .i32 57344, .int .i32 65533, .int .i32 65536, .int .i32 1114111]

def spanL : List (Int × Int) := [(9, 10), (13, 13), (32, 55295), (57344, 65533), (65536, 1114111)]
theorem spans_char (r : Int) : isChar r = spanL.any fun s => decide (s.1 ≤ r) && decide (r ≤ s.2) := by
  unfold isChar spanL
  simp only [List.any_cons, List.any_nil, Bool.or_false]
  rw [Bool.eq_iff_iff]
  simp only [Bool.or_eq_true, Bool.and_eq_true, decide_eq_true_eq]
  omega

abbrev spansV : Value := .agg #[.int .i32 9, .int .i32 10, .int .i32 13, .int .i32 13, .int .i32 32, .int .i32 55295, .int .i32 57344, .int .i32 65533, .int .i32 65536, .int .i32 1114111]
theorem span_next (r : Int) (k : Nat) (a b : Int) (hs : spanL[k]? = some (a, b)) (h : (spanL.take k).any (fun s => decide (s.1 ≤ r) && decide (r ≤ s.2)) = false) (hab : ¬ (a ≤ r ∧ r ≤ b)) : (spanL.take (k + 1)).any (fun s => decide (s.1 ≤ r) && decide (r ≤ s.2)) = false := by
  obtain ⟨hk, he⟩ := List.getElem?_eq_some_iff.1 hs
  rw [List.take_succ_eq_append_getElem hk, List.any_append, h, he]
  simp only [List.any_cons, List.any_nil, Bool.or_false, Bool.false_or, Bool.and_eq_false_iff, decide_eq_false_iff_not]
  omega
theorem span_hit (r : Int) (k : Nat) (a b : Int) (hs : spanL[k]? = some (a, b)) (h1 : a ≤ r) (h2 : r ≤ b) : isChar r = true := by
  rw [spans_char, List.any_eq_true]
  exact ⟨(a, b), List.mem_of_getElem? hs, by simp [h1, h2]⟩

set_option maxHeartbeats 1000000 in
theorem is_any (r : Int) (w : World) (hs : SpansAt w) : Calls Tryz.prog 105 #[.int .i32 r] w fun e w' => e = .returned (.bool (isChar r)) ∧ Below w.heap.size w w' := by
  have s0 := hs 0 (by decide)
  have s1 := hs 1 (by decide)
  have s2 := hs 2 (by decide)
  have s3 := hs 3 (by decide)
  have s4 := hs 4 (by decide)
  have s5 := hs 5 (by decide)
  have s6 := hs 6 (by decide)
  have s7 := hs 7 (by decide)
  have s8 := hs 8 (by decide)
  have s9 := hs 9 (by decide)
  simp only [Nat.zero_add, List.getElem_cons_zero, List.getElem_cons_succ] at s0 s1 s2 s3 s4 s5 s6 s7 s8 s9
  have hg : 1 < w.heap.size := World.block_lt_of_cell? w _ s0
  clear hs
  have i0 : ∀ w : World, (Instr.index 177 spansV (.int .i64 0)).run Tryz.prog w = .ok (.agg #[.int .i32 9, .int .i32 10]) w := fun _ => by kernel_rfl
  have i1 : ∀ w : World, (Instr.index 177 spansV (.int .i64 1)).run Tryz.prog w = .ok (.agg #[.int .i32 13, .int .i32 13]) w := fun _ => by kernel_rfl
  have i2 : ∀ w : World, (Instr.index 177 spansV (.int .i64 2)).run Tryz.prog w = .ok (.agg #[.int .i32 32, .int .i32 55295]) w := fun _ => by kernel_rfl
  have i3 : ∀ w : World, (Instr.index 177 spansV (.int .i64 3)).run Tryz.prog w = .ok (.agg #[.int .i32 57344, .int .i32 65533]) w := fun _ => by kernel_rfl
  have i4 : ∀ w : World, (Instr.index 177 spansV (.int .i64 4)).run Tryz.prog w = .ok (.agg #[.int .i32 65536, .int .i32 1114111]) w := fun _ => by kernel_rfl
  go_enter Tryz.func105, Tryz.ntmps105
  go_wp2
  go_loopw [8] (fun i wr => ∃ k : Nat, k ≤ 5 ∧ i = .int .i64 k ∧ (spanL.take k).any (fun s => decide (s.1 ≤ r) && decide (r ≤ s.2)) = false ∧ wr.cell? ⟨w.heap.size, 0, none⟩ = some (.int .i32 r) ∧ Below w.heap.size w wr) (fun i _ => 5 - (intOf i).toNat)
  case atStart => exact ⟨0, by omega, rfl, rfl, by simp, (Below.refl _ _).alloc (Nat.le_refl _) _⟩
  case round =>
    obtain ⟨k, hk, rfl, hsp, hc, hb⟩ := hrel
    have HSP := Sp.hid hsp
    have HB := Sp.hid hb
    have hbs := hb.size
    clear hsp hb
    have hlt : w.heap.size < wr.heap.size := World.block_lt_of_cell? wr _ hc
    have : k = 0 ∨ k = 1 ∨ k = 2 ∨ k = 3 ∨ k = 4 ∨ k = 5 := by omega
    rcases this with rfl | rfl | rfl | rfl | rfl | rfl
    · by_cases h1 : (9 : Int) ≤ r
      · by_cases h2 : r ≤ 10
        · go_wp2
          go_ret
          exact ⟨by rw [span_hit r 0 9 10 rfl h1 h2]; rfl, (HB.out.alloc HB.out.size _).alloc (by have := HB.out.size; simp; omega) _⟩
        · go_wp2
          go_roundw
          case rel => exact ⟨1, by omega, by go_num, span_next r 0 9 10 rfl HSP.out (by omega), by rw [World.cell?_alloc_lt _ _ _ (by simp; omega), World.cell?_alloc_lt _ _ _ hlt]; exact hc, (HB.out.alloc HB.out.size _).alloc (by have := HB.out.size; simp; omega) _⟩
          case measure => simp [intOf]
      · go_wp2
        go_roundw
        case rel => exact ⟨1, by omega, by go_num, span_next r 0 9 10 rfl HSP.out (by omega), by rw [World.cell?_alloc_lt _ _ _ (by simp; omega), World.cell?_alloc_lt _ _ _ hlt]; exact hc, (HB.out.alloc HB.out.size _).alloc (by have := HB.out.size; simp; omega) _⟩
        case measure => simp [intOf]
    · by_cases h1 : (13 : Int) ≤ r
      · by_cases h2 : r ≤ 13
        · go_wp2
          go_ret
          exact ⟨by rw [span_hit r 1 13 13 rfl h1 h2]; rfl, (HB.out.alloc HB.out.size _).alloc (by have := HB.out.size; simp; omega) _⟩
        · go_wp2
          go_roundw
          case rel => exact ⟨2, by omega, by go_num, span_next r 1 13 13 rfl HSP.out (by omega), by rw [World.cell?_alloc_lt _ _ _ (by simp; omega), World.cell?_alloc_lt _ _ _ hlt]; exact hc, (HB.out.alloc HB.out.size _).alloc (by have := HB.out.size; simp; omega) _⟩
          case measure => simp [intOf]
      · go_wp2
        go_roundw
        case rel => exact ⟨2, by omega, by go_num, span_next r 1 13 13 rfl HSP.out (by omega), by rw [World.cell?_alloc_lt _ _ _ (by simp; omega), World.cell?_alloc_lt _ _ _ hlt]; exact hc, (HB.out.alloc HB.out.size _).alloc (by have := HB.out.size; simp; omega) _⟩
        case measure => simp [intOf]
    · by_cases h1 : (32 : Int) ≤ r
      · by_cases h2 : r ≤ 55295
        · go_wp2
          go_ret
          exact ⟨by rw [span_hit r 2 32 55295 rfl h1 h2]; rfl, (HB.out.alloc HB.out.size _).alloc (by have := HB.out.size; simp; omega) _⟩
        · go_wp2
          go_roundw
          case rel => exact ⟨3, by omega, by go_num, span_next r 2 32 55295 rfl HSP.out (by omega), by rw [World.cell?_alloc_lt _ _ _ (by simp; omega), World.cell?_alloc_lt _ _ _ hlt]; exact hc, (HB.out.alloc HB.out.size _).alloc (by have := HB.out.size; simp; omega) _⟩
          case measure => simp [intOf]
      · go_wp2
        go_roundw
        case rel => exact ⟨3, by omega, by go_num, span_next r 2 32 55295 rfl HSP.out (by omega), by rw [World.cell?_alloc_lt _ _ _ (by simp; omega), World.cell?_alloc_lt _ _ _ hlt]; exact hc, (HB.out.alloc HB.out.size _).alloc (by have := HB.out.size; simp; omega) _⟩
        case measure => simp [intOf]
    · by_cases h1 : (57344 : Int) ≤ r
      · by_cases h2 : r ≤ 65533
        · go_wp2
          go_ret
          exact ⟨by rw [span_hit r 3 57344 65533 rfl h1 h2]; rfl, (HB.out.alloc HB.out.size _).alloc (by have := HB.out.size; simp; omega) _⟩
        · go_wp2
          go_roundw
          case rel => exact ⟨4, by omega, by go_num, span_next r 3 57344 65533 rfl HSP.out (by omega), by rw [World.cell?_alloc_lt _ _ _ (by simp; omega), World.cell?_alloc_lt _ _ _ hlt]; exact hc, (HB.out.alloc HB.out.size _).alloc (by have := HB.out.size; simp; omega) _⟩
          case measure => simp [intOf]
      · go_wp2
        go_roundw
        case rel => exact ⟨4, by omega, by go_num, span_next r 3 57344 65533 rfl HSP.out (by omega), by rw [World.cell?_alloc_lt _ _ _ (by simp; omega), World.cell?_alloc_lt _ _ _ hlt]; exact hc, (HB.out.alloc HB.out.size _).alloc (by have := HB.out.size; simp; omega) _⟩
        case measure => simp [intOf]
    · by_cases h1 : (65536 : Int) ≤ r
      · by_cases h2 : r ≤ 1114111
        · go_wp2
          go_ret
          exact ⟨by rw [span_hit r 4 65536 1114111 rfl h1 h2]; rfl, (HB.out.alloc HB.out.size _).alloc (by have := HB.out.size; simp; omega) _⟩
        · go_wp2
          go_roundw
          case rel => exact ⟨5, by omega, by go_num, span_next r 4 65536 1114111 rfl HSP.out (by omega), by rw [World.cell?_alloc_lt _ _ _ (by simp; omega), World.cell?_alloc_lt _ _ _ hlt]; exact hc, (HB.out.alloc HB.out.size _).alloc (by have := HB.out.size; simp; omega) _⟩
          case measure => simp [intOf]
      · go_wp2
        go_roundw
        case rel => exact ⟨5, by omega, by go_num, span_next r 4 65536 1114111 rfl HSP.out (by omega), by rw [World.cell?_alloc_lt _ _ _ (by simp; omega), World.cell?_alloc_lt _ _ _ hlt]; exact hc, (HB.out.alloc HB.out.size _).alloc (by have := HB.out.size; simp; omega) _⟩
        case measure => simp [intOf]
    · go_wp2
      go_ret
      exact ⟨by rw [spans_char, ← HSP.out]; rfl, HB.out⟩

end Go.Proofs.YtoknglpfchjbjaaGreatDoor
