/- tree: the faults of a node: what each call returns. Conditions: the table of spans as laid. -/
import Derived.Test.YtoknglpfchjbjaaGreatDoorUtfX
import Derived.Test.YtoknglpfchjbjaaGreatDoorNames
import Derived.Test.YtoknglpfchjbjaaGreatDoorTree
import Derived.Deep.QuietTactic
namespace Go.Proofs.YtoknglpfchjbjaaGreatDoor
open Go.RowKit Go.Sp

open Classical in
noncomputable def textB (s : ByteArray) : Bool := decide (isText s)
theorem writtenB_any (s : ByteArray) (w : World) (hs : s.size ≤ maxLen) (hsp : SpansAt w) : Calls Tryz.prog 67 #[.string s] w fun e w' => e = .returned (.bool (textB s)) ∧ Below w.heap.size w w' := by
  refine (written_any s w hs hsp).mono ?_
  rintro e w' ⟨b, hb, rfl, hw⟩
  have : b = textB s := by rw [Bool.eq_iff_iff, hb]; unfold textB; simp
  subst this
  exact ⟨rfl, hw⟩

theorem unnamed_any (x : ByteArray × ByteArray) (w : World) (h : x.1.size ≤ maxLen) (hsp : SpansAt w) : Calls Tryz.prog 62 #[.agg #[.string x.1, .string x.2]] w fun e w' => e = .returned (.bool (!isName x.1)) ∧ Below w.heap.size w w' := by
  have HN := Sp.hid (fun W => nameIs_any x.1 W h)
  obtain ⟨a, b⟩ := x
  dsimp only at HN ⊢
  go_enter Tryz.func62, Tryz.ntmps62
  go_wp2_with fail
  refine (HN.out _).mono ?_
  rintro e w1 ⟨rfl, hb⟩
  have HB := Sp.hid hb
  clear hb
  go_wp2
  go_ret
  exact ⟨rfl, ((Below.refl _ _).alloc (Nat.le_refl _) _).trans (HB.out.mono (by simp))⟩

theorem foreign_any (x : ByteArray × ByteArray) (w : World) (h : x.2.size ≤ maxLen) (hsp : SpansAt w) : Calls Tryz.prog 66 #[.agg #[.string x.1, .string x.2]] w fun e w' => e = .returned (.bool (!textB x.2)) ∧ Below w.heap.size w w' := by
  have HN := Sp.hid (fun W hW => writtenB_any x.2 W h hW)
  have HSP := Sp.hid hsp
  clear hsp
  obtain ⟨a, b⟩ := x
  dsimp only at HN ⊢
  go_enter Tryz.func66, Tryz.ntmps66
  go_wp2_with fail
  refine (HN.out _ (HSP.out.below ((Below.refl _ _).alloc (Nat.le_refl _) _) (Nat.le_refl _))).mono ?_
  rintro e w1 ⟨rfl, hb⟩
  have HB := Sp.hid hb
  clear hb
  go_wp2
  go_ret
  exact ⟨rfl, ((Below.refl _ _).alloc (Nat.le_refl _) _).trans (HB.out.mono (by simp))⟩

set_option maxHeartbeats 1000000 in
theorem indexUnnamed_any (F : Nat → Prop) (a : Option Addr) (cap : Nat) (xs : List (ByteArray × ByteArray)) (w : World) (hxs : Sl attrS F w a xs) (hF : ∀ k, F k → k < w.heap.size) (hlen : xs.length ≤ 9223372036854775807) (hsp : SpansAt w) :
    Calls Tryz.prog 88 #[.slice a xs.length cap, .func (.func 62) #[] #[]] w fun e w' => ∃ i : Int, (0 ≤ i ↔ (xs.any fun x => !isName x.1) = true) ∧ e = .returned (.int .i64 i) ∧ Below w.heap.size w w' := by
  have HX := Sp.hid hxs
  have HF := Sp.hid hF
  have HSP := Sp.hid hsp
  clear hxs hF hsp
  go_enter Tryz.func88, Tryz.ntmps88
  go_wp2
  go_loopw [8] (fun i wr => ∃ k : Nat, k ≤ xs.length ∧ i = .int .i64 k ∧ ((xs.take k).any fun x => !isName x.1) = false ∧ Below w.heap.size w wr) (fun i _ => xs.length - (intOf i).toNat)
  case atStart => exact ⟨0, Nat.zero_le _, rfl, rfl, Below.refl _ _⟩
  case round =>
    obtain ⟨k, hk, rfl, hno, hb⟩ := hrel
    have hsw := hb.size
    by_cases hlt : k < xs.length
    · obtain ⟨b, o, rfl, fb, s1, s2, e1, e2⟩ := attr_cells (HX.out.below HF.out hb) k hlt
      have htk := List.take_succ_eq_append_getElem hlt
      have hmem : xs[k] ∈ xs := List.getElem_mem hlt
      obtain ⟨x, hx⟩ : ∃ x, x = xs[k] := ⟨_, rfl⟩
      rw [← hx] at s1 s2 e1 e2 htk hmem
      have HC := Sp.hid (unnamed_any x wr s1 (HSP.out.below hb (Nat.le_refl _)))
      obtain ⟨q, hq⟩ : ∃ q, q = (!isName x.1) := ⟨_, rfl⟩
      rw [← hq] at HC
      have hnx : ((xs.take (k + 1)).any fun x => !isName x.1) = q := by rw [htk, List.any_append, hno, hq]; simp
      have hyes : q = true → (xs.any fun x => !isName x.1) = true := fun h => List.any_eq_true.2 ⟨x, hmem, by rw [← hq]; exact h⟩
      have HNX := Sp.hid hnx
      have HY := Sp.hid hyes
      have HB := Sp.hid hb
      clear hq hnx hyes hno hb htk hmem hx s1 s2
      go_wp2_with fail
      refine HC.out.mono ?_
      rintro e w1 ⟨rfl, hb1⟩
      have HB1 := Sp.hid (HB.out.trans (hb1.mono hsw))
      clear hb1
      cases q
      · go_wp2
        go_roundw
        case rel => exact ⟨k + 1, by omega, by go_num, HNX.out, HB1.out⟩
        case measure => simp [intOf]; omega
      · go_wp2
        go_ret
        exact ⟨k, ⟨fun _ => HY.out (by first | rfl | trivial), fun _ => by omega⟩, rfl, HB1.out⟩
    · obtain rfl : k = xs.length := by omega
      have hall : (xs.any fun x => !isName x.1) = false := by rw [List.take_length] at hno; exact hno
      have HALL := Sp.hid hall
      have HB := Sp.hid hb
      clear hall hno hb
      go_wp2
      go_ret
      exact ⟨-1, ⟨fun h => absurd h (by decide), fun h => by rw [HALL.out] at h; cases h⟩, rfl, HB.out⟩

theorem containsUnnamed_any (F : Nat → Prop) (a : Option Addr) (cap : Nat) (xs : List (ByteArray × ByteArray)) (w : World) (hxs : Sl attrS F w a xs) (hF : ∀ k, F k → k < w.heap.size) (hlen : xs.length ≤ 9223372036854775807) (hsp : SpansAt w) :
    Calls Tryz.prog 64 #[.slice a xs.length cap, .func (.func 62) #[] #[]] w fun e w' => e = .returned (.bool (xs.any fun x => !isName x.1)) ∧ Below w.heap.size w w' := by
  have HI := Sp.hid (indexUnnamed_any F a cap xs w hxs hF hlen hsp)
  clear hxs hF hsp
  obtain ⟨q, hq⟩ : ∃ q, q = (xs.any fun x => !isName x.1) := ⟨_, rfl⟩
  rw [← hq] at HI ⊢
  clear hq
  go_enter Tryz.func64, Tryz.ntmps64
  go_wp2_with fail
  refine HI.out.mono ?_
  rintro e w1 ⟨i, hi, rfl, hb⟩
  have HB := Sp.hid hb
  clear hb HI
  cases q
  · have h0 : ¬ 0 ≤ i := fun h => by have := hi.1 h; cases this
    clear hi
    go_wp2
    go_ret
    exact ⟨by simp <;> omega, HB.out⟩
  · have h0 : 0 ≤ i := hi.2 rfl
    clear hi
    go_wp2
    go_ret
    exact ⟨by simp <;> omega, HB.out⟩

set_option maxHeartbeats 1000000 in
theorem indexForeign_any (F : Nat → Prop) (a : Option Addr) (cap : Nat) (xs : List (ByteArray × ByteArray)) (w : World) (hxs : Sl attrS F w a xs) (hF : ∀ k, F k → k < w.heap.size) (hlen : xs.length ≤ 9223372036854775807) (hsp : SpansAt w) :
    Calls Tryz.prog 88 #[.slice a xs.length cap, .func (.func 66) #[] #[]] w fun e w' => ∃ i : Int, (0 ≤ i ↔ (xs.any fun x => !textB x.2) = true) ∧ e = .returned (.int .i64 i) ∧ Below w.heap.size w w' := by
  have HX := Sp.hid hxs
  have HF := Sp.hid hF
  have HSP := Sp.hid hsp
  clear hxs hF hsp
  go_enter Tryz.func88, Tryz.ntmps88
  go_wp2
  go_loopw [8] (fun i wr => ∃ k : Nat, k ≤ xs.length ∧ i = .int .i64 k ∧ ((xs.take k).any fun x => !textB x.2) = false ∧ Below w.heap.size w wr) (fun i _ => xs.length - (intOf i).toNat)
  case atStart => exact ⟨0, Nat.zero_le _, rfl, rfl, Below.refl _ _⟩
  case round =>
    obtain ⟨k, hk, rfl, hno, hb⟩ := hrel
    have hsw := hb.size
    by_cases hlt : k < xs.length
    · obtain ⟨b, o, rfl, fb, s1, s2, e1, e2⟩ := attr_cells (HX.out.below HF.out hb) k hlt
      have htk := List.take_succ_eq_append_getElem hlt
      have hmem : xs[k] ∈ xs := List.getElem_mem hlt
      obtain ⟨x, hx⟩ : ∃ x, x = xs[k] := ⟨_, rfl⟩
      rw [← hx] at s1 s2 e1 e2 htk hmem
      have HC := Sp.hid (foreign_any x wr s2 (HSP.out.below hb (Nat.le_refl _)))
      obtain ⟨q, hq⟩ : ∃ q, q = (!textB x.2) := ⟨_, rfl⟩
      rw [← hq] at HC
      have hnx : ((xs.take (k + 1)).any fun x => !textB x.2) = q := by rw [htk, List.any_append, hno, hq]; simp
      have hyes : q = true → (xs.any fun x => !textB x.2) = true := fun h => List.any_eq_true.2 ⟨x, hmem, by rw [← hq]; exact h⟩
      have HNX := Sp.hid hnx
      have HY := Sp.hid hyes
      have HB := Sp.hid hb
      clear hq hnx hyes hno hb htk hmem hx s1 s2
      go_wp2_with fail
      refine HC.out.mono ?_
      rintro e w1 ⟨rfl, hb1⟩
      have HB1 := Sp.hid (HB.out.trans (hb1.mono hsw))
      clear hb1
      cases q
      · go_wp2
        go_roundw
        case rel => exact ⟨k + 1, by omega, by go_num, HNX.out, HB1.out⟩
        case measure => simp [intOf]; omega
      · go_wp2
        go_ret
        exact ⟨k, ⟨fun _ => HY.out (by first | rfl | trivial), fun _ => by omega⟩, rfl, HB1.out⟩
    · obtain rfl : k = xs.length := by omega
      have hall : (xs.any fun x => !textB x.2) = false := by rw [List.take_length] at hno; exact hno
      have HALL := Sp.hid hall
      have HB := Sp.hid hb
      clear hall hno hb
      go_wp2
      go_ret
      exact ⟨-1, ⟨fun h => absurd h (by decide), fun h => by rw [HALL.out] at h; cases h⟩, rfl, HB.out⟩

theorem containsForeign_any (F : Nat → Prop) (a : Option Addr) (cap : Nat) (xs : List (ByteArray × ByteArray)) (w : World) (hxs : Sl attrS F w a xs) (hF : ∀ k, F k → k < w.heap.size) (hlen : xs.length ≤ 9223372036854775807) (hsp : SpansAt w) :
    Calls Tryz.prog 64 #[.slice a xs.length cap, .func (.func 66) #[] #[]] w fun e w' => e = .returned (.bool (xs.any fun x => !textB x.2)) ∧ Below w.heap.size w w' := by
  have HI := Sp.hid (indexForeign_any F a cap xs w hxs hF hlen hsp)
  clear hxs hF hsp
  obtain ⟨q, hq⟩ : ∃ q, q = (xs.any fun x => !textB x.2) := ⟨_, rfl⟩
  rw [← hq] at HI ⊢
  clear hq
  go_enter Tryz.func64, Tryz.ntmps64
  go_wp2_with fail
  refine HI.out.mono ?_
  rintro e w1 ⟨i, hi, rfl, hb⟩
  have HB := Sp.hid hb
  clear hb HI
  cases q
  · have h0 : ¬ 0 ≤ i := fun h => by have := hi.1 h; cases this
    clear hi
    go_wp2
    go_ret
    exact ⟨by simp <;> omega, HB.out⟩
  · have h0 : 0 ≤ i := hi.2 rfl
    clear hi
    go_wp2
    go_ret
    exact ⟨by simp <;> omega, HB.out⟩

def fault1B (l t : ByteArray) (na nk : Nat) : Bool := if l.toList.isEmpty then decide (0 < na) || decide (0 < nk) else !t.toList.isEmpty
theorem fault1_any (l t : ByteArray) (aa ka : Option Addr) (na ca nk ck : Nat) (w : World) : Calls Tryz.prog 60 #[.agg #[.string l, .string t, .slice aa na ca, .slice ka nk ck]] w fun e w' => e = .returned (.bool (fault1B l t na nk)) ∧ Below w.heap.size w w' := by
  obtain ⟨v, hv⟩ : ∃ v, v = fault1B l t na nk := ⟨_, rfl⟩
  rw [← hv]
  unfold fault1B at hv
  cases hl : l.toList.isEmpty
  · rw [hl] at hv
    simp only [Bool.false_eq_true, if_false] at hv
    cases ht : t.toList.isEmpty
    all_goals
      rw [ht] at hv
      subst hv
      go_enter Tryz.func60, Tryz.ntmps60
      go_wp2
      go_ret
      exact ⟨rfl, (Below.refl _ _).alloc (Nat.le_refl _) _⟩
  · rw [hl] at hv
    simp only [if_true] at hv
    by_cases h1 : 0 < na
    · have h1' : (0 : Int) < (na : Int) := by omega
      rw [decide_eq_true h1, Bool.true_or] at hv
      subst hv
      go_enter Tryz.func60, Tryz.ntmps60
      go_wp2
      go_ret
      exact ⟨rfl, (Below.refl _ _).alloc (Nat.le_refl _) _⟩
    · have h1' : ¬ (0 : Int) < (na : Int) := by omega
      rw [decide_eq_false h1, Bool.false_or] at hv
      by_cases h2 : 0 < nk
      · have h2' : (0 : Int) < (nk : Int) := by omega
        rw [decide_eq_true h2] at hv
        subst hv
        go_enter Tryz.func60, Tryz.ntmps60
        go_wp2
        go_ret
        exact ⟨rfl, (Below.refl _ _).alloc (Nat.le_refl _) _⟩
      · have h2' : ¬ (0 : Int) < (nk : Int) := by omega
        rw [decide_eq_false h2] at hv
        subst hv
        go_enter Tryz.func60, Tryz.ntmps60
        go_wp2
        go_ret
        exact ⟨rfl, (Below.refl _ _).alloc (Nat.le_refl _) _⟩

theorem fault4_any (l t : ByteArray) (aa ka : Option Addr) (na ca nk ck : Nat) (w : World) : Calls Tryz.prog 68 #[.agg #[.string l, .string t, .slice aa na ca, .slice ka nk ck]] w fun e w' => e = .returned (.bool (l.toList.isEmpty && t.toList.isEmpty)) ∧ Below w.heap.size w w' := by
  obtain ⟨v, hv⟩ : ∃ v, v = (l.toList.isEmpty && t.toList.isEmpty) := ⟨_, rfl⟩
  rw [← hv]
  cases hl : l.toList.isEmpty
  all_goals cases ht : t.toList.isEmpty
  all_goals
    rw [hl, ht] at hv
    subst hv
    go_enter Tryz.func68, Tryz.ntmps68
    go_wp2
    go_ret
    exact ⟨rfl, (Below.refl _ _).alloc (Nat.le_refl _) _⟩

def fault2B (l : ByteArray) (xs : List (ByteArray × ByteArray)) : Bool := (!l.toList.isEmpty && !isName l) || xs.any fun x => !isName x.1
theorem fault2_any (F : Nat → Prop) (l t : ByteArray) (aa ka : Option Addr) (xs : List (ByteArray × ByteArray)) (ca nk ck : Nat) (w : World) (hl : l.size ≤ maxLen) (hxs : Sl attrS F w aa xs) (hF : ∀ k, F k → k < w.heap.size) (hlen : xs.length ≤ 9223372036854775807) (hsp : SpansAt w) :
    Calls Tryz.prog 61 #[.agg #[.string l, .string t, .slice aa xs.length ca, .slice ka nk ck]] w fun e w' => e = .returned (.bool (fault2B l xs)) ∧ Below w.heap.size w w' := by
  obtain ⟨v, hv⟩ : ∃ v, v = fault2B l xs := ⟨_, rfl⟩
  rw [← hv]
  unfold fault2B at hv
  have HN := Sp.hid (fun W => nameIs_any l W hl)
  have HC := Sp.hid (fun W (hb : Below w.heap.size w W) => containsUnnamed_any F aa ca xs W (hxs.below hF hb) (fun k hk => Nat.lt_of_lt_of_le (hF k hk) hb.size) hlen (hsp.below hb (Nat.le_refl _)))
  obtain ⟨n, hn⟩ : ∃ n, n = isName l := ⟨_, rfl⟩
  rw [← hn] at HN
  have hb0 : Below w.heap.size w (w.alloc (.cells #[.string l, .string t, .slice aa xs.length ca, .slice ka nk ck] 29)) := (Below.refl _ _).alloc (Nat.le_refl _) _
  have HB0 := Sp.hid hb0
  rw [← hn] at hv
  have HV := Sp.hid hv
  clear hn hxs hF hsp hb0 hv
  by_cases he : l.toList.isEmpty = true
  · go_enter Tryz.func61, Tryz.ntmps61
    go_wp2_with fail
    refine (HC.out _ HB0.out).mono ?_
    rintro e w1 ⟨rfl, hb⟩
    have HB := Sp.hid hb
    clear hb
    go_wp2
    go_ret
    exact ⟨by rw [HV.out, he]; simp, HB0.out.trans (HB.out.mono (by simp))⟩
  · have he' : l.toList.isEmpty = false := by simpa using he
    have HE := Sp.hid he
    clear he
    go_enter Tryz.func61, Tryz.ntmps61
    go_wp2_with fail
    refine (HN.out _).mono ?_
    rintro e w1 ⟨rfl, hb⟩
    have HB := Sp.hid (HB0.out.trans (hb.mono (by simp)))
    have hc1 : w1.cell? ⟨w.heap.size, 2, none⟩ = some (.slice aa xs.length ca) := by rw [hb.cell (p := ⟨w.heap.size, 2, none⟩) (by simp)]; simp
    clear hb
    cases n
    · go_wp2
      go_ret
      exact ⟨by rw [HV.out, he']; simp, HB.out⟩
    · go_wp2_with fail
      refine (HC.out _ HB.out).mono ?_
      rintro e w2 ⟨rfl, hb⟩
      have HB9 := Sp.hid (HB.out.trans (hb.mono HB.out.size))
      clear hb
      go_wp2
      go_ret
      exact ⟨by rw [HV.out, he']; simp, HB9.out⟩

end Go.Proofs.YtoknglpfchjbjaaGreatDoor
