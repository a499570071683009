/- path.Check: what is wrong with a path. Conditions: the table of spans as laid. -/
import Derived.Test.YtoknglpfchjbjaaGreatDoorPathCheck
import Derived.Shelf.Abstract
namespace Go.Proofs.YtoknglpfchjbjaaGreatDoor
open Go.RowKit Go.Sp

set_option maxRecDepth 100000 in
theorem many_any (s : StepM) (pa : Option Addr) (pc : Nat) (w : World) (hpl : s.preds.length ≤ 9223372036854775807) : Calls Tryz.prog 41 #[stepV s pa pc] w fun e w' => e = .returned (.bool (manyP s)) ∧ Below w.heap.size w w' := by
  obtain ⟨sa, sn, sp⟩ := s
  obtain ⟨v, hv⟩ : ∃ v, v = manyP ⟨sa, sn, sp⟩ := ⟨_, rfl⟩
  rw [← hv]
  unfold manyP at hv
  dsimp only [stepV] at hv hpl ⊢
  by_cases h : 8 < sp.length
  · rw [decide_eq_true h] at hv
    have h' : (8 : Int) < (sp.length : Int) := by omega
    subst hv
    go_enter Tryz.func41, Tryz.ntmps41
    go_wp2
    go_ret
    exact ⟨rfl, (Below.refl _ _).alloc (Nat.le_refl _) _⟩
  · rw [decide_eq_false h] at hv
    have h' : ¬ (8 : Int) < (sp.length : Int) := by omega
    subst hv
    go_enter Tryz.func41, Tryz.ntmps41
    go_wp2
    go_ret
    exact ⟨rfl, (Below.refl _ _).alloc (Nat.le_refl _) _⟩

set_option maxRecDepth 100000 in
theorem unnamedS_any (F : Nat → Prop) (s : StepM) (pa : Option Addr) (pc : Nat) (w : World) (hs : s.name.size ≤ maxLen) (hpl : s.preds.length ≤ 9223372036854775807) (hps : Sl predS F w pa s.preds) (hF : ∀ k, F k → k < w.heap.size) :
    Calls Tryz.prog 43 #[stepV s pa pc] w fun e w' => e = .returned (.bool (!namedS s)) ∧ Below w.heap.size w w' := by
  have hb0 : Below w.heap.size w (w.alloc (.cells #[.bool s.isAttr, .string s.name, .slice pa s.preds.length pc] 68)) := (Below.refl _ _).alloc (Nat.le_refl _) _
  have HN := Sp.hid (named_any F s pa pc _ hs hpl (hps.below hF hb0) (fun k hk => Nat.lt_of_lt_of_le (hF k hk) hb0.size))
  obtain ⟨v, hv⟩ : ∃ v, v = namedS s := ⟨_, rfl⟩
  rw [← hv] at HN ⊢
  have HB0 := Sp.hid hb0
  dsimp only [stepV] at HN ⊢
  clear hb0 hps hF hv
  go_enter Tryz.func43, Tryz.ntmps43
  go_wp2_with fail
  refine HN.out.mono ?_
  rintro e w1 ⟨rfl, hb⟩
  have HB := Sp.hid (HB0.out.trans (hb.mono HB0.out.size))
  clear hb
  go_wp2
  go_ret
  exact ⟨rfl, HB.out⟩

set_option maxRecDepth 100000 in
theorem unwrittenS_any (F : Nat → Prop) (s : StepM) (pa : Option Addr) (pc : Nat) (w : World) (hpl : s.preds.length ≤ 9223372036854775807) (hps : Sl predS F w pa s.preds) (hF : ∀ k, F k → k < w.heap.size) (hsp : SpansAt w) :
    Calls Tryz.prog 45 #[stepV s pa pc] w fun e w' => e = .returned (.bool (!writtenS s)) ∧ Below w.heap.size w w' := by
  have hb0 : Below w.heap.size w (w.alloc (.cells #[.bool s.isAttr, .string s.name, .slice pa s.preds.length pc] 68)) := (Below.refl _ _).alloc (Nat.le_refl _) _
  have HN := Sp.hid (pwritten_any F s pa pc _ hpl (hps.below hF hb0) (fun k hk => Nat.lt_of_lt_of_le (hF k hk) hb0.size) (hsp.below hb0 (Nat.le_refl _)))
  obtain ⟨v, hv⟩ : ∃ v, v = writtenS s := ⟨_, rfl⟩
  rw [← hv] at HN ⊢
  have HB0 := Sp.hid hb0
  dsimp only [stepV] at HN ⊢
  clear hb0 hps hF hv hsp
  go_enter Tryz.func45, Tryz.ntmps45
  go_wp2_with fail
  refine HN.out.mono ?_
  rintro e w1 ⟨rfl, hb⟩
  have HB := Sp.hid (HB0.out.trans (hb.mono HB0.out.size))
  clear hb
  go_wp2
  go_ret
  exact ⟨rfl, HB.out⟩

set_option maxRecDepth 100000 in
set_option maxHeartbeats 4000000 in
/-- What asks each step. -/
theorem indexStep_any (fid : Nat) (B : StepM → Bool) (hent : ∀ args W, (callFunc fid args).run Tryz.prog W = .ok (.enter fid args) W) (F : Nat → Prop) (a : Option Addr) (cap : Nat) (xs : List StepM) (w : World) (hxs : Sl pstepS F w a xs) (hF : ∀ k, F k → k < w.heap.size) (hlen : xs.length ≤ 9223372036854775807)
    (hB : ∀ (s : StepM) (pa : Option Addr) (pc : Nat) (W : World), Below w.heap.size w W → s ∈ xs → s.name.size ≤ maxLen → s.preds.length ≤ 9223372036854775807 → Sl predS F W pa s.preds → Calls Tryz.prog fid #[stepV s pa pc] W fun e w' => e = .returned (.bool (B s)) ∧ Below W.heap.size W w') :
    Calls Tryz.prog 71 #[.slice a xs.length cap, .func (.func fid) #[] #[]] w fun e w' => ∃ i : Int, (0 ≤ i ↔ xs.any B = true) ∧ e = .returned (.int .i64 i) ∧ Below w.heap.size w w' := by
  have HX := Sp.hid hxs
  have HF := Sp.hid hF
  have HBB := Sp.hid hB
  clear hxs hF hB
  go_enter Tryz.func71, Tryz.ntmps71
  go_wp2
  go_loopw [8] (fun i wr => ∃ k : Nat, k ≤ xs.length ∧ i = .int .i64 k ∧ (xs.take k).any B = false ∧ Below w.heap.size w wr) (fun i _ => xs.length - (intOf i).toNat)
  case atStart => exact ⟨0, Nat.zero_le _, rfl, rfl, Below.refl _ _⟩
  case round =>
    obtain ⟨k, hk, rfl, hno, hb⟩ := hrel
    have hsw := hb.size
    by_cases hlt : k < xs.length
    · obtain ⟨b, o, pa, pc, rfl, fb, ⟨z1, z2⟩, hps, e1, e2, e3⟩ := pstep_cells (HX.out.below HF.out hb) k hlt
      have hbr : b < wr.heap.size := World.block_lt_of_cell? _ _ e1
      have htk := List.take_succ_eq_append_getElem hlt
      have hmem : xs[k] ∈ xs := List.getElem_mem hlt
      obtain ⟨x, hx⟩ : ∃ x, x = xs[k] := ⟨_, rfl⟩
      rw [← hx] at e1 e2 e3 z1 z2 hps htk hmem
      have HC := Sp.hid (HBB.out x pa pc wr hb hmem z1 z2 hps)
      obtain ⟨q, hq⟩ : ∃ q, q = B x := ⟨_, rfl⟩
      rw [← hq] at HC
      have hnx : (xs.take (k + 1)).any B = q := by rw [htk, List.any_append, hno, hq]; simp
      have hyes : q = true → xs.any B = true := fun h => List.any_eq_true.2 ⟨x, hmem, by rw [← hq]; exact h⟩
      have HNX := Sp.hid hnx
      have HY := Sp.hid hyes
      have HB := Sp.hid hb
      obtain ⟨xa, xn, xp⟩ := x
      dsimp only [stepV] at e1 e2 e3 HC
      clear hq hnx hyes hno hb htk hmem hx z1 z2 hps
      go_wp2_with fail
      refine HC.out.mono ?_
      rintro e w1 ⟨rfl, hb1⟩
      have HB1 := Sp.hid (HB.out.trans (hb1.mono hsw))
      clear hb1
      cases q
      · go_wp2
        go_roundw
        case rel => exact ⟨k + 1, by omega, by go_num, HNX.out, HB1.out⟩
        case measure => simp [intOf]; omega
      · go_wp2
        go_ret
        exact ⟨k, ⟨fun _ => HY.out (by first | rfl | trivial), fun _ => by omega⟩, rfl, HB1.out⟩
    · obtain rfl : k = xs.length := by omega
      have hall : xs.any B = false := by rw [List.take_length] at hno; exact hno
      have HALL := Sp.hid hall
      have HB := Sp.hid hb
      clear hall hno hb
      go_wp2
      go_ret
      exact ⟨-1, ⟨fun h => absurd h (by decide), fun h => by rw [HALL.out] at h; cases h⟩, rfl, HB.out⟩

set_option maxRecDepth 100000 in
theorem containsStep_any (fid : Nat) (B : StepM → Bool) (hent : ∀ args W, (callFunc fid args).run Tryz.prog W = .ok (.enter fid args) W) (F : Nat → Prop) (a : Option Addr) (cap : Nat) (xs : List StepM) (w : World) (hxs : Sl pstepS F w a xs) (hF : ∀ k, F k → k < w.heap.size) (hlen : xs.length ≤ 9223372036854775807)
    (hB : ∀ (s : StepM) (pa : Option Addr) (pc : Nat) (W : World), Below w.heap.size w W → s ∈ xs → s.name.size ≤ maxLen → s.preds.length ≤ 9223372036854775807 → Sl predS F W pa s.preds → Calls Tryz.prog fid #[stepV s pa pc] W fun e w' => e = .returned (.bool (B s)) ∧ Below W.heap.size W w') :
    Calls Tryz.prog 40 #[.slice a xs.length cap, .func (.func fid) #[] #[]] w fun e w' => e = .returned (.bool (xs.any B)) ∧ Below w.heap.size w w' := by
  have HI := Sp.hid (indexStep_any fid B hent F a cap xs w hxs hF hlen hB)
  clear hxs hF hB
  obtain ⟨q, hq⟩ : ∃ q, q = xs.any B := ⟨_, rfl⟩
  rw [← hq] at HI ⊢
  clear hq
  go_enter Tryz.func40, Tryz.ntmps40
  go_wp2_with fail
  refine HI.out.mono ?_
  rintro e w1 ⟨i, hi, rfl, hb⟩
  have HB := Sp.hid hb
  clear hb HI
  cases q
  · have h0 : ¬ 0 ≤ i := fun h => by have := hi.1 h; cases this
    clear hi
    go_wp2
    go_ret
    exact ⟨by simp <;> omega, HB.out⟩
  · have h0 : 0 ≤ i := hi.2 rfl
    clear hi
    go_wp2
    go_ret
    exact ⟨by simp <;> omega, HB.out⟩

set_option maxRecDepth 100000 in
set_option maxHeartbeats 8000000 in
theorem pathCheck_any (F : Nat → Prop) (a : Option Addr) (cap : Nat) (xs : List StepM) (w : World) (hxs : Sl pstepS F w a xs) (hF : ∀ k, F k → k < w.heap.size) (hlen : xs.length ≤ 9223372036854775807) (hsp : SpansAt w) :
    Calls Tryz.prog 23 #[.agg #[.slice a xs.length cap]] w fun e w' => e = .returned (.int .i64 (pcheckM xs)) ∧ Below w.heap.size w w' := by
  obtain ⟨v, hv⟩ : ∃ v, v = pcheckM xs := ⟨_, rfl⟩
  rw [← hv]
  unfold pcheckM at hv
  obtain ⟨w0, hw0⟩ : ∃ w0, w0 = w.alloc (.cells #[.slice a xs.length cap] 25) := ⟨_, rfl⟩
  have hb0 : Below w.heap.size w w0 := by rw [hw0]; exact (Below.refl _ _).alloc (Nat.le_refl _) _
  have hs0 : w.heap.size + 1 ≤ w0.heap.size := by rw [hw0]; simp
  have hc0 : w0.heap[w.heap.size]? = some (.cells #[.slice a xs.length cap] 25 (0, 0)) := by rw [hw0]; exact heap_alloc_new _ _
  have e37 : ∀ args W, (callFunc 41 args).run Tryz.prog W = .ok (.enter 41 args) W := enters_of Tryz.func41 (by kernel_rfl) rfl
  have e39 : ∀ args W, (callFunc 43 args).run Tryz.prog W = .ok (.enter 43 args) W := enters_of Tryz.func43 (by kernel_rfl) rfl
  have e41 : ∀ args W, (callFunc 45 args).run Tryz.prog W = .ok (.enter 45 args) W := enters_of Tryz.func45 (by kernel_rfl) rfl
  have HFF := Sp.hid (fun (W : World) (hb : Below w.heap.size w W) => (fun k hk => Nat.lt_of_lt_of_le (hF k hk) hb.size : ∀ k, F k → k < W.heap.size))
  have HCM := Sp.hid (fun (W : World) (hb : Below w.heap.size w W) => containsStep_any _ manyP e37 F a cap xs W (hxs.below hF hb) (HFF.out W hb) hlen (fun s pa pc W' hb' _ h1 h2 h3 => many_any s pa pc W' h2))
  have HCN := Sp.hid (fun (W : World) (hb : Below w.heap.size w W) => containsStep_any _ (fun s => !namedS s) e39 F a cap xs W (hxs.below hF hb) (HFF.out W hb) hlen (fun s pa pc W' hb' _ h1 h2 h3 => unnamedS_any F s pa pc W' h1 h2 h3 (HFF.out W' (hb.trans (hb'.mono hb.size)))))
  have HCW := Sp.hid (fun (W : World) (hb : Below w.heap.size w W) => containsStep_any _ (fun s => !writtenS s) e41 F a cap xs W (hxs.below hF hb) (HFF.out W hb) hlen (fun s pa pc W' hb' _ h1 h2 h3 => unwrittenS_any F s pa pc W' h2 h3 (HFF.out W' (hb.trans (hb'.mono hb.size))) (hsp.below (hb.trans (hb'.mono hb.size)) (Nat.le_refl _))))
  have HFO := Sp.hid (fun (W : World) (hb : Below w.heap.size w W) => formed_any F a cap xs W (hxs.below hF hb) (HFF.out W hb) hlen)
  have HB0 := Sp.hid hb0
  have HC0 := Sp.hid hc0
  have HW0 := Sp.hid hw0
  have HCELL := Sp.hid (fun (W : World) (hb : Below w0.heap.size w0 W) => (by
    have h : W.heap[w.heap.size]? = some (.cells #[.slice a xs.length cap] 25 (0, 0)) := (hb.block _ (by omega)).trans hc0
    exact ⟨by simp [World.cell?, h], by have := hb.size; omega⟩ : W.cell? ⟨w.heap.size, 0, none⟩ = some (.slice a xs.length cap) ∧ w.heap.size < W.heap.size))
  have HBT := Sp.hid (fun (W : World) (hb : Below w0.heap.size w0 W) => (hb0.trans (hb.mono (by omega)) : Below w.heap.size w W))
  obtain ⟨bm, hbm⟩ : ∃ bm, bm = xs.any manyP := ⟨_, rfl⟩
  obtain ⟨bf, hbf⟩ : ∃ bf, bf = formedM xs := ⟨_, rfl⟩
  obtain ⟨bn, hbn⟩ : ∃ bn, bn = xs.any fun s => !namedS s := ⟨_, rfl⟩
  obtain ⟨bw, hbw⟩ : ∃ bw, bw = xs.any fun s => !writtenS s := ⟨_, rfl⟩
  rw [← hbm] at hv HCM
  rw [← hbf] at hv HFO
  rw [← hbn] at hv HCN
  rw [← hbw] at hv HCW
  clear hxs hF hsp hb0 hc0 hw0 hbm hbf hbn hbw e37 e39 e41
  by_cases hl : 32 < xs.length
  · rw [decide_eq_true hl, Bool.true_or, if_pos rfl] at hv
    have hl' : (32 : Int) < (xs.length : Int) := by omega
    subst hv
    go_enter Tryz.func23, Tryz.ntmps23
    go_wp2
    go_ret
    exact ⟨rfl, by rw [← HW0.out]; exact HB0.out⟩
  have hl' : ¬ (32 : Int) < (xs.length : Int) := by omega
  rw [decide_eq_false hl, Bool.false_or] at hv
  have HV := Sp.hid hv
  clear hv
  go_enter Tryz.func23, Tryz.ntmps23
  go_wp2_with fail
  rw [← HW0.out]
  refine (HCM.out _ HB0.out).mono ?_
  rintro e w1 ⟨rfl, hb1⟩
  have HB1 := Sp.hid hb1
  obtain ⟨c1, l1⟩ := HCELL.out _ hb1
  clear hb1
  cases bm
  · go_wp2_with fail
    refine (HFO.out _ (HBT.out _ HB1.out)).mono ?_
    rintro e w2 ⟨rfl, hb2⟩
    have HB2 := Sp.hid (HB1.out.trans (hb2.mono HB1.out.size))
    obtain ⟨c2, l2⟩ := HCELL.out _ HB2.out
    clear hb2 c1 l1
    cases bf
    · go_wp2
      go_ret
      exact ⟨by rw [HV.out]; rfl, HBT.out _ HB2.out⟩
    · go_wp2_with fail
      refine (HCN.out _ (HBT.out _ HB2.out)).mono ?_
      rintro e w3 ⟨rfl, hb3⟩
      have HB3 := Sp.hid (HB2.out.trans (hb3.mono HB2.out.size))
      obtain ⟨c3, l3⟩ := HCELL.out _ HB3.out
      clear hb3 c2 l2
      cases bn
      · go_wp2_with fail
        refine (HCW.out _ (HBT.out _ HB3.out)).mono ?_
        rintro e w4 ⟨rfl, hb4⟩
        have HB4 := Sp.hid (HB3.out.trans (hb4.mono HB3.out.size))
        clear hb4 c3 l3
        cases bw
        · go_wp2
          go_ret
          exact ⟨by rw [HV.out]; rfl, HBT.out _ HB4.out⟩
        · go_wp2
          go_ret
          exact ⟨by rw [HV.out]; rfl, HBT.out _ HB4.out⟩
      · go_wp2
        go_ret
        exact ⟨by rw [HV.out]; rfl, HBT.out _ HB3.out⟩
  · go_wp2
    go_ret
    exact ⟨by rw [HV.out]; rfl, HBT.out _ HB1.out⟩

end Go.Proofs.YtoknglpfchjbjaaGreatDoor
