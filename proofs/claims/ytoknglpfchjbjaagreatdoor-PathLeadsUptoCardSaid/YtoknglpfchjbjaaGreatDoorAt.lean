/- tree.At: the node at a path. Conditions: none. -/
import Derived.Test.YtoknglpfchjbjaaGreatDoorSelect
namespace Go.Proofs.YtoknglpfchjbjaaGreatDoor
open Go.RowKit Go.Sp Go.Maps

/-- The node at a path. -/
def atM : List Int → TT → Option TT
  | [], T => some T
  | i :: r, T => if i < 0 then none else (T.kids[i.toNat]?).bind (atM r)
theorem atM_append : ∀ (l r : List Int) (T : TT), atM (l ++ r) T = (atM l T).bind (atM r)
  | [], r, T => rfl
  | i :: l, r, T => by
    simp only [List.cons_append, atM]
    split
    · rfl
    · cases T.kids[i.toNat]? with
      | none => rfl
      | some t => exact atM_append l r t
theorem atM_snoc (l : List Int) (i : Int) (T : TT) : atM (l ++ [i]) T = (atM l T).bind fun t => if i < 0 then none else t.kids[i.toNat]? := by
  rw [atM_append]
  congr 1
  funext t
  simp only [atM]
  split
  · rfl
  · cases t.kids[i.toNat]? <;> rfl

abbrev z4a' : Array Value := #[.string ⟨#[]⟩, .string ⟨#[]⟩, .slice none 0 0, .slice none 0 0]
def AtPost (n₀ n : Nat) (w : World) (r : Option TT) (e : Ending) (w' : World) : Prop :=
  Below w.heap.size w w' ∧ match r with
    | none => e = .returned (.tuple #[.agg z4a', .int .i64 16])
    | some T' => ∃ vs', e = .returned (.tuple #[.agg vs', .int .i64 0]) ∧ NodeAt n₀ n w' vs' T'

set_option maxRecDepth 100000 in
set_option maxHeartbeats 8000000 in
theorem at_any (n₀ n : Nat) (vs : Array Value) (T : TT) (F : Nat → Prop) (ats : List Int) (a : Option Addr) (c : Nat) (w : World) (h : NodeAt n₀ n w vs T) (hn₀ : n₀ ≤ w.heap.size) (hats : Sl (Shape.int .i64) F w a ats) (hF : ∀ k, F k → k < w.heap.size) (hl : ats.length ≤ 100000) :
    Calls Tryz.prog 25 #[.agg vs, .slice a ats.length c] w (AtPost n₀ n w (atM ats T)) := by
  have HT := Sp.hid h
  have HATS := Sp.hid hats
  have HF := Sp.hid hF
  obtain ⟨aa, ca, ka, ck, rfl, hrep⟩ := h
  have HREP := Sp.hid hrep
  obtain ⟨w1, hw1⟩ : ∃ w1, w1 = (w.alloc (.cells #[.string T.label, .string T.text, .slice aa T.attrs.length ca, .slice ka T.kids.length ck] 29)).alloc (.cells z4a' 29) := ⟨_, rfl⟩
  have hs1 : w.heap.size + 2 ≤ w1.heap.size := by rw [hw1]; simp
  have hb1 : Below w.heap.size w w1 := by rw [hw1]; exact ((Below.refl _ _).alloc (Nat.le_refl _) _).alloc (by simp) _
  have ht1 : w1.heap[w.heap.size]? = some (.cells #[.string T.label, .string T.text, .slice aa T.attrs.length ca, .slice ka T.kids.length ck] 29 (0, 0)) := by
    rw [hw1]; exact (Below.heap_alloc _ _ _ (by simp)).trans (World.alloc_heap_new w _)
  have hp1 : w1.heap[w.heap.size + 1]? = some (.cells z4a' 29 (0, 0)) := by
    rw [hw1]; have := World.alloc_heap_new (w.alloc (.cells #[.string T.label, .string T.text, .slice aa T.attrs.length ca, .slice ka T.kids.length ck] 29)) (.cells z4a' 29); simpa using this
  have HW1 := Sp.hid hw1
  have HB1 := Sp.hid hb1
  have HT1 := Sp.hid ht1
  have HP1 := Sp.hid hp1
  clear hrep hats hF hw1 hb1 ht1 hp1
  go_enter Tryz.func25, Tryz.ntmps25
  go_wp2
  rw [← HW1.out]
  go_loopw [10] (fun i wr => ∃ (k : Nat) (T' : TT) (aa ka : Option Addr) (ca ck : Nat), k ≤ ats.length ∧ i = .int .i64 k ∧ atM (ats.take k) T = some T' ∧ (treeS n).rep (· < n₀) w [.string T'.label, .string T'.text, .slice aa T'.attrs.length ca, .slice ka T'.kids.length ck] T' ∧ Below w.heap.size w wr ∧
    wr.heap[w.heap.size]? = some (.cells #[.string T'.label, .string T'.text, .slice aa T'.attrs.length ca, .slice ka T'.kids.length ck] 29 (0, 0)) ∧ wr.heap[w.heap.size + 1]? = some (.cells z4a' 29 (0, 0))) (fun i _ => ats.length - (intOf i).toNat)
  case atStart => exact ⟨0, T, aa, ka, ca, ck, Nat.zero_le _, rfl, rfl, HREP.out, HB1.out, HT1.out, HP1.out⟩
  case round =>
    obtain ⟨k, T', aa', ka', ca', ck', hk, rfl, hatk, hrk, hb, ht, hz⟩ := hrel
    have hs := hb.size
    have hbt := (Array.getElem?_eq_some_iff.1 ht).1
    have hbz := (Array.getElem?_eq_some_iff.1 hz).1
    have b0 : wr.cell? ⟨w.heap.size, 0, none⟩ = some (.string T'.label) := cell_at ht 0
    have b1 : wr.cell? ⟨w.heap.size, 1, none⟩ = some (.string T'.text) := cell_at ht 1
    have b2 : wr.cell? ⟨w.heap.size, 2, none⟩ = some (.slice aa' T'.attrs.length ca') := cell_at ht 2
    have b3 : wr.cell? ⟨w.heap.size, 3, none⟩ = some (.slice ka' T'.kids.length ck') := cell_at ht 3
    have f0 : ∀ j, wr.frozen? ⟨w.heap.size, j, none⟩ = false := fun j => by simp [World.frozen?, ht]
    have y0 : wr.cell? ⟨w.heap.size + 1, 0, none⟩ = some (.string ⟨#[]⟩) := cell_at hz 0
    have y1 : wr.cell? ⟨w.heap.size + 1, 1, none⟩ = some (.string ⟨#[]⟩) := cell_at hz 1
    have y2 : wr.cell? ⟨w.heap.size + 1, 2, none⟩ = some (.slice none 0 0) := cell_at hz 2
    have y3 : wr.cell? ⟨w.heap.size + 1, 3, none⟩ = some (.slice none 0 0) := cell_at hz 3
    have g0 : ∀ j, wr.frozen? ⟨w.heap.size + 1, j, none⟩ = false := fun j => by simp [World.frozen?, hz]
    have HB := Sp.hid hb
    have HT' := Sp.hid ht
    have HZ := Sp.hid hz
    have HRK := Sp.hid hrk
    have HATK := Sp.hid hatk
    obtain ⟨wz, hwz⟩ : ∃ wz, wz = ((((wr.setCell ⟨w.heap.size + 1, 0, none⟩ (.string ⟨#[]⟩)).setCell ⟨w.heap.size + 1, 1, none⟩ (.string ⟨#[]⟩)).setCell ⟨w.heap.size + 1, 2, none⟩ (.slice none 0 0)).setCell ⟨w.heap.size + 1, 3, none⟩ (.slice none 0 0)) := ⟨_, rfl⟩
    have hzc : wz.heap[w.heap.size + 1]? = some (.cells z4a' 29 (0, 0)) := by
      rw [hwz]
      have := Joins.block_setCell (Joins.block_setCell (Joins.block_setCell (Joins.block_setCell hz (.string ⟨#[]⟩) (i := 0)) (.string ⟨#[]⟩) (i := 1)) (.slice none 0 0) (i := 2)) (.slice none 0 0) (i := 3)
      simpa using this
    have hzb : Below w.heap.size w wz := by rw [hwz]; exact (((hb.setCell (Nat.le_succ _) _).setCell (Nat.le_succ _) _).setCell (Nat.le_succ _) _).setCell (Nat.le_succ _) _
    have HZC := Sp.hid hzc
    have HZB := Sp.hid hzb
    have HWZ := Sp.hid hwz
    clear hzc hzb hwz
    by_cases hlt : k < ats.length
    · obtain ⟨ib, io, rfl, fib, hic⟩ := (HATS.out.below HF.out hb).int_cell k hlt
      have hibw := HF.out ib fib
      have hibr : ib < wr.heap.size := by omega
      have hsn := atM_snoc (ats.take k) ats[k] T
      rw [← List.take_succ_eq_append_getElem hlt, hatk, Option.bind_some] at hsn
      obtain ⟨x, hx⟩ : ∃ x, x = ats[k] := ⟨_, rfl⟩
      rw [← hx] at hic hsn
      have hfull : atM ats T = (atM (ats.take (k + 1)) T).bind (atM (ats.drop (k + 1))) := by rw [← atM_append, List.take_append_drop]
      clear hb ht hz hrk hatk hx
      by_cases hx0 : x < 0
      · rw [if_pos hx0] at hsn
        rw [hsn, Option.bind_none] at hfull
        have HFULL := Sp.hid hfull
        clear hfull hsn
        go_wp2
        rw [← HWZ.out]
        have z0 : wz.cell? ⟨w.heap.size + 1, 0, none⟩ = some (.string ⟨#[]⟩) := cell_at HZC.out 0
        have z1 : wz.cell? ⟨w.heap.size + 1, 1, none⟩ = some (.string ⟨#[]⟩) := cell_at HZC.out 1
        have z2 : wz.cell? ⟨w.heap.size + 1, 2, none⟩ = some (.slice none 0 0) := cell_at HZC.out 2
        have z3 : wz.cell? ⟨w.heap.size + 1, 3, none⟩ = some (.slice none 0 0) := cell_at HZC.out 3
        exact bodyPost_ret (v := .tuple #[.agg z4a', .int .i64 16]) (by simp [results, Tryz.f25, go_sem, z0, z1, z2, z3]) rfl (by rw [HFULL.out]; exact ⟨HZB.out, rfl⟩)
      rw [if_neg hx0] at hsn
      obtain ⟨j, rfl⟩ := Int.eq_ofNat_of_zero_le (Int.not_lt.1 hx0)
      rw [show ((j : Nat) : Int).toNat = j from rfl] at hsn
      by_cases hj : j < T'.kids.length
      rotate_left
      · rw [List.getElem?_eq_none (by omega)] at hsn
        rw [hsn, Option.bind_none] at hfull
        have HFULL := Sp.hid hfull
        have hjk : (T'.kids.length : Int) ≤ (j : Int) := by omega
        clear hfull hsn
        go_wp2
        rw [← HWZ.out]
        have z0 : wz.cell? ⟨w.heap.size + 1, 0, none⟩ = some (.string ⟨#[]⟩) := cell_at HZC.out 0
        have z1 : wz.cell? ⟨w.heap.size + 1, 1, none⟩ = some (.string ⟨#[]⟩) := cell_at HZC.out 1
        have z2 : wz.cell? ⟨w.heap.size + 1, 2, none⟩ = some (.slice none 0 0) := cell_at HZC.out 2
        have z3 : wz.cell? ⟨w.heap.size + 1, 3, none⟩ = some (.slice none 0 0) := cell_at HZC.out 3
        exact bodyPost_ret (v := .tuple #[.agg z4a', .int .i64 16]) (by simp [results, Tryz.f25, go_sem, z0, z1, z2, z3]) rfl (by rw [HFULL.out]; exact ⟨HZB.out, rfl⟩)
      · cases n with
        | zero => exact HRK.out.elim
        | succ n =>
        obtain ⟨⟨_, _, _, hkl⟩, aa2, ca2, ka2, ck2, hvs, _, hkd⟩ := tree_open HRK.out
        simp only [List.cons.injEq, Value.slice.injEq, true_and, and_true] at hvs
        obtain ⟨⟨rfl, rfl⟩, rfl, rfl⟩ := hvs
        obtain ⟨kb, ko, aa1, ca1, ka1, ck1, rfl, fkb, hkr, k0, k1, k2, k3⟩ := tree_cells (hkd.frame (fun b hb' => HB.out.block b (by omega))) j hj
        have hkbr : kb < wr.heap.size := by omega
        have hkbw : kb ≠ w.heap.size := by omega
        rw [List.getElem?_eq_getElem hj] at hsn
        have hkr2 : (treeS n).rep (· < n₀) w [.string T'.kids[j].label, .string T'.kids[j].text, .slice aa1 T'.kids[j].attrs.length ca1, .slice ka1 T'.kids[j].kids.length ck1] T'.kids[j] := (treeS n).frame hkr (fun b hb' => (HB.out.block b (by omega)).symm)
        obtain ⟨kid, hkid⟩ : ∃ kid, kid = T'.kids[j] := ⟨_, rfl⟩
        rw [← hkid] at k0 k1 k2 k3 hsn hkr2
        have hkl' : T'.kids.length ≤ 9223372036854775807 := hkl
        have hjk : ¬ (T'.kids.length : Int) ≤ (j : Int) := by omega
        have HSN := Sp.hid hsn
        have HKR := Sp.hid (treeS_up hkr2)
        obtain ⟨wk, hwk⟩ : ∃ wk, wk = ((((wr.setCell ⟨w.heap.size, 0, none⟩ (.string kid.label)).setCell ⟨w.heap.size, 1, none⟩ (.string kid.text)).setCell ⟨w.heap.size, 2, none⟩ (.slice aa1 kid.attrs.length ca1)).setCell ⟨w.heap.size, 3, none⟩ (.slice ka1 kid.kids.length ck1)) := ⟨_, rfl⟩
        have hkc : wk.heap[w.heap.size]? = some (.cells #[.string kid.label, .string kid.text, .slice aa1 kid.attrs.length ca1, .slice ka1 kid.kids.length ck1] 29 (0, 0)) := by
          rw [hwk]
          have := Joins.block_setCell (Joins.block_setCell (Joins.block_setCell (Joins.block_setCell HT'.out (.string kid.label) (i := 0)) (.string kid.text) (i := 1)) (.slice aa1 kid.attrs.length ca1) (i := 2)) (.slice ka1 kid.kids.length ck1) (i := 3)
          simpa using this
        have hkbel : Below w.heap.size w wk := by rw [hwk]; exact (((HB.out.setCell (Nat.le_refl _) _).setCell (Nat.le_refl _) _).setCell (Nat.le_refl _) _).setCell (Nat.le_refl _) _
        have hkz : wk.heap[w.heap.size + 1]? = some (.cells z4a' 29 (0, 0)) := by
          rw [hwk, heap_setCell_other _ _ _ _ (by simp), heap_setCell_other _ _ _ _ (by simp), heap_setCell_other _ _ _ _ (by simp), heap_setCell_other _ _ _ _ (by simp)]
          exact HZ.out
        have HKC := Sp.hid hkc
        have HKB := Sp.hid hkbel
        have HKZ := Sp.hid hkz
        have HWK := Sp.hid hwk
        clear hsn hfull hkd hkr hkr2 hkid hkc hkbel hkz hwk
        go_wp2
        rw [← HWK.out]
        go_roundw
        case rel => exact ⟨k + 1, kid, aa1, ka1, ca1, ck1, by omega, by go_num, HSN.out, HKR.out, HKB.out, HKC.out, HKZ.out⟩
        case measure => simp [intOf]; omega
    · obtain rfl : k = ats.length := by omega
      rw [List.take_length] at hatk
      obtain ⟨wf, hwf⟩ : ∃ wf, wf = ((((wr.setCell ⟨w.heap.size + 1, 0, none⟩ (.string T'.label)).setCell ⟨w.heap.size + 1, 1, none⟩ (.string T'.text)).setCell ⟨w.heap.size + 1, 2, none⟩ (.slice aa' T'.attrs.length ca')).setCell ⟨w.heap.size + 1, 3, none⟩ (.slice ka' T'.kids.length ck')) := ⟨_, rfl⟩
      have hfc : wf.heap[w.heap.size + 1]? = some (.cells #[.string T'.label, .string T'.text, .slice aa' T'.attrs.length ca', .slice ka' T'.kids.length ck'] 29 (0, 0)) := by
        rw [hwf]
        have := Joins.block_setCell (Joins.block_setCell (Joins.block_setCell (Joins.block_setCell HZ.out (.string T'.label) (i := 0)) (.string T'.text) (i := 1)) (.slice aa' T'.attrs.length ca') (i := 2)) (.slice ka' T'.kids.length ck') (i := 3)
        simpa using this
      have hfb : Below w.heap.size w wf := by rw [hwf]; exact (((HB.out.setCell (Nat.le_succ _) _).setCell (Nat.le_succ _) _).setCell (Nat.le_succ _) _).setCell (Nat.le_succ _) _
      have HFC := Sp.hid hfc
      have HFB := Sp.hid hfb
      have HWF := Sp.hid hwf
      have HATK2 := Sp.hid hatk
      clear hb ht hz hrk hatk hfc hfb hwf
      go_wp2
      rw [← HWF.out]
      have z0 : wf.cell? ⟨w.heap.size + 1, 0, none⟩ = some (.string T'.label) := cell_at HFC.out 0
      have z1 : wf.cell? ⟨w.heap.size + 1, 1, none⟩ = some (.string T'.text) := cell_at HFC.out 1
      have z2 : wf.cell? ⟨w.heap.size + 1, 2, none⟩ = some (.slice aa' T'.attrs.length ca') := cell_at HFC.out 2
      have z3 : wf.cell? ⟨w.heap.size + 1, 3, none⟩ = some (.slice ka' T'.kids.length ck') := cell_at HFC.out 3
      refine bodyPost_ret (v := .tuple #[.agg #[.string T'.label, .string T'.text, .slice aa' T'.attrs.length ca', .slice ka' T'.kids.length ck'], .int .i64 0]) (by simp [results, Tryz.f25, go_sem, z0, z1, z2, z3]) rfl ?_
      rw [HATK2.out]
      exact ⟨HFB.out, _, rfl, _, _, _, _, rfl, (treeS n).frame HRK.out (fun b hb' => HFB.out.block b (by omega))⟩

end Go.Proofs.YtoknglpfchjbjaaGreatDoor
