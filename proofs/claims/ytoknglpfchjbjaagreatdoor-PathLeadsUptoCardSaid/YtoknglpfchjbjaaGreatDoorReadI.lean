/- path.Parse. Conditions: the table of spans as laid. -/
import Derived.Test.YtoknglpfchjbjaaGreatDoorReadZ
import Derived.Test.YtoknglpfchjbjaaGreatDoorPathCheckB
namespace Go.Proofs.YtoknglpfchjbjaaGreatDoor
open Go.RowKit Go.Sp Go.Maps

def ParsePost (s : ByteArray) (w : World) (e : Ending) (w' : World) : Prop := Below w.heap.size w w' ∧
  ((∃ l a c, parseM s = .ok l ∧ l.length ≤ 65536 ∧ e = .returned (.tuple #[.agg #[.slice a l.length c], .int .i64 0]) ∧ l.length ≤ c ∧ Sl pstepS (fun b => w.heap.size ≤ b ∧ b < w'.heap.size) w' a l) ∨
   (∃ er, parseM s = .error er ∧ er ≠ 0 ∧ e = .returned (.tuple #[.agg #[.slice none 0 0], .int .i64 er])))

theorem parseM_long {s : ByteArray} (h : 65536 < s.size) : parseM s = .error 17 := by unfold parseM; rw [if_pos h]
theorem parseM_none {s : ByteArray} (h : ¬ 65536 < s.size) (h2 : (if s.data.toList = [46] then some [] else stepsL (s.size + 1) s.data.toList) = none) : parseM s = .error 12 := by
  unfold parseM; rw [if_neg h, h2]
theorem parseM_some {s : ByteArray} {l : List StepM} (h : ¬ 65536 < s.size) (h2 : (if s.data.toList = [46] then some [] else stepsL (s.size + 1) s.data.toList) = some l) : parseM s = if pcheckM l = 0 then .ok l else .error (pcheckM l) := by
  unfold parseM; rw [if_neg h, h2]
theorem stepsA_all (s : ByteArray) : stepsA (restB s 0) = stepsL (s.size + 1) s.data.toList := by
  unfold stepsA restB; rw [List.drop_zero]; congr 1


set_option maxRecDepth 100000 in
set_option maxHeartbeats 1500000 in
theorem parse_any (s : ByteArray) (w : World) (hsp : SpansAt w) : Calls Tryz.prog 19 #[.string s] w (ParsePost s w) := by
  by_cases hl : 65536 < s.size
  · have hl' : ((65536 : Int) < (s.size : Int)) := by omega
    have HP := Sp.hid (parseM_long hl)
    go_enter Tryz.func19, Tryz.ntmps19
    go_wp2
    refine bodyPost_ret (v := .tuple #[.agg #[.slice none 0 0], .int .i64 17]) (by simp [results, Tryz.f19, go_sem]) rfl ?_
    exact ⟨(Below.refl _ _).alloc (Nat.le_refl _) _, .inr ⟨17, HP.out, by decide, rfl⟩⟩
  have hl' : ¬ ((65536 : Int) < (s.size : Int)) := by omega
  obtain ⟨w1, hw1⟩ : ∃ w1, w1 = (w.alloc (.cells #[.slice none 0 0] 25)).alloc (.cells #[.slice none 0 0] 25) := ⟨_, rfl⟩
  have hs1 : w1.heap.size = w.heap.size + 2 := by rw [hw1]; simp
  have hb1 : Below w.heap.size w w1 := by rw [hw1]; exact ((Below.refl _ _).alloc (Nat.le_refl _) _).alloc (by simp) _
  have ht1 : w1.heap[w.heap.size]? = some (.cells #[.slice none 0 0] 25 (0, 0)) := by rw [hw1]; exact (Below.heap_alloc _ _ _ (by simp)).trans (World.alloc_heap_new w _)
  have hq1 : w1.heap[w.heap.size + 1]? = some (.cells #[.slice none 0 0] 25 (0, 0)) := by
    rw [hw1]; have := World.alloc_heap_new (w.alloc (.cells #[.slice none 0 0] 25)) (.cells #[.slice none 0 0] 25); simpa using this
  by_cases hd : s.data.toList = [46]
  · have hd' : (s.toList == [46]) = true := by rw [Lib.toList_data]; simpa using hd
    have hd2 : (s.toList != [46]) = false := by rw [bne, hd']; rfl
    have HPM := Sp.hid (parseM_some (l := []) hl (by rw [if_pos hd]))
    have hsl : Sl pstepS (fun b => w.heap.size + 1 ≤ b ∧ b < w1.heap.size) w1 none [] := Sl.nil
    have hck : Calls Tryz.prog 23 #[.agg #[.slice none 0 0]] w1 fun e w' => e = .returned (.int .i64 (pcheckM [])) ∧ Below w1.heap.size w1 w' := pathCheck_any (fun b => w.heap.size + 1 ≤ b ∧ b < w1.heap.size) none 0 [] w1 hsl (fun k h => h.2) (by decide) (hsp.below hb1 (Nat.le_refl _))
    have HCK := Sp.hid hck
    have HSL := Sp.hid hsl
    have HWP := Sp.hid hw1
    have HBP := Sp.hid hb1
    have HTP := Sp.hid ht1
    have HDP := Sp.hid hq1
    have HLC := Sp.hid (show ([] : List StepM).length ≤ 0 from Nat.le_refl _)
    have HL6 := Sp.hid (show ([] : List StepM).length ≤ 65536 by decide)
    have hWw : w.heap.size ≤ w1.heap.size := by omega
    have hDl4 : w.heap.size + 1 < w1.heap.size := by omega
    have hDl2 : w.heap.size < w1.heap.size := by omega
    clear hw1 hb1 ht1 hq1 hsl hck hs1 hd
    go_enter Tryz.func19, Tryz.ntmps19
    obtain ⟨cp, hcp⟩ : ∃ cp, cp = pcheckM [] := ⟨_, rfl⟩
    rw [← hcp] at HCK
    have HCP := Sp.hid hcp
    clear hcp
    go_wp2_with fail
    rw [← HWP.out]
    refine HCK.out.mono ?_
    rintro e w5 ⟨rfl, hb5⟩
    have hq5 := (hb5.block _ hDl4).trans HDP.out
    have ht5 := (hb5.block _ hDl2).trans HTP.out
    have c0 := cell_at hq5 0
    have t0 := cell_at ht5 0
    have ft := frozen_not ht5
    have HB5 := Sp.hid (HBP.out.trans (hb5.mono hWw))
    have hs5 := hb5.size
    have hT5 : ∀ (v : Value), Below w.heap.size w (w5.setCell ⟨w.heap.size, 0, none⟩ v) ∧ (w5.setCell ⟨w.heap.size, 0, none⟩ v).heap[w.heap.size]? = some (.cells #[v] 25 (0, 0)) := fun v => by
      refine ⟨HB5.out.setCell (Nat.le_refl _) _, ?_⟩
      have := Joins.block_setCell ht5 v (i := 0)
      simpa using this
    have HT5 := Sp.hid hT5
    have HSL5 := Sp.hid ((HSL.out.frame fun b hb => hb5.block b hb.2).mono (G := fun b => w.heap.size + 1 ≤ b ∧ b < w5.heap.size) fun b hb => ⟨hb.1, by have := hb.2; omega⟩)
    clear hb5 hq5 ht5 hT5
    by_cases h0 : cp = 0
    · have h0' : (cp != 0) = false := by simpa using h0
      have HOK := Sp.hid (show parseM s = .ok [] by rw [HPM.out, ← HCP.out, if_pos h0])
      clear h0
      go_wp2
      obtain ⟨s1, s2⟩ := HT5.out (.slice none 0 0)
      have z0 := cell_at s2 0
      refine bodyPost_ret (v := .tuple #[.agg #[.slice none 0 0], .int .i64 0]) (by simp [results, Tryz.f19, go_sem, z0]) rfl ?_
      refine ⟨s1, .inl ⟨[], none, 0, HOK.out, HL6.out, rfl, HLC.out, ?_⟩⟩
      exact (HSL5.out.frame fun b hb => heap_setCell_other w5 ⟨w.heap.size, 0, none⟩ b _ (fun e => by have := hb.1; simp at e; omega)).mono fun b hb => ⟨by have := hb.1; omega, by simpa using hb.2⟩
    · have h0' : (cp != 0) = true := by simpa using h0
      have HOK := Sp.hid (show parseM s = .error cp by rw [HPM.out, ← HCP.out, if_neg h0])
      have H0 := Sp.hid h0
      clear h0
      go_wp2
      obtain ⟨s1, s2⟩ := HT5.out (.slice none 0 0)
      have z0 := cell_at s2 0
      refine bodyPost_ret (v := .tuple #[.agg #[.slice none 0 0], .int .i64 cp]) (by simp [results, Tryz.f19, go_sem, z0]) rfl ?_
      exact ⟨s1, .inr ⟨cp, HOK.out, H0.out, rfl⟩⟩
  · have hd' : (s.toList == [46]) = false := by rw [Lib.toList_data]; simpa using hd
    have hd2 : (s.toList != [46]) = true := by rw [bne, hd']; rfl
    obtain ⟨w3, hw3⟩ : ∃ w3, w3 = w1.alloc (.cells #[.string s, .int .i64 0] 97) := ⟨_, rfl⟩
    have hs3 : w3.heap.size = w.heap.size + 3 := by rw [hw3]; simp; omega
    have hb3 : Below w1.heap.size w1 w3 := by rw [hw3]; exact (Below.refl _ _).alloc (Nat.le_refl _) _
    have hr3 : RdAt w1.heap.size s 0 w3 := by rw [hw3]; exact World.alloc_heap_new _ _
    have ht3 := (hb3.block _ (by omega)).trans ht1
    have hq3 := (hb3.block _ (by omega)).trans hq1
    have HST := Sp.hid (rdSteps_any w1.heap.size s 0 w3 hr3 (by omega) (Nat.zero_le _))
    have hsp3 := hsp.below (hb1.trans (hb3.mono (by omega))) (Nat.le_refl _)
    have HB3 := Sp.hid (hb1.trans (hb3.mono (by omega)))
    have HT3 := Sp.hid ht3
    have HQ3 := Sp.hid hq3
    have HW3 := Sp.hid (show w3 = ((w.alloc (.cells #[.slice none 0 0] 25)).alloc (.cells #[.slice none 0 0] 25)).alloc (.cells #[.string s, .int .i64 0] 97) by rw [hw3, hw1])
    have HD := Sp.hid hd
    rw [hs1] at HST
    clear hw3 hb3 hr3 ht3 hq3 hw1 hb1 ht1 hq1 hd
    go_enter Tryz.func19, Tryz.ntmps19
    go_wp2_with fail
    rw [← HW3.out]
    refine HST.out.mono ?_
    rintro e w4 ⟨g4, ⟨l, la, lc, hst, hl6, rfl, hlc, hsl⟩ | ⟨hst, rfl⟩⟩
    · obtain ⟨wp, hwp⟩ : ∃ wp, wp = w4.setCell ⟨w.heap.size + 1, 0, none⟩ (.slice la l.length lc) := ⟨_, rfl⟩
      have hs4 := g4.size
      have hq4 := grown_keep g4 HQ3.out (by omega)
      have ht4 := grown_keep g4 HT3.out (by omega)
      have hb4 : Below w.heap.size w w4 := HB3.out.trans ⟨g4.os, g4.tape, g4.output, g4.size, fun k hk => g4.block k (by omega) (fun e => by cases e; omega)⟩
      have q0 := cell_at hq4 0
      have fq := frozen_not hq4
      have hgs : w4.grownBy wp (some (w.heap.size + 1)) := by rw [hwp]; exact set_grown _ _ _ _
      have HDP := Sp.hid (show wp.heap[w.heap.size + 1]? = some (.cells #[.slice la l.length lc] 25 (0, 0)) by
        rw [hwp]; have := Joins.block_setCell hq4 (.slice la l.length lc) (i := 0); simpa using this)
      have HTP := Sp.hid (grown_keep hgs ht4 (by omega))
      have hbp : Below w.heap.size w wp := by rw [hwp]; exact hb4.setCell (by show w.heap.size ≤ w.heap.size + 1; omega) _
      have hwps : wp.heap.size = w4.heap.size := by rw [hwp]; simp
      have hslp : Sl pstepS (fun b => w.heap.size + 1 ≤ b ∧ b < wp.heap.size) wp la l :=
        (hsl.frame fun b hb => hgs.block b hb.2 (fun e => by have := hb.1; cases e; omega)).mono fun b hb => ⟨by have := hb.1; omega, by have := hb.2; omega⟩
      have HCK := Sp.hid (pathCheck_any (fun b => w.heap.size + 1 ≤ b ∧ b < wp.heap.size) la lc l wp hslp (fun k h => h.2) (by omega) (hsp.below hbp (Nat.le_refl _)))
      have HPM := Sp.hid (parseM_some (l := l) hl (by rw [if_neg HD.out, ← stepsA_all, hst]))
      have HSL := Sp.hid hslp
      have HBP := Sp.hid hbp
      have HWP := Sp.hid hwp
      have HLC := Sp.hid hlc
      have HL6 := Sp.hid hl6
      have hWw : w.heap.size ≤ wp.heap.size := by omega
      have hDl4 : w.heap.size + 1 < wp.heap.size := by omega
      have hDl2 : w.heap.size < wp.heap.size := by omega
      clear hwp hq4 ht4 hb4 hgs hbp hslp hsl hst g4 hlc hl6 hwps
      obtain ⟨cp, hcp⟩ : ∃ cp, cp = pcheckM l := ⟨_, rfl⟩
      rw [← hcp] at HCK
      have HCP := Sp.hid hcp
      clear hcp
      go_wp2_with fail
      rw [← HWP.out]
      refine HCK.out.mono ?_
      rintro e w5 ⟨rfl, hb5⟩
      have hq5 := (hb5.block _ hDl4).trans HDP.out
      have ht5 := (hb5.block _ hDl2).trans HTP.out
      have c0 := cell_at hq5 0
      have t0 := cell_at ht5 0
      have ft := frozen_not ht5
      have HB5 := Sp.hid (HBP.out.trans (hb5.mono hWw))
      have hs5 := hb5.size
      have hT5 : ∀ (v : Value), Below w.heap.size w (w5.setCell ⟨w.heap.size, 0, none⟩ v) ∧ (w5.setCell ⟨w.heap.size, 0, none⟩ v).heap[w.heap.size]? = some (.cells #[v] 25 (0, 0)) := fun v => by
        refine ⟨HB5.out.setCell (Nat.le_refl _) _, ?_⟩
        have := Joins.block_setCell ht5 v (i := 0)
        simpa using this
      have HT5 := Sp.hid hT5
      have HSL5 := Sp.hid ((HSL.out.frame fun b hb => hb5.block b hb.2).mono (G := fun b => w.heap.size + 1 ≤ b ∧ b < w5.heap.size) fun b hb => ⟨hb.1, by have := hb.2; omega⟩)
      clear hb5 hq5 ht5 hT5
      by_cases h0 : cp = 0
      · have h0' : (cp != 0) = false := by simpa using h0
        have HOK := Sp.hid (show parseM s = .ok l by rw [HPM.out, ← HCP.out, if_pos h0])
        clear h0
        go_wp2
        obtain ⟨s1, s2⟩ := HT5.out (.slice la l.length lc)
        have z0 := cell_at s2 0
        refine bodyPost_ret (v := .tuple #[.agg #[.slice la l.length lc], .int .i64 0]) (by simp [results, Tryz.f19, go_sem, z0]) rfl ?_
        refine ⟨s1, .inl ⟨l, la, lc, HOK.out, HL6.out, rfl, HLC.out, ?_⟩⟩
        exact (HSL5.out.frame fun b hb => heap_setCell_other w5 ⟨w.heap.size, 0, none⟩ b _ (fun e => by have := hb.1; simp at e; omega)).mono fun b hb => ⟨by have := hb.1; omega, by simpa using hb.2⟩
      · have h0' : (cp != 0) = true := by simpa using h0
        have HOK := Sp.hid (show parseM s = .error cp by rw [HPM.out, ← HCP.out, if_neg h0])
        have H0 := Sp.hid h0
        clear h0
        go_wp2
        obtain ⟨s1, s2⟩ := HT5.out (.slice none 0 0)
        have z0 := cell_at s2 0
        refine bodyPost_ret (v := .tuple #[.agg #[.slice none 0 0], .int .i64 cp]) (by simp [results, Tryz.f19, go_sem, z0]) rfl ?_
        exact ⟨s1, .inr ⟨cp, HOK.out, H0.out, rfl⟩⟩
    · have HN := Sp.hid (parseM_none hl (by rw [if_neg HD.out, ← stepsA_all, hst]))
      have ht4 := grown_keep g4 HT3.out (by omega)
      have t0 := cell_at ht4 0
      have ft := frozen_not ht4
      have hb4 : Below w.heap.size w w4 := HB3.out.trans ⟨g4.os, g4.tape, g4.output, g4.size, fun k hk => g4.block k (by omega) (fun e => by cases e; omega)⟩
      have HB4 := Sp.hid hb4
      have HT4 := Sp.hid ht4
      clear g4 hst ht4 hb4
      go_wp2
      have s2 := Joins.block_setCell HT4.out (.slice none 0 0) (i := 0)
      have z0 := cell_at (vs := #[.slice none 0 0]) (by simpa using s2) 0
      refine bodyPost_ret (v := .tuple #[.agg #[.slice none 0 0], .int .i64 12]) (by simp [results, Tryz.f19, go_sem, z0]) rfl ?_
      exact ⟨HB4.out.setCell (Nat.le_refl _) _, .inr ⟨12, HN.out, by decide, rfl⟩⟩

end Go.Proofs.YtoknglpfchjbjaaGreatDoor
