/- UtfBack returns true: its walk. Conditions: the arguments read as numbers and bytes; the table of spans as laid. -/
import Derived.Test.YtbhdkionphemdaaDoorUtfIter
namespace Go.Proofs.YtbhdkionphemdaaDoor
open Go.RowKit Go.Sp Go.Shelf Go.Maps

attribute [local go_sem] Oper.semAt_some

theorem funcNil (B : Nat) (W : World) : (binOp .eql 38 (.func (.func 21) #[] #[.pointer (some ⟨B, 0, none⟩)]) .nilFunc).run Tryd.prog W = .ok (.bool false) W := by kernel_rfl

theorem infoI32 : (Tryd.prog.info? 21).map (fun i => (i.zero, i.size, i.bytes)) = some (some (.int .i32 0), 1, 4) := by kernel_rfl

theorem places_vals : ∀ {rs : List Int} (p : Nat), rs.all isChar = true → (places p rs).map (fun x => Value.int .i32 (norm x.2)) = rs.map (Value.int .i32)
  | [], _, _ => rfl
  | r :: rs, p, h => by
    simp only [List.all_cons, Bool.and_eq_true] at h
    rw [places, List.map_cons, places_vals _ h.2, List.map_cons, norm_char h.1]

set_option maxRecDepth 100000 in
set_option maxHeartbeats 8000000 in
theorem back_walk (a0 a1 : Option Addr) (c0 c1 : Nat) (ls bs : List Int) (w : World) (h0 : Sl (Shape.int .i32) (· < w.heap.size) w a0 ls) (h1 : Sl (Shape.int .u8) (· < w.heap.size) w a1 bs)
    (b0 : ∀ x ∈ ls, -2147483648 ≤ x ∧ x ≤ 2147483647) (b1 : ∀ x ∈ bs, 0 ≤ x ∧ x ≤ 255) (k0 : ls.length ≤ c0) (k1 : bs.length ≤ c1) (n0 : a0 = none → c0 = 0) (n1 : a1 = none → c1 = 0)
    (hl0 : ls.length ≤ 9223372036854775807) (hl1 : bs.length ≤ 9223372036854775807) (hsp : SpansAt w) :
    Calls Tryd.prog 6 #[.slice a0 ls.length c0, .slice a1 bs.length c1] w (IsBool true w) := by
  have H0 := Sp.hid h0
  have H1 := Sp.hid h1
  have HSP := Sp.hid hsp
  have B0 := Sp.hid b0
  have B1 := Sp.hid b1
  have N0 := Sp.hid n0
  have N1 := Sp.hid n1
  clear h0 h1 b0 b1 n0 n1 hsp
  refine (callsIn_wide (n := 3)).1 ?_
  refine callsIn_of_wp_marks Tryd.func6 rfl trivial ?_ rfl
  simp only [Tryd.ntmps6, List.size_toArray, List.length_cons, List.length_nil, Nat.reduceAdd, Nat.reduceSub, Array.replicate_succ, Array.replicate_zero, List.push_toArray, List.append_toArray, List.nil_append, List.cons_append]
  -- the world with the argument's and the result's boxes
  obtain ⟨w0, hw0⟩ : ∃ w0, w0 = (w.alloc (.cells #[.slice a0 ls.length c0] 22)).alloc (.cells #[.bool false] 4) := ⟨_, rfl⟩
  have hb0 : Below w.heap.size w w0 := by rw [hw0]; exact ((Below.refl _ _).alloc (Nat.le_refl _) _).alloc (by simp) _
  have hsz0 : w0.heap.size = w.heap.size + 2 := by rw [hw0]; simp
  have bL0 : Boxed w0 w.heap.size 22 (.slice a0 ls.length c0) := by rw [hw0]; exact (Boxed.new w _ _).alloc _
  have bR0 : Boxed w0 (w.heap.size + 1) 4 (.bool false) := by
    have := Boxed.new (w.alloc (.cells #[.slice a0 ls.length c0] 22)) 4 (.bool false)
    rw [World.size_alloc] at this
    rw [hw0]; exact this
  have HB0 := Sp.hid hb0
  have HSZ0 := Sp.hid hsz0
  have hle0 : w.heap.size + 2 ≤ w0.heap.size := by omega
  have BL0 := Sp.hid bL0
  have BR0 := Sp.hid bR0
  have HW0 := Sp.hid hw0
  clear hb0 hsz0 bL0 bR0 hw0
  by_cases hn4 : (100 : Int) < ls.length
  · gi_wp2_with (refine ⟨trivial, ?_⟩; gi_at_call 7; rw [← HW0.out]; refine (callsIn_wide.2 (awake_any _ (HSP.out.below HB0.out (Nat.le_refl _)))).mono ?_; rintro e w2 ⟨rfl, hb2⟩; have HB2 := Sp.hid hb2; have hbx : Boxed w2 (w.heap.size + 1) 4 (.bool false) := (hb2.block _ BR0.out.lt).trans BR0.out; have hc2 := hbx.cell; have hf2 := hbx.frozen; clear hb2)
    refine ⟨.bool true, ?_, rfl, ?_⟩
    · have hc5 := World.cell?_setCell_same' w2 ⟨w.heap.size + 1, 0, none⟩ (.bool true) (by rw [hc2]; rfl)
      simp [results, Tryd.f6, go_sem, hc5]
    · exact (HB0.out.trans (HB2.out.mono (by omega))).setCell (p := ⟨w.heap.size + 1, 0, none⟩) (Nat.le_succ _) _
  by_cases hm4 : (200 : Int) < bs.length
  · gi_wp2_with (refine ⟨trivial, ?_⟩; gi_at_call 7; rw [← HW0.out]; refine (callsIn_wide.2 (awake_any _ (HSP.out.below HB0.out (Nat.le_refl _)))).mono ?_; rintro e w2 ⟨rfl, hb2⟩; have HB2 := Sp.hid hb2; have hbx : Boxed w2 (w.heap.size + 1) 4 (.bool false) := (hb2.block _ BR0.out.lt).trans BR0.out; have hc2 := hbx.cell; have hf2 := hbx.frozen; clear hb2)
    refine ⟨.bool true, ?_, rfl, ?_⟩
    · have hc5 := World.cell?_setCell_same' w2 ⟨w.heap.size + 1, 0, none⟩ (.bool true) (by rw [hc2]; rfl)
      simp [results, Tryd.f6, go_sem, hc5]
    · exact (HB0.out.trans (HB2.out.mono (by omega))).setCell (p := ⟨w.heap.size + 1, 0, none⟩) (Nat.le_succ _) _
  have HE := Sp.hid (encode_any (· < w0.heap.size) a0 c0 ls w0 ((H0.out.below (fun _ h => h) HB0.out).mono (fun k hk => by omega)) (fun _ h => h) (by omega) (HSP.out.below HB0.out (Nat.le_refl _)))
  gi_wp2
  rw [← HW0.out]
  refine ⟨trivial, (callsIn_wide.2 HE.out).mono ?_⟩
  rintro e w1 ⟨hb1, hcase⟩
  have hs1 := hb1.size
  have hf1 := HB0.out.trans (hb1.mono (by omega))
  have BL1 : Hid (Boxed w1 w.heap.size 22 (.slice a0 ls.length c0)) := Sp.hid ((hb1.block _ BL0.out.lt).trans BL0.out)
  have BR1 : Hid (Boxed w1 (w.heap.size + 1) 4 (.bool false)) := Sp.hid ((hb1.block _ BR0.out.lt).trans BR0.out)
  have HF1 := Sp.hid hf1
  clear hb1 hf1 HE
  rcases hcase with ⟨hall, ca, cc, rfl, hcc, hcs, hcn⟩ | ⟨hall, rfl⟩
  · have HALL := Sp.hid hall
    obtain ⟨L, hL⟩ : ∃ L, L = (ls.flatMap encM).length := ⟨_, rfl⟩
    have hL4 : L ≤ 400 := by have := enc_len_le ls; rw [hL]; omega
    have hcL : L ≤ cc := by rw [hL]; exact hcc
    have hcb : ∀ x ∈ ls.flatMap encM, 0 ≤ x ∧ x ≤ 255 := fun x hx => by
      obtain ⟨y, hy, hxy⟩ := List.mem_flatMap.1 hx
      exact enc_bounds (List.all_eq_true.1 hall y hy) x hxy
    have hAc := all_any (· < w1.heap.size) ca cc (ls.flatMap encM) w1 (hcs.mono (fun k hk => hk.2)) (fun _ h => h) hcn hcb hcc (by omega) (HSP.out.below HF1.out (Nat.le_refl _))
    rw [← hL] at hAc ⊢
    have HAC := Sp.hid hAc
    have HL := Sp.hid hL
    have HCS := Sp.hid hcs
    have HCB := Sp.hid hcb
    clear hL hcc hcn hAc hcs hcb hall
    gi_wp2
    refine ⟨trivial, (callsIn_wide.2 HAC.out).mono ?_⟩
    rintro e w4 ⟨B4, K4, rs4, ta, tc, hch, hK, rfl, hB4, hB4', hBc, htc, hts, hb4⟩
    obtain ⟨hrs4, hK4⟩ := chars_uniq (chars_enc HALL.out) hch
    subst hrs4
    rw [← HL.out] at hK4
    subst hK4
    have hs4 := hb4.size
    have htx := hch.1.2.2
    rw [htx] at hts
    have hbc' : w4.cell? ⟨B4, 0, none⟩ = some (.slice ta (ls.flatMap encM).length tc) := by rw [← HL.out]; exact hBc
    have hf4 := HF1.out.trans (hb4.mono (by have := HF1.out.size; omega))
    have hgl : 0 < w4.heap.size := by have := World.block_lt_of_cell? w _ (HSP.out 0 (by decide)); have := HF1.out.size; show 0 < _; omega
    have hsp4 := HSP.out.below hf4 (Nat.le_refl _)
    have bL4 : Boxed w4 w.heap.size 22 (.slice a0 ls.length c0) := (hb4.block _ BL1.out.lt).trans BL1.out
    have bR4 : Boxed w4 (w.heap.size + 1) 4 (.bool false) := (hb4.block _ BR1.out.lt).trans BR1.out
    have hbr4 := bR4.lt
    have hls4 := (H0.out.below (fun _ h => h) hf4)
    have hcs4 := HCS.out.below (fun k hk => hk.2) hb4
    have HTS := Sp.hid hts
    have HBC := Sp.hid hbc'
    have HF4 := Sp.hid hf4
    have HS4 := Sp.hid hsp4
    have BL4 := Sp.hid bL4
    have BR4 := Sp.hid bR4
    have HLS4 := Sp.hid hls4
    have HCS4 := Sp.hid hcs4
    have hnf4 := funcNil B4
    clear hch htx hts hbc' hf4 hsp4 bL4 bR4 hBc hb4 hls4 hcs4 HAC
    gi_wp2
    have HBN := Sp.hid (Boxed.new w4 3 (.int .i64 0))
    have HBA := Sp.hid ((Below.refl w4.heap.size w4).alloc (Nat.le_refl _) (.cells #[.int .i64 0] 3))
    refine wpIn_rangeFunc_ownG rfl (by omega) (gf := 21) (lb := #[.pointer (some ⟨B4, 0, none⟩)]) rfl trivial (enters_of Tryd.func21 (by kernel_rfl) rfl)
      (all_stops 2 (by omega) B4 w4.heap.size ta tc ls _ (by simp) HALL.out (by rw [← HL.out]; omega) (by rw [← HL.out]; omega) hB4' ((HBA.out.cell (p := ⟨B4, 0, none⟩) hB4').trans HBC.out) ((HTS.out.below (fun k hk => hk.2) HBA.out).mono (fun k hk => hk.2)) (HS4.out.below HBA.out (Nat.le_refl _)) hgl)
      belowK_t (belowK_b (by simp)) (Below.refl _ _) (fun _ => rfl)
      (fun pre W => Boxed W w4.heap.size 3 (.int .i64 (pre.length : Nat)) ∧ Below w4.heap.size w4 W)
      (fun c pre _ => c = .ret ∧ ¬ ∃ k, k ≤ ls.length ∧ pre = (places 0 ls).take k)
      (OwnFrom.and ((boxed_own _ _ (fun (pre : List (Nat × Int)) => .int .i64 ((pre.length : Nat) : Int))).from _) (ownFrom_below (Nat.le_refl _) (by simp)))
      (fun c => ownFrom_pure _ _)
      ⟨HBN.out, HBA.out⟩
      ?la ?lassign ?lbody ?ldone ?lstop
    case lassign =>
      intro l x W K hK
      gi_wp2
      exact hK
    case lbody =>
      rintro l pre x W ⟨bn, hB⟩ hlt
      have bl : Boxed W w.heap.size 22 (.slice a0 ls.length c0) := (hB.block _ (by omega)).trans BL4.out
      have br : Boxed W (w.heap.size + 1) 4 (.bool false) := (hB.block _ hbr4).trans BR4.out
      obtain ⟨bq, oq, rfl, fq, eq⟩ := HLS4.out.int_cell pre.length hlt
      have eq' : W.cell? ⟨bq, oq + pre.length, none⟩ = some (.int .i32 ls[pre.length]) := (hB.cell (p := ⟨bq, _, none⟩) (by show bq < _; omega)).trans eq
      have hlc := bl.cell
      have hrc := br.cell
      have hrf := br.frozen
      have hnc := bn.cell
      have hnf2 := bn.frozen
      have hbnl := bn.lt
      have hcr : isChar ls[pre.length] = true := List.all_eq_true.1 HALL.out _ (List.getElem_mem hlt)
      have hnext := fun k hk h => came_next (pre := pre) (x := x) (k := k) HALL.out h hk hlt
      obtain ⟨q, hq⟩ : ∃ q, q = pre.length := ⟨_, rfl⟩
      obtain ⟨r, hr⟩ : ∃ r, r = ls[pre.length] := ⟨_, rfl⟩
      obtain ⟨y, hy⟩ : ∃ y, y = norm x.2 := ⟨_, rfl⟩
      have hnx : (nrm x).2 = y := by rw [hy]; rfl
      rw [← hr] at eq' hcr hnext
      rw [← hy]
      have hbad : y ≠ r → ¬ ∃ k, k ≤ ls.length ∧ pre ++ [x] = (places 0 ls).take k := fun hne ⟨k, hk, h⟩ => by
        have := congrArg Prod.snd (hnext k hk h)
        rw [hnx] at this
        exact hne this
      have HBAD := Sp.hid hbad
      have HQ := Sp.hid hq
      rw [← hq] at hlt hnc eq'
      have HBB := Sp.hid hB
      have HBNW := Sp.hid bn
      have hbsz := hB.size
      have hspW := HS4.out.below hB (Nat.le_refl _)
      have HSPW := Sp.hid hspW
      clear hbad hnext hnx hy hq hr eq bl br bn hB hspW
      by_cases hyr : y = r
      · subst hyr
        have HI := Sp.hid (is_any y W HSPW.out)
        rw [hcr] at HI
        gi_wp2_with (refine ⟨trivial, ?_⟩; gi_at_call 15; refine (CallsIn.inRound l (callsIn_wide.2 HI.out)).mono ?_; rintro e w' ⟨rfl, hb'⟩; have hnc9 := (hb'.cell (p := ⟨w4.heap.size, 0, none⟩) hbnl).trans hnc; have hnf9 := (World.frozen?_of_block (a := ⟨w4.heap.size, 0, none⟩) (hb'.block _ hbnl)).trans hnf2; have HBNW9 := Sp.hid ((hb'.block _ hbnl).trans HBNW.out); have HB9 := Sp.hid hb'; clear hb')
        have hl1 : (pre ++ [x]).length = pre.length + 1 := by simp
        refine ⟨((KeepsOthers.of_grownBy (row := none) (grown_of_below HB9.out) (fun j o e => by cases e)).trans (KeepsOthers.setCell _ _ _)).from _, ?_, ?_, ?_⟩
        · exact (HB9.out.mono hbsz).setCell (p := ⟨w4.heap.size, 0, none⟩) (Nat.le_refl _) _
        · have b1 := Boxed.set (W := w') (B := w4.heap.size) (t := 3) (.int .i64 ((q : Int) + 1)) HBNW9.out
          rw [hl1, show ((pre.length + 1 : Nat) : Int) = (q : Int) + 1 by rw [HQ.out]; rfl]; exact b1
        · exact (HBB.out.trans (HB9.out.mono hbsz)).setCell (p := ⟨w4.heap.size, 0, none⟩) (Nat.le_refl _) _
      · have hyb : (y != r) = true := by simpa using hyr
        have HNOT := Sp.hid (HBAD.out hyr)
        clear HBAD hyr
        gi_wp2
        refine ⟨trivial, ?_⟩
        gi_wp2
        exact ⟨(KeepsOthers.setCell _ _ _).from _, rfl, HNOT.out⟩
    case ldone =>
      rintro D1 ys W5 hD1 rfl ⟨bn, hB⟩ hK5
      rw [places_length] at bn
      have hs5 := hB.size
      have hnc := bn.cell
      have bL5 : Boxed W5 w.heap.size 22 (.slice a0 ls.length c0) := (hB.block _ (by omega)).trans BL4.out
      have bR5 : Boxed W5 (w.heap.size + 1) 4 (.bool false) := (hB.block _ hbr4).trans BR4.out
      have hlc5 := bL5.cell
      have hf5 := HF4.out.trans (hB.mono (by have := HF4.out.size; omega))
      have hcs5 := (HCS4.out.below (fun k hk => by omega) hB)
      have hC5 := check_any (· < W5.heap.size) ca cc (ls.flatMap encM) W5 (hcs5.mono (fun k hk => by omega)) (fun _ h => h) HCB.out (by rw [← HL.out]; exact hcL) (by rw [← HL.out]; omega) (HSP.out.below hf5 (Nat.le_refl _))
      rw [← HL.out] at hC5
      have HC5 := Sp.hid hC5
      have hd1 : w.heap.size ≤ D1 := by have := HF4.out.size; simp at hD1; omega
      have hd15 : D1 < W5.heap.size := (Array.getElem?_eq_some_iff.1 hK5).1
      have HF5 := Sp.hid hf5
      have BL5 := Sp.hid bL5
      have BR5 := Sp.hid bR5
      have HK5 := Sp.hid hK5
      clear bn hB bL5 bR5 hf5 hcs5 hC5 hK5
      gi_wp2
      refine ⟨trivial, (callsIn_wide.2 HC5.out).mono ?_⟩
      rintro e w6 ⟨K6, ls, hch6, hK6, rfl, hb6⟩
      obtain ⟨hrs6, hK6'⟩ := chars_uniq (chars_enc HALL.out) hch6
      subst hrs6
      rw [← HL.out] at hK6'
      subst hK6'
      rw [if_neg (by omega)]
      have hs6 := hb6.size
      have BL6 : Hid (Boxed w6 w.heap.size 22 (.slice a0 ls.length c0)) := Sp.hid ((hb6.block _ BL5.out.lt).trans BL5.out)
      have BR6 : Hid (Boxed w6 (w.heap.size + 1) 4 (.bool false)) := Sp.hid ((hb6.block _ BR5.out.lt).trans BR5.out)
      have hlc6 := (show Boxed w6 w.heap.size 22 (.slice a0 ls.length c0) from BL6.out).cell
      have hnc6 := (hb6.cell (p := ⟨w4.heap.size, 0, none⟩) (World.block_lt_of_cell? _ _ hnc)).trans hnc
      have HK1 := Sp.hid ((hb6.block _ hd15).trans HK5.out)
      have HF6 := Sp.hid (HF5.out.trans (hb6.mono (by have := HF5.out.size; omega)))
      clear hb6 hch6 HC5 hnc hlc5
      gi_wp2
      have hsW := HF6.out.size
      have hbW := HB0.out
      have HA6 := Sp.hid (all_any (· < w6.heap.size) a1 c1 bs w6 ((H1.out.below (fun _ h => h) HF6.out).mono (fun k hk => by omega)) (fun _ h => h) N1.out B1.out k1 (by omega) (HSP.out.below HF6.out (Nat.le_refl _)))
      clear hbW
      refine ⟨trivial, (callsIn_wide.2 HA6.out).mono ?_⟩
      rintro e w7 ⟨B7, K, rs, ta, tc, hch, hK, rfl, hB7, hB7', hBc, htc, hts, hb7⟩
      have hs7 := hb7.size
      have hKl := (chars_split hch).2
      have htx := hch.1.2.2
      rw [htx] at hts
      have hcc : rs.all isChar = true := hch.1.1
      have hrl : rs.length ≤ K := part_len hch.1
      have hbc' : w7.cell? ⟨B7, 0, none⟩ = some (.slice ta (rs.flatMap encM).length tc) := by rw [← hKl]; exact hBc
      have hf7 := HF6.out.trans (hb7.mono hsW)
      have hgl : 0 < w7.heap.size := by have := World.block_lt_of_cell? w _ (HSP.out 0 (by decide)); show 0 < _; omega
      have hsp7 := HSP.out.below hf7 (Nat.le_refl _)
      have bL7 : Boxed w7 w.heap.size 22 (.slice a0 ls.length c0) := (hb7.block _ BL6.out.lt).trans BL6.out
      have bR7 : Boxed w7 (w.heap.size + 1) 4 (.bool false) := (hb7.block _ BR6.out.lt).trans BR6.out
      have hbr7 := bR7.lt
      have hk7 : w7.heap[D1]? = some (.deferred (some [])) := (hb7.block _ ((Array.getElem?_eq_some_iff.1 HK1.out).1)).trans HK1.out
      have hd7 : D1 < w7.heap.size := (Array.getElem?_eq_some_iff.1 hk7).1
      have HK7 := Sp.hid hk7
      clear hk7
      have HCH := Sp.hid hch
      have HKL := Sp.hid hKl
      have HTX := Sp.hid htx
      have HTS := Sp.hid hts
      have HCC := Sp.hid hcc
      have HBC := Sp.hid hbc'
      have HF7 := Sp.hid hf7
      have HS7 := Sp.hid hsp7
      have BR7 := Sp.hid bR7
      have hnf7 := funcNil B7
      clear hch hKl htx hts hcc hbc' hf7 hsp7 bL7 bR7 hBc hb7 HA6
      gi_wp2
      have HBM := Sp.hid (Boxed.new w7 22 (.slice none 0 0))
      have HBA := Sp.hid ((Below.refl w7.heap.size w7).alloc (Nat.le_refl _) (.cells #[.slice none 0 0] 22))
      refine wpIn_rangeFunc_ownG rfl (by omega) (gf := 21) (lb := #[.pointer (some ⟨B7, 0, none⟩)]) rfl trivial (enters_of Tryd.func21 (by kernel_rfl) rfl)
        (all_stops 2 (by omega) B7 w7.heap.size ta tc rs _ (by simp) HCC.out (by rw [← HKL.out]; omega) (by rw [← HKL.out]; omega) hB7' ((HBA.out.cell (p := ⟨B7, 0, none⟩) hB7').trans HBC.out) ((HTS.out.below (fun k hk => hk.2) HBA.out).mono (fun k hk => hk.2)) (HS7.out.below HBA.out (Nat.le_refl _)) hgl)
        belowK_t (belowK_b (by simp)) (Below.refl _ _) (fun _ => rfl)
        (fun pre W => (∃ v, Boxed W w7.heap.size 22 v ∧ W.ownsRow w7.heap.size 21 1 v pre.length (pre.map fun x => .int .i32 (norm x.2)) ∧ True) ∧ Below w7.heap.size w7 W)
        (fun _ _ _ => False)
        (OwnFrom.and ((holdsRow_own w7.heap.size w7.heap.size 22 21 1 (fun (pre : List (Nat × Int)) => pre.length) (fun pre => pre.map fun x => .int .i32 (norm x.2)) (fun _ _ => True)).from _) (ownFrom_below (Nat.le_refl _) (by simp)))
        (fun _ _ _ _ _ hs _ _ => hs)
        ⟨⟨_, HBM.out, World.ownsRow_nil _ _ _ _, trivial⟩, HBA.out⟩
        ?ma6 ?massign6 ?mbody6 ?mdone6 ?mstop6
      case massign6 =>
        intro l x W K hK
        gi_wp2
        exact hK
      case mbody6 =>
        rintro l pre x W ⟨⟨v, hv, hrow, _⟩, hB⟩ hlt
        obtain ⟨i0, hi0, hz0, hz1, hz2⟩ := info_parts infoI32
        have hc := hv.cell
        have hbs := hB.size
        have hlt2 : pre.length ≤ 200 := by omega
        gi_wp2_with (gi_at_builtin; refine wpListIn_append_own _ rfl _ _ 22 rfl w7.heap.size 21 i0 (.int .i32 0) 1 4 Tryd.underlying22 hi0 hz0 hz1 hz2 rfl (by decide) _ _ _ rfl (hrow.alloc _) ⟨W.heap.size, 0, none⟩ 1 1 [.int .i32 (norm x.2)] rfl rfl (cell_one_new _ _ _) (by simp [Value.oneCell']) (by unfold maxLen; omega) (by omega) (by simp; omega) ?_; intro v' w1' hown' hgrow _; obtain ⟨g', cap', rfl⟩ := ownsRow_succ hown'; obtain ⟨hv1, hv2, hr2, hk2, hb2⟩ := hv.appended (by decide) hrow hbs (Nat.le_refl _) hown' hgrow; have hc1 := hv1.cell; have hf1 := hv1.frozen)
        exact ⟨hk2.from _, hb2, ⟨_, hv2, by rw [List.length_append, List.map_append]; exact hr2, trivial⟩, hB.trans hb2⟩
      case mdone6 =>
        rintro D2 ys W8 hD2 rfl ⟨⟨v, hv, hrow, _⟩, hB⟩ hKd
        have hmp : (places 0 rs).map (fun x => Value.int .i32 (norm x.2)) = rs.map (Value.int .i32) := places_vals 0 HCC.out
        rw [hmp, places_length] at hrow
        obtain ⟨ma, mc, rfl, z1, z2, z3, z4, hms⟩ := own_ints hrow
        have hvc := hv.cell
        have hs8 := hB.size
        have hf8 := HF7.out.trans (hB.mono (by omega))
        have hD2' : w7.heap.size ≤ D2 := by simp at hD2; omega
        have br8 : Boxed W8 (w.heap.size + 1) 4 (.bool false) := (hB.block _ hbr7).trans BR7.out
        have HE := Sp.hid (encode_any (· < W8.heap.size) ma mc rs W8 (hms.mono (fun k hk => hk.2)) (fun _ h => h) (by omega) (HSP.out.below hf8 (Nat.le_refl _)))
        have HF8 := Sp.hid hf8
        have BR8 := Sp.hid br8
        have HKD := Sp.hid hKd
        have HK8 := Sp.hid ((hB.block D1 hd7).trans HK7.out)
        have hd8 : D1 < W8.heap.size := by omega
        have hd2 : D2 < W8.heap.size := (Array.getElem?_eq_some_iff.1 hKd).1
        have hbr8 := br8.lt
        clear hmp hrow hv hB hms hf8 br8 hKd z1 z2 z3 z4
        gi_wp2
        refine ⟨trivial, (callsIn_wide.2 HE.out).mono ?_⟩
        rintro e w9 ⟨hb9, hcase⟩
        rcases hcase with ⟨_, da, dc, rfl, hdc, hds, _⟩ | ⟨hbad, _⟩
        · have hs9 := hb9.size
          have hf9 := HF8.out.trans (hb9.mono (by omega))
          obtain ⟨m, hm⟩ : ∃ m, m = bs.length := ⟨_, rfl⟩
          have HM := Sp.hid hm
          have HC := check_any (· < w9.heap.size) a1 c1 bs w9 ((H1.out.below (fun _ h => h) hf9).mono (fun k hk => by omega)) (fun _ h => h) B1.out k1 (by omega) (HSP.out.below hf9 (Nat.le_refl _))
          have HC' := Sp.hid HC
          have HF9 := Sp.hid hf9
          have BR9 := Sp.hid ((hb9.block _ hbr8).trans BR8.out)
          have HKD9 := Sp.hid ((hb9.block _ hd2).trans HKD.out)
          have HK9 := Sp.hid ((hb9.block _ hd8).trans HK8.out)
          have hd9 : D1 < w9.heap.size := by omega
          have hd29 : D2 < w9.heap.size := by omega
          have hbr9 : w.heap.size + 1 < w9.heap.size := by omega
          have HDS := Sp.hid hds
          clear HC hm hb9 hf9 hds HE
          rw [← HKL.out]
          rw [← HKL.out] at hdc
          gi_wp2
          refine ⟨trivial, (callsIn_wide.2 HC'.out).mono ?_⟩
          rintro e w10 ⟨K2, rs2, hch2, hK2, rfl, hb10⟩
          obtain ⟨rfl, rfl⟩ := chars_uniq HCH.out hch2
          have hs10 := hb10.size
          have hf10 := HF9.out.trans (hb10.mono (by omega))
          have hty : (bs.take K).length = K := by rw [List.length_take]; omega
          have hby := lawBytes_any _ _ da a1 dc c1 (rs.flatMap encM) (bs.take K) w10 (HDS.out.below (fun k hk => hk.2) hb10) (sl_take (H1.out.below (fun _ h => h) hf10) K) (fun k hk => by omega) (fun k hk => by omega) (by rw [← HKL.out]; omega) (by rw [hty]; omega)
          rw [hty, ← HKL.out, HTX.out, decide_eq_true rfl] at hby
          have HBY := Sp.hid hby
          have HF10 := Sp.hid hf10
          have BR10 := Sp.hid ((hb10.block _ hbr9).trans BR9.out)
          have HKD10 := Sp.hid ((hb10.block _ hd29).trans HKD9.out)
          have HK10 := Sp.hid ((hb10.block _ hd9).trans HK9.out)
          have hd10 : D1 < w10.heap.size := by omega
          have hd210 : D2 < w10.heap.size := by omega
          have hbr10 : w.heap.size + 1 < w10.heap.size := by omega
          clear hb10 hf10 hty hby hch2 HC'
          by_cases hKm : K < bs.length
          · rw [if_pos hKm]
            have hq1 : ((K : Int) == (bs.length : Int)) = false := by simp; omega
            gi_wp2
            refine ⟨trivial, (callsIn_wide.2 HBY.out).mono ?_⟩
            rintro e w11 ⟨rfl, hb11⟩
            have hs11 := hb11.size
            have hf11 := HF10.out.trans (hb11.mono (by omega))
            have HF11 := Sp.hid hf11
            have BR11 := Sp.hid ((hb11.block _ hbr10).trans BR10.out)
            have HKD11 := Sp.hid ((hb11.block _ hd210).trans HKD10.out)
            have HK11 := Sp.hid ((hb11.block _ hd10).trans HK10.out)
            have hsp11 := HSP.out.below hf11 (Nat.le_refl _)
            have HS11 := Sp.hid hsp11
            clear hb11 hf11 hsp11
            gi_wp2
            refine ⟨trivial, (callsIn_wide.2 (awake_any _ HS11.out)).mono ?_⟩
            rintro e w12 ⟨rfl, hb12⟩
            have hs12 := hb12.size
            have hbr11 : w.heap.size + 1 < w11.heap.size := by omega
            have br12 : Boxed w12 (w.heap.size + 1) 4 (.bool false) := (hb12.block _ hbr11).trans BR11.out
            have hrc := br12.cell
            have hrf := br12.frozen
            have hkd12 := (hb12.block _ (show D2 < w11.heap.size by omega)).trans HKD11.out
            have hk12 := (hb12.block _ (show D1 < w11.heap.size by omega)).trans HK11.out
            have hf12 := HF11.out.trans (hb12.mono (by omega))
            have HKD12 := Sp.hid hkd12
            have HK12 := Sp.hid hk12
            clear hk12
            have HF12 := Sp.hid hf12
            clear hb12 hkd12 hf12 br12
            gi_wp2
            have hK' := (KeepsOthers.setCell w12 ⟨w.heap.size + 1, 0, none⟩ (.bool true)).same D2 _ HKD12.out rfl
            refine ⟨by simp, .inl ⟨_, _, rfl, run_takeDeferred hK', ?_⟩⟩
            have hc5 := cell_kept (World.cell?_setCell_same' w12 ⟨w.heap.size + 1, 0, none⟩ (.bool true) (by rw [hrc]; rfl)) (grownBy_putObj' _ D2 (.deferred none)) (fun r e => by cases e; exact ⟨_, hK', rfl⟩)
            have hfin : Below w.heap.size w (w12.setCell ⟨w.heap.size + 1, 0, none⟩ (.bool true)) := HF12.out.setCell (p := ⟨w.heap.size + 1, 0, none⟩) (Nat.le_succ _) _
            have hfin2 := hfin.trans (belowK_b (w := w) (Nat.le_refl _) _ D2 _ (.deferred none) (by omega) hK' rfl rfl)
            have hne : D1 ≠ D2 := by omega
            have hK1' : ((w12.setCell ⟨w.heap.size + 1, 0, none⟩ (.bool true)).putObj D2 (.deferred none)).heap[D1]? = some (.deferred (some [])) := (World.putObj_heap_other hne).trans ((KeepsOthers.setCell w12 ⟨w.heap.size + 1, 0, none⟩ (.bool true)).same D1 _ HK12.out rfl)
            refine ⟨by simp, .inl ⟨_, _, rfl, run_takeDeferred hK1', ?_⟩⟩
            have hc6 := cell_kept hc5 (grownBy_putObj' _ D1 (.deferred none)) (fun r e => by cases e; exact ⟨_, hK1', rfl⟩)
            refine ⟨.bool true, ?_, rfl, hfin2.trans (belowK_b (w := w) (Nat.le_refl _) _ D1 _ _ (by omega) hK1' rfl rfl)⟩
            simp [results, Tryd.f6, go_sem, hc6]
          · rw [if_neg hKm]
            have hq1 : ((K : Int) == (bs.length : Int)) = true := by simp; omega
            gi_wp2
            refine ⟨trivial, (callsIn_wide.2 HBY.out).mono ?_⟩
            rintro e w11 ⟨rfl, hb11⟩
            have hs11 := hb11.size
            have hf11 := HF10.out.trans (hb11.mono (by omega))
            have HF11 := Sp.hid hf11
            have BR11 := Sp.hid ((hb11.block _ hbr10).trans BR10.out)
            have HKD11 := Sp.hid ((hb11.block _ hd210).trans HKD10.out)
            have HK11 := Sp.hid ((hb11.block _ hd10).trans HK10.out)
            have hsp11 := HSP.out.below hf11 (Nat.le_refl _)
            have HS11 := Sp.hid hsp11
            clear hb11 hf11 hsp11
            gi_wp2
            refine ⟨trivial, (callsIn_wide.2 (awake_any _ HS11.out)).mono ?_⟩
            rintro e w12 ⟨rfl, hb12⟩
            have hs12 := hb12.size
            have hbr11 : w.heap.size + 1 < w11.heap.size := by omega
            have br12 : Boxed w12 (w.heap.size + 1) 4 (.bool false) := (hb12.block _ hbr11).trans BR11.out
            have hrc := br12.cell
            have hrf := br12.frozen
            have hkd12 := (hb12.block _ (show D2 < w11.heap.size by omega)).trans HKD11.out
            have hk12 := (hb12.block _ (show D1 < w11.heap.size by omega)).trans HK11.out
            have hf12 := HF11.out.trans (hb12.mono (by omega))
            have HKD12 := Sp.hid hkd12
            have HK12 := Sp.hid hk12
            clear hk12
            have HF12 := Sp.hid hf12
            clear hb12 hkd12 hf12 br12
            gi_wp2
            have hK' := (KeepsOthers.setCell w12 ⟨w.heap.size + 1, 0, none⟩ (.bool true)).same D2 _ HKD12.out rfl
            refine ⟨by simp, .inl ⟨_, _, rfl, run_takeDeferred hK', ?_⟩⟩
            have hc5 := cell_kept (World.cell?_setCell_same' w12 ⟨w.heap.size + 1, 0, none⟩ (.bool true) (by rw [hrc]; rfl)) (grownBy_putObj' _ D2 (.deferred none)) (fun r e => by cases e; exact ⟨_, hK', rfl⟩)
            have hfin : Below w.heap.size w (w12.setCell ⟨w.heap.size + 1, 0, none⟩ (.bool true)) := HF12.out.setCell (p := ⟨w.heap.size + 1, 0, none⟩) (Nat.le_succ _) _
            have hfin2 := hfin.trans (belowK_b (w := w) (Nat.le_refl _) _ D2 _ (.deferred none) (by omega) hK' rfl rfl)
            have hne : D1 ≠ D2 := by omega
            have hK1' : ((w12.setCell ⟨w.heap.size + 1, 0, none⟩ (.bool true)).putObj D2 (.deferred none)).heap[D1]? = some (.deferred (some [])) := (World.putObj_heap_other hne).trans ((KeepsOthers.setCell w12 ⟨w.heap.size + 1, 0, none⟩ (.bool true)).same D1 _ HK12.out rfl)
            refine ⟨by simp, .inl ⟨_, _, rfl, run_takeDeferred hK1', ?_⟩⟩
            have hc6 := cell_kept hc5 (grownBy_putObj' _ D1 (.deferred none)) (fun r e => by cases e; exact ⟨_, hK1', rfl⟩)
            refine ⟨.bool true, ?_, rfl, hfin2.trans (belowK_b (w := w) (Nat.le_refl _) _ D1 _ _ (by omega) hK1' rfl rfl)⟩
            simp [results, Tryd.f6, go_sem, hc6]
        · rw [HCC.out] at hbad; cases hbad
      case mstop6 =>
        rintro D c pre W _ _ h _
        exact h.elim
    case lstop =>
      rintro D c pre W hD ⟨k, hk, rfl⟩ ⟨rfl, hno⟩ hK
      exact absurd ⟨k, hk, rfl⟩ hno
  · clear hall
    gi_wp2
    have hsW := HF1.out.size
    have hbW := HB0.out
    have HA1 := Sp.hid (all_any (· < w1.heap.size) a1 c1 bs w1 ((H1.out.below (fun _ h => h) HF1.out).mono (fun k hk => by omega)) (fun _ h => h) N1.out B1.out k1 (by omega) (HSP.out.below HF1.out (Nat.le_refl _)))
    clear hbW
    refine ⟨trivial, (callsIn_wide.2 HA1.out).mono ?_⟩
    rintro e w7 ⟨B7, K, rs, ta, tc, hch, hK, rfl, hB7, hB7', hBc, htc, hts, hb7⟩
    have hs7 := hb7.size
    have hKl := (chars_split hch).2
    have htx := hch.1.2.2
    rw [htx] at hts
    have hcc : rs.all isChar = true := hch.1.1
    have hrl : rs.length ≤ K := part_len hch.1
    have hbc' : w7.cell? ⟨B7, 0, none⟩ = some (.slice ta (rs.flatMap encM).length tc) := by rw [← hKl]; exact hBc
    have hf7 := HF1.out.trans (hb7.mono hsW)
    have hgl : 0 < w7.heap.size := by have := World.block_lt_of_cell? w _ (HSP.out 0 (by decide)); show 0 < _; omega
    have hsp7 := HSP.out.below hf7 (Nat.le_refl _)
    have bL7 : Boxed w7 w.heap.size 22 (.slice a0 ls.length c0) := (hb7.block _ BL1.out.lt).trans BL1.out
    have bR7 : Boxed w7 (w.heap.size + 1) 4 (.bool false) := (hb7.block _ BR1.out.lt).trans BR1.out
    have hbr7 := bR7.lt
    have HCH := Sp.hid hch
    have HKL := Sp.hid hKl
    have HTX := Sp.hid htx
    have HTS := Sp.hid hts
    have HCC := Sp.hid hcc
    have HBC := Sp.hid hbc'
    have HF7 := Sp.hid hf7
    have HS7 := Sp.hid hsp7
    have BR7 := Sp.hid bR7
    have hnf7 := funcNil B7
    clear hch hKl htx hts hcc hbc' hf7 hsp7 bL7 bR7 hBc hb7 HA1
    gi_wp2
    have HBM := Sp.hid (Boxed.new w7 22 (.slice none 0 0))
    have HBA := Sp.hid ((Below.refl w7.heap.size w7).alloc (Nat.le_refl _) (.cells #[.slice none 0 0] 22))
    refine wpIn_rangeFunc_ownG rfl (by omega) (gf := 21) (lb := #[.pointer (some ⟨B7, 0, none⟩)]) rfl trivial (enters_of Tryd.func21 (by kernel_rfl) rfl)
      (all_stops 2 (by omega) B7 w7.heap.size ta tc rs _ (by simp) HCC.out (by rw [← HKL.out]; omega) (by rw [← HKL.out]; omega) hB7' ((HBA.out.cell (p := ⟨B7, 0, none⟩) hB7').trans HBC.out) ((HTS.out.below (fun k hk => hk.2) HBA.out).mono (fun k hk => hk.2)) (HS7.out.below HBA.out (Nat.le_refl _)) hgl)
      belowK_t (belowK_b (by simp)) (Below.refl _ _) (fun _ => rfl)
      (fun pre W => (∃ v, Boxed W w7.heap.size 22 v ∧ W.ownsRow w7.heap.size 21 1 v pre.length (pre.map fun x => .int .i32 (norm x.2)) ∧ True) ∧ Below w7.heap.size w7 W)
      (fun _ _ _ => False)
      (OwnFrom.and ((holdsRow_own w7.heap.size w7.heap.size 22 21 1 (fun (pre : List (Nat × Int)) => pre.length) (fun pre => pre.map fun x => .int .i32 (norm x.2)) (fun _ _ => True)).from _) (ownFrom_below (Nat.le_refl _) (by simp)))
      (fun _ _ _ _ _ hs _ _ => hs)
      ⟨⟨_, HBM.out, World.ownsRow_nil _ _ _ _, trivial⟩, HBA.out⟩
      ?ma1 ?massign1 ?mbody1 ?mdone1 ?mstop1
    case massign1 =>
      intro l x W K hK
      gi_wp2
      exact hK
    case mbody1 =>
      rintro l pre x W ⟨⟨v, hv, hrow, _⟩, hB⟩ hlt
      obtain ⟨i0, hi0, hz0, hz1, hz2⟩ := info_parts infoI32
      have hc := hv.cell
      have hbs := hB.size
      have hlt2 : pre.length ≤ 200 := by omega
      gi_wp2_with (gi_at_builtin; refine wpListIn_append_own _ rfl _ _ 22 rfl w7.heap.size 21 i0 (.int .i32 0) 1 4 Tryd.underlying22 hi0 hz0 hz1 hz2 rfl (by decide) _ _ _ rfl (hrow.alloc _) ⟨W.heap.size, 0, none⟩ 1 1 [.int .i32 (norm x.2)] rfl rfl (cell_one_new _ _ _) (by simp [Value.oneCell']) (by unfold maxLen; omega) (by omega) (by simp; omega) ?_; intro v' w1' hown' hgrow _; obtain ⟨g', cap', rfl⟩ := ownsRow_succ hown'; obtain ⟨hv1, hv2, hr2, hk2, hb2⟩ := hv.appended (by decide) hrow hbs (Nat.le_refl _) hown' hgrow; have hc1 := hv1.cell; have hf1 := hv1.frozen)
      exact ⟨hk2.from _, hb2, ⟨_, hv2, by rw [List.length_append, List.map_append]; exact hr2, trivial⟩, hB.trans hb2⟩
    case mdone1 =>
      rintro D2 ys W8 hD2 rfl ⟨⟨v, hv, hrow, _⟩, hB⟩ hKd
      have hmp : (places 0 rs).map (fun x => Value.int .i32 (norm x.2)) = rs.map (Value.int .i32) := places_vals 0 HCC.out
      rw [hmp, places_length] at hrow
      obtain ⟨ma, mc, rfl, z1, z2, z3, z4, hms⟩ := own_ints hrow
      have hvc := hv.cell
      have hs8 := hB.size
      have hf8 := HF7.out.trans (hB.mono (by omega))
      have hD2' : w7.heap.size ≤ D2 := by simp at hD2; omega
      have br8 : Boxed W8 (w.heap.size + 1) 4 (.bool false) := (hB.block _ hbr7).trans BR7.out
      have HE := Sp.hid (encode_any (· < W8.heap.size) ma mc rs W8 (hms.mono (fun k hk => hk.2)) (fun _ h => h) (by omega) (HSP.out.below hf8 (Nat.le_refl _)))
      have HF8 := Sp.hid hf8
      have BR8 := Sp.hid br8
      have HKD := Sp.hid hKd
      have hd2 : D2 < W8.heap.size := (Array.getElem?_eq_some_iff.1 hKd).1
      have hbr8 := br8.lt
      clear hmp hrow hv hB hms hf8 br8 hKd z1 z2 z3 z4
      gi_wp2
      refine ⟨trivial, (callsIn_wide.2 HE.out).mono ?_⟩
      rintro e w9 ⟨hb9, hcase⟩
      rcases hcase with ⟨_, da, dc, rfl, hdc, hds, _⟩ | ⟨hbad, _⟩
      · have hs9 := hb9.size
        have hf9 := HF8.out.trans (hb9.mono (by omega))
        obtain ⟨m, hm⟩ : ∃ m, m = bs.length := ⟨_, rfl⟩
        have HM := Sp.hid hm
        have HC := check_any (· < w9.heap.size) a1 c1 bs w9 ((H1.out.below (fun _ h => h) hf9).mono (fun k hk => by omega)) (fun _ h => h) B1.out k1 (by omega) (HSP.out.below hf9 (Nat.le_refl _))
        have HC' := Sp.hid HC
        have HF9 := Sp.hid hf9
        have BR9 := Sp.hid ((hb9.block _ hbr8).trans BR8.out)
        have HKD9 := Sp.hid ((hb9.block _ hd2).trans HKD.out)
        have hd29 : D2 < w9.heap.size := by omega
        have hbr9 : w.heap.size + 1 < w9.heap.size := by omega
        have HDS := Sp.hid hds
        clear HC hm hb9 hf9 hds HE
        rw [← HKL.out]
        rw [← HKL.out] at hdc
        gi_wp2
        refine ⟨trivial, (callsIn_wide.2 HC'.out).mono ?_⟩
        rintro e w10 ⟨K2, rs2, hch2, hK2, rfl, hb10⟩
        obtain ⟨rfl, rfl⟩ := chars_uniq HCH.out hch2
        have hs10 := hb10.size
        have hf10 := HF9.out.trans (hb10.mono (by omega))
        have hty : (bs.take K).length = K := by rw [List.length_take]; omega
        have hby := lawBytes_any _ _ da a1 dc c1 (rs.flatMap encM) (bs.take K) w10 (HDS.out.below (fun k hk => hk.2) hb10) (sl_take (H1.out.below (fun _ h => h) hf10) K) (fun k hk => by omega) (fun k hk => by omega) (by rw [← HKL.out]; omega) (by rw [hty]; omega)
        rw [hty, ← HKL.out, HTX.out, decide_eq_true rfl] at hby
        have HBY := Sp.hid hby
        have HF10 := Sp.hid hf10
        have BR10 := Sp.hid ((hb10.block _ hbr9).trans BR9.out)
        have HKD10 := Sp.hid ((hb10.block _ hd29).trans HKD9.out)
        have hd210 : D2 < w10.heap.size := by omega
        have hbr10 : w.heap.size + 1 < w10.heap.size := by omega
        clear hb10 hf10 hty hby hch2 HC'
        by_cases hKm : K < bs.length
        · rw [if_pos hKm]
          have hq1 : ((K : Int) == (bs.length : Int)) = false := by simp; omega
          gi_wp2
          refine ⟨trivial, (callsIn_wide.2 HBY.out).mono ?_⟩
          rintro e w11 ⟨rfl, hb11⟩
          have hs11 := hb11.size
          have hf11 := HF10.out.trans (hb11.mono (by omega))
          have HF11 := Sp.hid hf11
          have BR11 := Sp.hid ((hb11.block _ hbr10).trans BR10.out)
          have HKD11 := Sp.hid ((hb11.block _ hd210).trans HKD10.out)
          have hsp11 := HSP.out.below hf11 (Nat.le_refl _)
          have HS11 := Sp.hid hsp11
          clear hb11 hf11 hsp11
          gi_wp2
          refine ⟨trivial, (callsIn_wide.2 (awake_any _ HS11.out)).mono ?_⟩
          rintro e w12 ⟨rfl, hb12⟩
          have hs12 := hb12.size
          have hbr11 : w.heap.size + 1 < w11.heap.size := by omega
          have br12 : Boxed w12 (w.heap.size + 1) 4 (.bool false) := (hb12.block _ hbr11).trans BR11.out
          have hrc := br12.cell
          have hrf := br12.frozen
          have hkd12 := (hb12.block _ (show D2 < w11.heap.size by omega)).trans HKD11.out
          have hf12 := HF11.out.trans (hb12.mono (by omega))
          have HKD12 := Sp.hid hkd12
          have HF12 := Sp.hid hf12
          clear hb12 hkd12 hf12 br12
          gi_wp2
          have hK' := (KeepsOthers.setCell w12 ⟨w.heap.size + 1, 0, none⟩ (.bool true)).same D2 _ HKD12.out rfl
          refine ⟨by simp, .inl ⟨_, _, rfl, run_takeDeferred hK', ?_⟩⟩
          have hc5 := cell_kept (World.cell?_setCell_same' w12 ⟨w.heap.size + 1, 0, none⟩ (.bool true) (by rw [hrc]; rfl)) (grownBy_putObj' _ D2 (.deferred none)) (fun r e => by cases e; exact ⟨_, hK', rfl⟩)
          have hfin : Below w.heap.size w (w12.setCell ⟨w.heap.size + 1, 0, none⟩ (.bool true)) := HF12.out.setCell (p := ⟨w.heap.size + 1, 0, none⟩) (Nat.le_succ _) _
          have hfin2 := hfin.trans (belowK_b (w := w) (Nat.le_refl _) _ D2 _ (.deferred none) (by omega) hK' rfl rfl)
          refine ⟨.bool true, ?_, rfl, hfin2⟩
          simp [results, Tryd.f6, go_sem, hc5]
        · rw [if_neg hKm]
          have hq1 : ((K : Int) == (bs.length : Int)) = true := by simp; omega
          gi_wp2
          refine ⟨trivial, (callsIn_wide.2 HBY.out).mono ?_⟩
          rintro e w11 ⟨rfl, hb11⟩
          have hs11 := hb11.size
          have hf11 := HF10.out.trans (hb11.mono (by omega))
          have HF11 := Sp.hid hf11
          have BR11 := Sp.hid ((hb11.block _ hbr10).trans BR10.out)
          have HKD11 := Sp.hid ((hb11.block _ hd210).trans HKD10.out)
          have hsp11 := HSP.out.below hf11 (Nat.le_refl _)
          have HS11 := Sp.hid hsp11
          clear hb11 hf11 hsp11
          gi_wp2
          refine ⟨trivial, (callsIn_wide.2 (awake_any _ HS11.out)).mono ?_⟩
          rintro e w12 ⟨rfl, hb12⟩
          have hs12 := hb12.size
          have hbr11 : w.heap.size + 1 < w11.heap.size := by omega
          have br12 : Boxed w12 (w.heap.size + 1) 4 (.bool false) := (hb12.block _ hbr11).trans BR11.out
          have hrc := br12.cell
          have hrf := br12.frozen
          have hkd12 := (hb12.block _ (show D2 < w11.heap.size by omega)).trans HKD11.out
          have hf12 := HF11.out.trans (hb12.mono (by omega))
          have HKD12 := Sp.hid hkd12
          have HF12 := Sp.hid hf12
          clear hb12 hkd12 hf12 br12
          gi_wp2
          have hK' := (KeepsOthers.setCell w12 ⟨w.heap.size + 1, 0, none⟩ (.bool true)).same D2 _ HKD12.out rfl
          refine ⟨by simp, .inl ⟨_, _, rfl, run_takeDeferred hK', ?_⟩⟩
          have hc5 := cell_kept (World.cell?_setCell_same' w12 ⟨w.heap.size + 1, 0, none⟩ (.bool true) (by rw [hrc]; rfl)) (grownBy_putObj' _ D2 (.deferred none)) (fun r e => by cases e; exact ⟨_, hK', rfl⟩)
          have hfin : Below w.heap.size w (w12.setCell ⟨w.heap.size + 1, 0, none⟩ (.bool true)) := HF12.out.setCell (p := ⟨w.heap.size + 1, 0, none⟩) (Nat.le_succ _) _
          have hfin2 := hfin.trans (belowK_b (w := w) (Nat.le_refl _) _ D2 _ (.deferred none) (by omega) hK' rfl rfl)
          refine ⟨.bool true, ?_, rfl, hfin2⟩
          simp [results, Tryd.f6, go_sem, hc5]
      · rw [HCC.out] at hbad; cases hbad
    case mstop1 =>
      rintro D c pre W _ _ h _
      exact h.elim

end Go.Proofs.YtbhdkionphemdaaDoor

