/- UtfChecks returns true: its walk. Conditions: the argument reads as bytes; the table of spans as laid. -/
import Derived.Test.YtbhdkionphemdaaDoorUtfIter
namespace Go.Proofs.YtbhdkionphemdaaDoor
open Go.RowKit Go.Sp Go.Shelf Go.Maps

attribute [local go_sem] Oper.semAt_some

theorem funcNil (B : Nat) (W : World) : (binOp .eql 38 (.func (.func 21) #[] #[.pointer (some ⟨B, 0, none⟩)]) .nilFunc).run Tryd.prog W = .ok (.bool false) W := by kernel_rfl

set_option maxRecDepth 100000 in
set_option maxHeartbeats 4000000 in
theorem checks_walk (a0 : Option Addr) (c0 : Nat) (bs : List Int) (w : World) (h0 : Sl (Shape.int .u8) (· < w.heap.size) w a0 bs)
    (b0 : ∀ x ∈ bs, 0 ≤ x ∧ x ≤ 255) (k0 : bs.length ≤ c0) (n0 : a0 = none → c0 = 0)
    (hl0 : bs.length ≤ 9223372036854775807) (hsp : SpansAt w) :
    Calls Tryd.prog 5 #[.slice a0 bs.length c0] w (IsBool true w) := by
  have H0 := Sp.hid h0
  have HSP := Sp.hid hsp
  have B0 := Sp.hid b0
  have N0 := Sp.hid n0
  clear h0 b0 n0 hsp
  refine (callsIn_wide (n := 3)).1 ?_
  refine callsIn_of_wp_marks Tryd.func5 rfl trivial ?_ rfl
  simp only [Tryd.ntmps5, List.size_toArray, List.length_cons, List.length_nil, Nat.reduceAdd, Nat.reduceSub, Array.replicate_succ, Array.replicate_zero, List.push_toArray, List.append_toArray, List.nil_append, List.cons_append]
  by_cases hn4 : (200 : Int) < bs.length
  · gi_wp2_with (refine ⟨trivial, ?_⟩; gi_at_call 7; refine (callsIn_wide.2 (awake_any _ (HSP.out.below ((Below.refl _ _).alloc (Nat.le_refl _) _) (Nat.le_refl _)))).mono ?_; rintro e w2 ⟨rfl, hb2⟩; have HB2 := Sp.hid hb2; have hbx : Boxed w2 w.heap.size 4 (.bool false) := (hb2.block w.heap.size (by simp)).trans (Boxed.new w _ _); have hc2 := hbx.cell; have hf2 := hbx.frozen; clear hb2)
    refine ⟨.bool true, ?_, rfl, ?_⟩
    · have hc5 := World.cell?_setCell_same' w2 ⟨w.heap.size, 0, none⟩ (.bool true) (by rw [hc2]; rfl)
      simp [results, Tryd.f5, go_sem, hc5]
    · exact (((Below.refl _ _).alloc (Nat.le_refl _) _).trans (HB2.out.mono (by simp))).setCell (p := ⟨w.heap.size, 0, none⟩) (Nat.le_refl _) _
  obtain ⟨m, hm⟩ : ∃ m, m = bs.length := ⟨_, rfl⟩
  have HM := Sp.hid hm
  rw [← hm] at hn4 k0 hl0 ⊢
  clear hm
  -- the world with the result's box
  obtain ⟨w0, hw0⟩ : ∃ w0, w0 = w.alloc (.cells #[.bool false] 4) := ⟨_, rfl⟩
  have hbw0 : Below w.heap.size w w0 := by rw [hw0]; exact (Below.refl _ _).alloc (Nat.le_refl _) _
  have hsz0 : w0.heap.size = w.heap.size + 1 := by rw [hw0]; simp
  have bR0 : Boxed w0 w.heap.size 4 (.bool false) := by rw [hw0]; exact Boxed.new w _ _
  have hRA := refAll_any (· < w0.heap.size) a0 c0 bs w0 ((H0.out.below (fun _ h => h) hbw0).mono (fun k hk => by omega)) (fun _ h => h) B0.out (by rw [← HM.out]; exact k0) (by rw [← HM.out]; omega)
  rw [← HM.out] at hRA
  have HRA := Sp.hid hRA
  have HBW0 := Sp.hid hbw0
  have BR0 := Sp.hid bR0
  have HSZ0 := Sp.hid hsz0
  have hle0 : w.heap.size < w0.heap.size := by omega
  clear hRA hbw0 bR0 hsz0
  have HW0 := Sp.hid hw0
  clear hw0
  gi_wp2_with (refine ⟨trivial, ?_⟩; gi_at_call 13; rw [← HW0.out]; refine (callsIn_wide.2 HRA.out).mono ?_; rintro e w1 ⟨K, rs, wa, wc, hch, rfl, hwc, hws, hb1⟩; have HCH := Sp.hid hch; have HWS := Sp.hid hws; have HB1 := Sp.hid hb1; have hs1 := hb1.size; clear hch hws hb1)
  -- the box of what is wanted
  obtain ⟨w2, hw2⟩ : ∃ w2, w2 = w1.alloc (.cells #[.slice wa rs.length wc] 34) := ⟨_, rfl⟩
  have hb2 : Below w1.heap.size w1 w2 := by rw [hw2]; exact (Below.refl _ _).alloc (Nat.le_refl _) _
  have hsz2 : w1.heap.size < w2.heap.size := by rw [hw2]; simp
  have bW2 : Boxed w2 w1.heap.size 34 (.slice wa rs.length wc) := by rw [hw2]; exact Boxed.new w1 _ _
  have hbw2 : Below w0.heap.size w0 w2 := HB1.out.trans (hb2.mono hs1)
  have hfull2 : Below w.heap.size w w2 := HBW0.out.trans (hbw2.mono (by omega))
  have HC := Sp.hid (check_any (· < w2.heap.size) a0 c0 bs w2 ((H0.out.below (fun _ h => h) hfull2).mono (fun k hk => by omega)) (fun _ h => h) B0.out (by rw [← HM.out]; exact k0) (by rw [← HM.out]; omega) (HSP.out.below hfull2 (Nat.le_refl _)))
  rw [← HM.out] at HC
  have HB2 := Sp.hid hb2
  have HBW2 := Sp.hid hbw2
  have BW2 := Sp.hid bW2
  have HF2 := Sp.hid hfull2
  rw [← hw2]
  clear hb2 bW2 hbw2 hfull2 HRA hw2
  refine ⟨trivial, (callsIn_wide.2 HC.out).mono ?_⟩
  rintro e w3 ⟨K2, rs2, hch2, hK2, rfl, hb3⟩
  obtain ⟨rfl, rfl⟩ := chars_uniq HCH.out hch2
  have hs3 := hb3.size
  have hfull3 := HF2.out.trans (hb3.mono (by omega))
  have HA := Sp.hid (all_any (· < w3.heap.size) a0 c0 bs w3 ((H0.out.below (fun _ h => h) hfull3).mono (fun k hk => by omega)) (fun _ h => h) N0.out B0.out (by rw [← HM.out]; exact k0) (by rw [← HM.out]; omega) (HSP.out.below hfull3 (Nat.le_refl _)))
  rw [← HM.out] at HA
  have HB3 := Sp.hid hb3
  have HF3 := Sp.hid hfull3
  obtain ⟨ev, hev⟩ : ∃ ev : Int, ev = if K < m then 10 else 0 := ⟨_, rfl⟩
  rw [← hev]
  have HEV := Sp.hid hev
  clear hb3 hfull3 hch2 HC hev
  gi_wp2
  refine ⟨trivial, (callsIn_wide.2 HA.out).mono ?_⟩
  rintro e w5 ⟨B, K3, rs3, ta, tc, hch3, hK3, rfl, hB1, hB2, hBc, htc, hts, hb5⟩
  obtain ⟨rfl, rfl⟩ := chars_uniq HCH.out hch3
  have hs5 := hb5.size
  have hKl := (chars_split HCH.out).2
  have htx := HCH.out.1.2.2
  rw [htx] at hts
  have HKL := Sp.hid hKl
  have HTS := Sp.hid hts
  have HBC := Sp.hid hBc
  have HB5 := Sp.hid hb5
  have HF5 := Sp.hid (HF3.out.trans (hb5.mono (by omega)))
  clear hch3 hKl htx hts hBc hb5 HA
  have hnf := funcNil B
  -- what the loop's law wants of the world where the loop begins
  have hch : rs.all isChar = true := HCH.out.1.1
  have hbc' : w5.cell? ⟨B, 0, none⟩ = some (.slice ta (rs.flatMap encM).length tc) := by rw [← HKL.out]; exact HBC.out
  have hgl : 0 < w5.heap.size := by have := World.block_lt_of_cell? w _ (HSP.out 0 (by decide)); have := HF5.out.size; show 0 < _; omega
  have hsp5 := HSP.out.below HF5.out (Nat.le_refl _)
  have bW5 : Boxed w5 w1.heap.size 34 (.slice wa rs.length wc) := ((HB3.out.trans (HB5.out.mono (by omega))).block w1.heap.size hsz2).trans BW2.out
  have bR5 : Boxed w5 w.heap.size 4 (.bool false) := ((HBW2.out.trans ((HB3.out.trans (HB5.out.mono (by omega))).mono (by omega))).block w.heap.size hle0).trans BR0.out
  have hws5 : Sl (Shape.int .i64) (· < w5.heap.size) w5 wa rs := (HWS.out.below (fun k hk => hk.2) (HB2.out.trans ((HB3.out.trans (HB5.out.mono (by omega))).mono (by omega)))).mono (fun k hk => by omega)
  have hrl : rs.length ≤ 200 := by have := part_len HCH.out.1; omega
  have HCC := Sp.hid hch
  have HBCC := Sp.hid hbc'
  have HS5 := Sp.hid hsp5
  have BW5 := Sp.hid bW5
  have BR5 := Sp.hid bR5
  have HWS5 := Sp.hid hws5
  clear hch hbc' hsp5 bW5 bR5 hws5 BW2 BR0 HWS HBC HB5 HB3 HB2 HBW2
  by_cases hKm : K < m
  · have hev := HEV.out
    rw [if_pos hKm] at hev
    subst hev
    have hq1 : ((K : Int) == (m : Int)) = false := by simp; omega
    gi_wp2
    have bN := Boxed.new w5 3 (.int .i64 0)
    have bP := Boxed.new (w5.alloc (.cells #[.int .i64 0] 3)) 3 (.int .i64 0)
    rw [World.size_alloc] at bP
    have hB0 : Below w5.heap.size w5 ((w5.alloc (.cells #[.int .i64 0] 3)).alloc (.cells #[.int .i64 0] 3)) := ((Below.refl _ _).alloc (Nat.le_refl _) _).alloc (by simp) _
    have HBN := Sp.hid (bN.alloc (.cells #[.int .i64 0] 3))
    have HBP := Sp.hid bP
    have HB0 := Sp.hid hB0
    clear bN bP hB0
    refine wpIn_rangeFunc_ownG rfl (by omega) (gf := 21) (lb := #[.pointer (some ⟨B, 0, none⟩)]) rfl trivial (enters_of Tryd.func21 (by kernel_rfl) rfl)
      (all_stops 2 (by omega) B w5.heap.size ta tc rs _ (by simp; omega) HCC.out (by rw [← HKL.out]; omega) (by rw [← HKL.out]; omega) hB2 ((HB0.out.cell (p := ⟨B, 0, none⟩) hB2).trans HBCC.out) ((HTS.out.below (fun k hk => hk.2) HB0.out).mono (fun k hk => hk.2)) (HS5.out.below HB0.out (Nat.le_refl _)) hgl)
      belowK_t (belowK_b (by simp; omega)) (Below.refl _ _) (fun _ => rfl)
      (fun pre W => (pre.map nrm = (places 0 rs).take pre.length ∧ Boxed W w5.heap.size 3 (.int .i64 (pre.length : Nat)) ∧ Boxed W (w5.heap.size + 1) 3 (.int .i64 (((rs.take pre.length).flatMap encM).length : Nat))) ∧ Below w5.heap.size w5 W)
      (fun c pre _ => c = .ret ∧ ¬ ∃ k, k ≤ rs.length ∧ pre = (places 0 rs).take k)
      (OwnFrom.and (OwnFrom.and (ownFrom_pure _ _) (OwnFrom.and ((boxed_own _ _ (fun (pre : List (Nat × Int)) => .int .i64 ((pre.length : Nat) : Int))).from _) ((boxed_own _ _ (fun (pre : List (Nat × Int)) => .int .i64 ((((rs.take pre.length).flatMap encM).length : Nat) : Int))).from _))) (ownFrom_below (Nat.le_refl _) (by simp; omega)))
      (fun c => ownFrom_pure _ _)
      ⟨⟨rfl, HBN.out, HBP.out⟩, HB0.out⟩
      ?a1 ?assign ?body ?done ?stop
    case assign =>
      intro l x W K hK
      gi_wp2
      exact hK
    case body =>
      rintro l pre x W ⟨⟨hp, bn, bp⟩, hB⟩ hlt
      have bw : Boxed W w1.heap.size 34 (.slice wa rs.length wc) := (hB.block w1.heap.size (by omega)).trans BW5.out
      have br : Boxed W w.heap.size 4 (.bool false) := (hB.block w.heap.size (by omega)).trans BR5.out
      obtain ⟨bq, oq, rfl, fq, eq⟩ := HWS5.out.int_cell pre.length hlt
      have eq' : W.cell? ⟨bq, oq + pre.length, none⟩ = some (.int .i64 rs[pre.length]) := (hB.cell (p := ⟨bq, _, none⟩) fq).trans eq
      have hwc2 := bw.cell
      have hrc := br.cell
      have hrf := br.frozen
      have hnc := bn.cell
      have hnf2 := bn.frozen
      have hpc := bp.cell
      have hpf := bp.frozen
      have hcr : isChar rs[pre.length] = true := List.all_eq_true.1 HCC.out _ (List.getElem_mem hlt)
      have hnext := fun k hk h => came_next (pre := pre) (x := x) (k := k) HCC.out h hk hlt
      have hmore := fun h1 h2 => came_more (x := x) hp hlt h1 h2
      obtain ⟨n1, n2⟩ := norm_bounds x.2
      obtain ⟨q, hq⟩ : ∃ q, q = pre.length := ⟨_, rfl⟩
      obtain ⟨r, hr⟩ : ∃ r, r = rs[pre.length] := ⟨_, rfl⟩
      obtain ⟨p, hpp⟩ : ∃ p, p = ((rs.take pre.length).flatMap encM).length := ⟨_, rfl⟩
      have hpn : ((rs.take (pre.length + 1)).flatMap encM).length = p + sizeOf_ r := by
        rw [List.take_succ_eq_append_getElem hlt, List.flatMap_append, List.length_append, ← hpp, hr]; simp [encM_length]
      rw [← hr] at eq' hcr hnext hmore
      rw [← hpp] at hpc hnext hmore
      obtain ⟨i, hi⟩ : ∃ i, i = x.1 := ⟨_, rfl⟩
      obtain ⟨y, hy⟩ : ∃ y, y = norm x.2 := ⟨_, rfl⟩
      have hnx : nrm x = (i, y) := by rw [hi, hy]; rfl
      rw [hnx] at hnext
      rw [← hi, ← hy] at hmore ⊢
      rw [← hy] at n1 n2
      have HQ := Sp.hid hq
      rw [← hq] at hlt hnc eq'
      have hpb : p ≤ 1000 := by
        rw [hpp]
        have h1 := HKL.out
        have h2 : ((rs.take pre.length).flatMap encM).length ≤ (rs.flatMap encM).length := by
          conv => rhs; rw [← List.take_append_drop pre.length rs]
          rw [List.flatMap_append, List.length_append]; omega
        omega
      have HNEXT := Sp.hid hnext
      have HMORE := Sp.hid hmore
      have HPN := Sp.hid hpn
      have HBB := Sp.hid hB
      have HBN := Sp.hid bn
      have HBP := Sp.hid bp
      have hbsz := hB.size
      have hbpl := bp.lt
      clear hnext hmore hpn hp hnx hi hy hq hr hpp eq bw br bn bp hB
      obtain ⟨r0, r1⟩ := isChar_bounds hcr
      by_cases hy : y = r
      · by_cases hi : i = p
        · have hmo := HMORE.out hi hy
          have HMO := Sp.hid hmo
          subst hy
          subst hi
          have hlen4 : (encM y).length ≤ 4 := by rw [encM_length]; unfold sizeOf_; split; decide; split; decide; split <;> decide
          obtain ⟨L, hL⟩ : ∃ L, L = (encM y).length := ⟨_, rfl⟩
          have HRB := Sp.hid (fun W => refBytes_any y W r0 r1)
          rw [← hL] at hlen4 HRB
          have HL := Sp.hid hL
          clear hL
          have hmx : Tryd.prog.follows .mixedOrders = true := by kernel_rfl
          clear hmo HNEXT HMORE
          gi_wp2
          gi_region_with_o (refine ⟨trivial, ?_⟩; gi_at_call 10; refine (CallsIn.inRound l (callsIn_wide.2 (HRB.out _))).mono ?_; rintro e w' ⟨cc, rfl, hcc, hsl, hb'⟩; have hpc9 := (hb'.cell (p := ⟨w5.heap.size + 1, 0, none⟩) hbpl).trans hpc; have hpf9 := (World.frozen?_of_block (a := ⟨w5.heap.size + 1, 0, none⟩) (hb'.block _ hbpl)).trans hpf; have hnc9 := (hb'.cell (p := ⟨w5.heap.size, 0, none⟩) (Nat.lt_of_succ_lt hbpl)).trans hnc; have hnf9 := (World.frozen?_of_block (a := ⟨w5.heap.size, 0, none⟩) (hb'.block _ (Nat.lt_of_succ_lt hbpl))).trans hnf2; have HB9 := Sp.hid hb'; have HBN9 := Sp.hid ((hb'.block _ (Nat.lt_of_succ_lt hbpl)).trans HBN.out); have HBP9 := Sp.hid ((hb'.block _ hbpl).trans HBP.out); clear hb' hsl)
          all_goals gi_wp2
          all_goals
            have b1 := (Boxed.other (W := w') (B := w5.heap.size) (B' := w5.heap.size + 1) (t := 3) HBN9.out (by omega) (.int .i64 ((i : Int) + (L : Int)))).set (.int .i64 ((q : Int) + 1))
            have b2 := (Boxed.set (W := w') (B := w5.heap.size + 1) (t := 3) (.int .i64 ((i : Int) + (L : Int))) HBP9.out).other (B' := w5.heap.size) (by omega) (.int .i64 ((q : Int) + 1))
            have hl1 : (pre ++ [x]).length = pre.length + 1 := by simp
            refine ⟨((KeepsOthers.drew _).trans ((KeepsOthers.of_grownBy (row := none) (grown_of_below HB9.out) (fun j o e => by cases e)).trans ((KeepsOthers.setCell _ _ _).trans (KeepsOthers.setCell _ _ _)))).from _, ?_, ⟨HMO.out, ?_, ?_⟩, ?_⟩
            · exact (((Below.refl _ _).drew.trans (HB9.out.mono hbsz)).setCell (p := ⟨w5.heap.size + 1, 0, none⟩) (Nat.le_succ _) _).setCell (p := ⟨w5.heap.size, 0, none⟩) (Nat.le_refl _) _
            · rw [hl1, show ((pre.length + 1 : Nat) : Int) = (q : Int) + 1 by rw [HQ.out]; rfl]; exact b1
            · rw [hl1, HPN.out, ← encM_length, ← HL.out, show ((i + L : Nat) : Int) = (i : Int) + (L : Int) from rfl]; exact b2
            · exact ((HBB.out.drew.trans (HB9.out.mono hbsz)).setCell (p := ⟨w5.heap.size + 1, 0, none⟩) (Nat.le_succ _) _).setCell (p := ⟨w5.heap.size, 0, none⟩) (Nat.le_refl _) _
        · have hib : ((i : Int) != (p : Int)) = true := by simp; omega
          have hnot : ¬ ∃ k, k ≤ rs.length ∧ pre ++ [x] = (places 0 rs).take k := fun ⟨k, hk, h⟩ => by
            have := HNEXT.out k hk h
            simp only [Prod.mk.injEq] at this
            exact hi this.1
          have HNOT := Sp.hid hnot
          subst hy
          clear hnot HNEXT HMORE hi
          gi_wp2
          exact ⟨(KeepsOthers.setCell _ _ _).from _, rfl, HNOT.out⟩
      · have hyb : (y != r) = true := by simpa using hy
        have hnot : ¬ ∃ k, k ≤ rs.length ∧ pre ++ [x] = (places 0 rs).take k := fun ⟨k, hk, h⟩ => by
          have := HNEXT.out k hk h
          simp only [Prod.mk.injEq] at this
          exact hy this.2
        have HNOT := Sp.hid hnot
        clear hnot HNEXT HMORE hy
        gi_wp2
        exact ⟨(KeepsOthers.setCell _ _ _).from _, rfl, HNOT.out⟩
    case done =>
      rintro D ys W hD rfl ⟨⟨hp, bn, bp⟩, hB⟩ hK
      rw [places_length] at bn
      have bw : Boxed W w1.heap.size 34 (.slice wa rs.length wc) := (hB.block w1.heap.size (by omega)).trans BW5.out
      have br : Boxed W w.heap.size 4 (.bool false) := (hB.block w.heap.size (by omega)).trans BR5.out
      have hwc2 := bw.cell
      have hnc := bn.cell
      have hspW := HS5.out.below hB (Nat.le_refl _)
      have hD5 : w5.heap.size ≤ D := by simp at hD; omega
      have HSPW := Sp.hid hspW
      have HBR := Sp.hid br
      have HK := Sp.hid hK
      have HBB := Sp.hid hB
      have hrz := br.lt
      clear hp bn bp br bw hK hB hspW
      gi_wp2_with (refine ⟨trivial, ?_⟩; gi_at_call 7; refine (callsIn_wide.2 (awake_any _ HSPW.out)).mono ?_; rintro e w9 ⟨rfl, hb9⟩; have br9 : Boxed w9 w.heap.size 4 (.bool false) := (hb9.block w.heap.size hrz).trans HBR.out; have hrc := br9.cell; have hrf := br9.frozen; have HK9 := Sp.hid ((hb9.block D ((Array.getElem?_eq_some_iff.1 HK.out).1)).trans HK.out); have HB9 := Sp.hid hb9; clear hb9)
      have hK' := (KeepsOthers.setCell w9 ⟨w.heap.size, 0, none⟩ (.bool true)).same D _ HK9.out rfl
      refine ⟨by simp, .inl ⟨_, _, rfl, run_takeDeferred hK', ?_⟩⟩
      have hc5 := cell_kept (World.cell?_setCell_same' w9 ⟨w.heap.size, 0, none⟩ (.bool true) (by rw [hrc]; rfl)) (grownBy_putObj' _ D (.deferred none)) (fun r e => by cases e; exact ⟨_, hK', rfl⟩)
      have hfin : Below w.heap.size w (w9.setCell ⟨w.heap.size, 0, none⟩ (.bool true)) :=
        ((HF5.out.trans (HBB.out.mono HF5.out.size)).trans (HB9.out.mono (by have := HBB.out.size; have := HF5.out.size; omega))).setCell (p := ⟨w.heap.size, 0, none⟩) (Nat.le_refl _) _
      refine ⟨.bool true, ?_, rfl, hfin.trans (belowK_b (w := w) (Nat.le_refl _) _ D _ _ (by have := HF5.out.size; omega) hK' rfl rfl)⟩
      simp [results, Tryd.f5, go_sem, hc5]
    case stop =>
      rintro D c pre W hD ⟨k, hk, rfl⟩ ⟨rfl, hno⟩ hK
      exact absurd ⟨k, hk, rfl⟩ hno
  · have hev := HEV.out
    rw [if_neg hKm] at hev
    subst hev
    have hq1 : ((K : Int) == (m : Int)) = true := by simp; omega
    gi_wp2
    have bN := Boxed.new w5 3 (.int .i64 0)
    have bP := Boxed.new (w5.alloc (.cells #[.int .i64 0] 3)) 3 (.int .i64 0)
    rw [World.size_alloc] at bP
    have hB0 : Below w5.heap.size w5 ((w5.alloc (.cells #[.int .i64 0] 3)).alloc (.cells #[.int .i64 0] 3)) := ((Below.refl _ _).alloc (Nat.le_refl _) _).alloc (by simp) _
    have HBN := Sp.hid (bN.alloc (.cells #[.int .i64 0] 3))
    have HBP := Sp.hid bP
    have HB0 := Sp.hid hB0
    clear bN bP hB0
    refine wpIn_rangeFunc_ownG rfl (by omega) (gf := 21) (lb := #[.pointer (some ⟨B, 0, none⟩)]) rfl trivial (enters_of Tryd.func21 (by kernel_rfl) rfl)
      (all_stops 2 (by omega) B w5.heap.size ta tc rs _ (by simp; omega) HCC.out (by rw [← HKL.out]; omega) (by rw [← HKL.out]; omega) hB2 ((HB0.out.cell (p := ⟨B, 0, none⟩) hB2).trans HBCC.out) ((HTS.out.below (fun k hk => hk.2) HB0.out).mono (fun k hk => hk.2)) (HS5.out.below HB0.out (Nat.le_refl _)) hgl)
      belowK_t (belowK_b (by simp; omega)) (Below.refl _ _) (fun _ => rfl)
      (fun pre W => (pre.map nrm = (places 0 rs).take pre.length ∧ Boxed W w5.heap.size 3 (.int .i64 (pre.length : Nat)) ∧ Boxed W (w5.heap.size + 1) 3 (.int .i64 (((rs.take pre.length).flatMap encM).length : Nat))) ∧ Below w5.heap.size w5 W)
      (fun c pre _ => c = .ret ∧ ¬ ∃ k, k ≤ rs.length ∧ pre = (places 0 rs).take k)
      (OwnFrom.and (OwnFrom.and (ownFrom_pure _ _) (OwnFrom.and ((boxed_own _ _ (fun (pre : List (Nat × Int)) => .int .i64 ((pre.length : Nat) : Int))).from _) ((boxed_own _ _ (fun (pre : List (Nat × Int)) => .int .i64 ((((rs.take pre.length).flatMap encM).length : Nat) : Int))).from _))) (ownFrom_below (Nat.le_refl _) (by simp; omega)))
      (fun c => ownFrom_pure _ _)
      ⟨⟨rfl, HBN.out, HBP.out⟩, HB0.out⟩
      ?a2 ?assign2 ?body2 ?done2 ?stop2
    case assign2 =>
      intro l x W K hK
      gi_wp2
      exact hK
    case body2 =>
      rintro l pre x W ⟨⟨hp, bn, bp⟩, hB⟩ hlt
      have bw : Boxed W w1.heap.size 34 (.slice wa rs.length wc) := (hB.block w1.heap.size (by omega)).trans BW5.out
      have br : Boxed W w.heap.size 4 (.bool false) := (hB.block w.heap.size (by omega)).trans BR5.out
      obtain ⟨bq, oq, rfl, fq, eq⟩ := HWS5.out.int_cell pre.length hlt
      have eq' : W.cell? ⟨bq, oq + pre.length, none⟩ = some (.int .i64 rs[pre.length]) := (hB.cell (p := ⟨bq, _, none⟩) fq).trans eq
      have hwc2 := bw.cell
      have hrc := br.cell
      have hrf := br.frozen
      have hnc := bn.cell
      have hnf2 := bn.frozen
      have hpc := bp.cell
      have hpf := bp.frozen
      have hcr : isChar rs[pre.length] = true := List.all_eq_true.1 HCC.out _ (List.getElem_mem hlt)
      have hnext := fun k hk h => came_next (pre := pre) (x := x) (k := k) HCC.out h hk hlt
      have hmore := fun h1 h2 => came_more (x := x) hp hlt h1 h2
      obtain ⟨n1, n2⟩ := norm_bounds x.2
      obtain ⟨q, hq⟩ : ∃ q, q = pre.length := ⟨_, rfl⟩
      obtain ⟨r, hr⟩ : ∃ r, r = rs[pre.length] := ⟨_, rfl⟩
      obtain ⟨p, hpp⟩ : ∃ p, p = ((rs.take pre.length).flatMap encM).length := ⟨_, rfl⟩
      have hpn : ((rs.take (pre.length + 1)).flatMap encM).length = p + sizeOf_ r := by
        rw [List.take_succ_eq_append_getElem hlt, List.flatMap_append, List.length_append, ← hpp, hr]; simp [encM_length]
      rw [← hr] at eq' hcr hnext hmore
      rw [← hpp] at hpc hnext hmore
      obtain ⟨i, hi⟩ : ∃ i, i = x.1 := ⟨_, rfl⟩
      obtain ⟨y, hy⟩ : ∃ y, y = norm x.2 := ⟨_, rfl⟩
      have hnx : nrm x = (i, y) := by rw [hi, hy]; rfl
      rw [hnx] at hnext
      rw [← hi, ← hy] at hmore ⊢
      rw [← hy] at n1 n2
      have HQ := Sp.hid hq
      rw [← hq] at hlt hnc eq'
      have hpb : p ≤ 1000 := by
        rw [hpp]
        have h1 := HKL.out
        have h2 : ((rs.take pre.length).flatMap encM).length ≤ (rs.flatMap encM).length := by
          conv => rhs; rw [← List.take_append_drop pre.length rs]
          rw [List.flatMap_append, List.length_append]; omega
        omega
      have HNEXT := Sp.hid hnext
      have HMORE := Sp.hid hmore
      have HPN := Sp.hid hpn
      have HBB := Sp.hid hB
      have HBN := Sp.hid bn
      have HBP := Sp.hid bp
      have hbsz := hB.size
      have hbpl := bp.lt
      clear hnext hmore hpn hp hnx hi hy hq hr hpp eq bw br bn bp hB
      obtain ⟨r0, r1⟩ := isChar_bounds hcr
      by_cases hy : y = r
      · by_cases hi : i = p
        · have hmo := HMORE.out hi hy
          have HMO := Sp.hid hmo
          subst hy
          subst hi
          have hlen4 : (encM y).length ≤ 4 := by rw [encM_length]; unfold sizeOf_; split; decide; split; decide; split <;> decide
          obtain ⟨L, hL⟩ : ∃ L, L = (encM y).length := ⟨_, rfl⟩
          have HRB := Sp.hid (fun W => refBytes_any y W r0 r1)
          rw [← hL] at hlen4 HRB
          have HL := Sp.hid hL
          clear hL
          have hmx : Tryd.prog.follows .mixedOrders = true := by kernel_rfl
          clear hmo HNEXT HMORE
          gi_wp2
          gi_region_with_o (refine ⟨trivial, ?_⟩; gi_at_call 10; refine (CallsIn.inRound l (callsIn_wide.2 (HRB.out _))).mono ?_; rintro e w' ⟨cc, rfl, hcc, hsl, hb'⟩; have hpc9 := (hb'.cell (p := ⟨w5.heap.size + 1, 0, none⟩) hbpl).trans hpc; have hpf9 := (World.frozen?_of_block (a := ⟨w5.heap.size + 1, 0, none⟩) (hb'.block _ hbpl)).trans hpf; have hnc9 := (hb'.cell (p := ⟨w5.heap.size, 0, none⟩) (Nat.lt_of_succ_lt hbpl)).trans hnc; have hnf9 := (World.frozen?_of_block (a := ⟨w5.heap.size, 0, none⟩) (hb'.block _ (Nat.lt_of_succ_lt hbpl))).trans hnf2; have HB9 := Sp.hid hb'; have HBN9 := Sp.hid ((hb'.block _ (Nat.lt_of_succ_lt hbpl)).trans HBN.out); have HBP9 := Sp.hid ((hb'.block _ hbpl).trans HBP.out); clear hb' hsl)
          all_goals gi_wp2
          all_goals
            have b1 := (Boxed.other (W := w') (B := w5.heap.size) (B' := w5.heap.size + 1) (t := 3) HBN9.out (by omega) (.int .i64 ((i : Int) + (L : Int)))).set (.int .i64 ((q : Int) + 1))
            have b2 := (Boxed.set (W := w') (B := w5.heap.size + 1) (t := 3) (.int .i64 ((i : Int) + (L : Int))) HBP9.out).other (B' := w5.heap.size) (by omega) (.int .i64 ((q : Int) + 1))
            have hl1 : (pre ++ [x]).length = pre.length + 1 := by simp
            refine ⟨((KeepsOthers.drew _).trans ((KeepsOthers.of_grownBy (row := none) (grown_of_below HB9.out) (fun j o e => by cases e)).trans ((KeepsOthers.setCell _ _ _).trans (KeepsOthers.setCell _ _ _)))).from _, ?_, ⟨HMO.out, ?_, ?_⟩, ?_⟩
            · exact (((Below.refl _ _).drew.trans (HB9.out.mono hbsz)).setCell (p := ⟨w5.heap.size + 1, 0, none⟩) (Nat.le_succ _) _).setCell (p := ⟨w5.heap.size, 0, none⟩) (Nat.le_refl _) _
            · rw [hl1, show ((pre.length + 1 : Nat) : Int) = (q : Int) + 1 by rw [HQ.out]; rfl]; exact b1
            · rw [hl1, HPN.out, ← encM_length, ← HL.out, show ((i + L : Nat) : Int) = (i : Int) + (L : Int) from rfl]; exact b2
            · exact ((HBB.out.drew.trans (HB9.out.mono hbsz)).setCell (p := ⟨w5.heap.size + 1, 0, none⟩) (Nat.le_succ _) _).setCell (p := ⟨w5.heap.size, 0, none⟩) (Nat.le_refl _) _
        · have hib : ((i : Int) != (p : Int)) = true := by simp; omega
          have hnot : ¬ ∃ k, k ≤ rs.length ∧ pre ++ [x] = (places 0 rs).take k := fun ⟨k, hk, h⟩ => by
            have := HNEXT.out k hk h
            simp only [Prod.mk.injEq] at this
            exact hi this.1
          have HNOT := Sp.hid hnot
          subst hy
          clear hnot HNEXT HMORE hi
          gi_wp2
          exact ⟨(KeepsOthers.setCell _ _ _).from _, rfl, HNOT.out⟩
      · have hyb : (y != r) = true := by simpa using hy
        have hnot : ¬ ∃ k, k ≤ rs.length ∧ pre ++ [x] = (places 0 rs).take k := fun ⟨k, hk, h⟩ => by
          have := HNEXT.out k hk h
          simp only [Prod.mk.injEq] at this
          exact hy this.2
        have HNOT := Sp.hid hnot
        clear hnot HNEXT HMORE hy
        gi_wp2
        exact ⟨(KeepsOthers.setCell _ _ _).from _, rfl, HNOT.out⟩
    case done2 =>
      rintro D ys W hD rfl ⟨⟨hp, bn, bp⟩, hB⟩ hK
      rw [places_length] at bn
      have bw : Boxed W w1.heap.size 34 (.slice wa rs.length wc) := (hB.block w1.heap.size (by omega)).trans BW5.out
      have br : Boxed W w.heap.size 4 (.bool false) := (hB.block w.heap.size (by omega)).trans BR5.out
      have hwc2 := bw.cell
      have hnc := bn.cell
      have hspW := HS5.out.below hB (Nat.le_refl _)
      have hD5 : w5.heap.size ≤ D := by simp at hD; omega
      have HSPW := Sp.hid hspW
      have HBR := Sp.hid br
      have HK := Sp.hid hK
      have HBB := Sp.hid hB
      have hrz := br.lt
      clear hp bn bp br bw hK hB hspW
      gi_wp2_with (refine ⟨trivial, ?_⟩; gi_at_call 7; refine (callsIn_wide.2 (awake_any _ HSPW.out)).mono ?_; rintro e w9 ⟨rfl, hb9⟩; have br9 : Boxed w9 w.heap.size 4 (.bool false) := (hb9.block w.heap.size hrz).trans HBR.out; have hrc := br9.cell; have hrf := br9.frozen; have HK9 := Sp.hid ((hb9.block D ((Array.getElem?_eq_some_iff.1 HK.out).1)).trans HK.out); have HB9 := Sp.hid hb9; clear hb9)
      have hK' := (KeepsOthers.setCell w9 ⟨w.heap.size, 0, none⟩ (.bool true)).same D _ HK9.out rfl
      refine ⟨by simp, .inl ⟨_, _, rfl, run_takeDeferred hK', ?_⟩⟩
      have hc5 := cell_kept (World.cell?_setCell_same' w9 ⟨w.heap.size, 0, none⟩ (.bool true) (by rw [hrc]; rfl)) (grownBy_putObj' _ D (.deferred none)) (fun r e => by cases e; exact ⟨_, hK', rfl⟩)
      have hfin : Below w.heap.size w (w9.setCell ⟨w.heap.size, 0, none⟩ (.bool true)) :=
        ((HF5.out.trans (HBB.out.mono HF5.out.size)).trans (HB9.out.mono (by have := HBB.out.size; have := HF5.out.size; omega))).setCell (p := ⟨w.heap.size, 0, none⟩) (Nat.le_refl _) _
      refine ⟨.bool true, ?_, rfl, hfin.trans (belowK_b (w := w) (Nat.le_refl _) _ D _ _ (by have := HF5.out.size; omega) hK' rfl rfl)⟩
      simp [results, Tryd.f5, go_sem, hc5]
    case stop2 =>
      rintro D c pre W hD ⟨k, hk, rfl⟩ ⟨rfl, hno⟩ hK
      exact absurd ⟨k, hk, rfl⟩ hno

end Go.Proofs.YtbhdkionphemdaaDoor
