/- The walk of PathBack: at every input the law returns true. Conditions: the tables of spans and of powers of ten as laid. -/
import Derived.Test.YtoknglpfchjbjaaGreatDoorLawS
import Derived.Test.YtoknglpfchjbjaaGreatDoorLawP
import Derived.Test.YtoknglpfchjbjaaGreatDoorLawE
import Derived.Test.YtoknglpfchjbjaaGreatDoorTextY
import Derived.Test.YtoknglpfchjbjaaGreatDoorReadI
import Derived.Test.YtoknglpfchjbjaaGreatDoorAwakeX
namespace Go.Proofs.YtoknglpfchjbjaaGreatDoor
open Go.RowKit Go.Sp Go.Maps


theorem sl_grow {x y : World} (hb : Below x.heap.size x y) {a : Option Addr} {l : List StepM} (h : Sl pstepS (· < x.heap.size) x a l) : Sl pstepS (· < y.heap.size) y a l :=
  (h.frame fun b hb' => hb.block b hb').mono fun b hb' => by have : b < x.heap.size := hb'; have := hb.size; omega

set_option maxRecDepth 100000 in
set_option maxHeartbeats 16000000 in
theorem back_walk (steps : List StepM) (sa : Option Addr) (sc : Nat) (w : World) (hsl : Sl pstepS (· < w.heap.size) w sa steps) (hst : steps.length ≤ 9223372036854775807) (hsp : SpansAt w) (ht : PowAt w) :
    Calls Tryz.prog 4 #[.agg #[.slice sa steps.length sc]] w fun e w' => e = .returned (.bool true) ∧ Below w.heap.size w w' := by
  obtain ⟨w1, hw1⟩ : ∃ w1, w1 = w.alloc (.cells #[.slice sa steps.length sc] 25) := ⟨_, rfl⟩
  have hs1 : w.heap.size + 1 ≤ w1.heap.size := by rw [hw1]; simp
  have hb1 : Below w.heap.size w w1 := by rw [hw1]; exact (Below.refl _ _).alloc (Nat.le_refl _) _
  have ht1 : w1.heap[w.heap.size]? = some (.cells #[.slice sa steps.length sc] 25 (0, 0)) := by rw [hw1]; exact World.alloc_heap_new _ _
  have HSL := Sp.hid (fun W (hW : Below w.heap.size w W) => hsl.below (fun k h => h) hW)
  have HSP := Sp.hid (fun W (hW : Below w.heap.size w W) => hsp.below hW (Nat.le_refl _))
  have HPW := Sp.hid (fun W (hW : Below w.heap.size w W) => PowAt.below ht hW)
  have HSM := Sp.hid (small_any (· < w.heap.size) steps sa sc w1 (hsl.below (fun k h => h) hb1) (fun k h => by have : k < w.heap.size := h; omega) hst)
  have HW1 := Sp.hid hw1
  have HB1 := Sp.hid hb1
  have HT1 := Sp.hid ht1
  clear hsl hsp ht hw1 hb1 ht1
  go_enter Tryz.func4, Tryz.ntmps4
  go_wp2_with fail
  rw [← HW1.out]
  refine HSM.out.mono ?_
  rintro e w2 ⟨b, rfl, hsm, hb2⟩
  have hs2 := hb2.size
  have HB2 := Sp.hid (HB1.out.trans (hb2.mono (by omega)) : Below w.heap.size w w2)
  have HT2 := Sp.hid ((hb2.block _ (by omega)).trans HT1.out)
  clear hb2
  cases b
  · have HAW := Sp.hid (awake16_any w2 (HSP.out w2 HB2.out))
    clear hsm
    go_wp2_with fail
    refine HAW.out.mono ?_
    rintro e w3 ⟨rfl, hb3⟩
    have HB3 := Sp.hid (HB2.out.trans (hb3.mono HB2.out.size))
    clear hb3
    go_wp2
    go_ret
    exact ⟨rfl, HB3.out⟩
  · have HSMV := Sp.hid (hsm rfl)
    have c0 : w2.cell? ⟨w.heap.size, 0, none⟩ = some (.slice sa steps.length sc) := cell_at HT2.out 0
    have HTX := Sp.hid (pathText_any (· < w.heap.size) steps sa sc w2 (HSL.out w2 HB2.out) (fun k h => by have : k < w.heap.size := h; omega) hst (hsm rfl) (HSP.out w2 HB2.out) (HPW.out w2 HB2.out))
    clear hsm
    go_wp2_with fail
    refine HTX.out.mono ?_
    rintro e w3 ⟨hb3, hpost⟩
    have hs3 := hb3.size
    have HB3 := Sp.hid (HB2.out.trans (hb3.mono HB2.out.size) : Below w.heap.size w w3)
    have HT3 := Sp.hid ((hb3.block _ (by omega)).trans HT2.out)
    clear hb3 HTX
    rcases hpost with ⟨hne, rfl⟩ | ⟨hok, rfl⟩
    · have HAW := Sp.hid (awake16_any w3 (HSP.out w3 HB3.out))
      obtain ⟨cp, hcp⟩ : ∃ cp, cp = pcheckM steps := ⟨_, rfl⟩
      rw [← hcp] at hne ⊢
      have hne' : (cp != 0) = true := by simpa using hne
      clear hcp hne
      go_wp2_with fail
      refine HAW.out.mono ?_
      rintro e w4 ⟨rfl, hb4⟩
      have HB4 := Sp.hid (HB3.out.trans (hb4.mono HB3.out.size))
      clear hb4
      go_wp2
      go_ret
      exact ⟨rfl, HB4.out⟩
    · obtain ⟨p1, p2, -, -⟩ := pcheck_ok hok
      have HP2 := Sp.hid p2
      have HPT := Sp.hid (parse_text hok HSMV.out)
      have HPS := Sp.hid (parse_any (bsOf (textM steps)) w3 (HSP.out w3 HB3.out))
      clear p2 hok
      go_wp2_with fail
      refine HPS.out.mono ?_
      rintro e w4 ⟨hb4, ⟨l, qa, qc, hpl, -, rfl, hqc, hqs⟩ | ⟨er, hpl, -, -⟩⟩
      rotate_left
      · rw [HPT.out] at hpl; cases hpl
      rw [HPT.out] at hpl
      obtain rfl : steps = l := by simpa using hpl
      have hs4 := hb4.size
      have hb34 := HB3.out.trans (hb4.mono HB3.out.size)
      have HB4 := Sp.hid (hb34 : Below w.heap.size w w4)
      obtain ⟨w5, hw5⟩ : ∃ w5, w5 = w4.alloc (.cells #[.slice qa steps.length qc] 25) := ⟨_, rfl⟩
      have hs5 : w4.heap.size + 1 ≤ w5.heap.size := by rw [hw5]; simp
      have hb5 : Below w4.heap.size w4 w5 := by rw [hw5]; exact (Below.refl _ _).alloc (Nat.le_refl _) _
      have HT5 := Sp.hid (show w5.heap[w.heap.size]? = some (.cells #[.slice sa steps.length sc] 25 (0, 0)) from (hb5.block _ (by omega)).trans ((hb4.block _ (by omega)).trans HT3.out))
      have HQ5 := Sp.hid (show w5.heap[w4.heap.size]? = some (.cells #[.slice qa steps.length qc] 25 (0, 0)) by rw [hw5]; exact World.alloc_heap_new _ _)
      have HQS := Sp.hid (fun W (hW : Below w5.heap.size w5 W) => (hqs.frame fun b hb => (hb5.trans (hW.mono hb5.size)).block b hb.2 : Sl pstepS (fun b => w3.heap.size ≤ b ∧ b < w4.heap.size) W qa steps))
      have HB5 := Sp.hid (HB4.out.trans (hb5.mono HB4.out.size) : Below w.heap.size w w5)
      have HW5 := Sp.hid hw5
      have hwl : w.heap.size < w5.heap.size := by omega
      have hql : w4.heap.size < w5.heap.size := by omega
      clear hb4 hqs hpl hw5 hb5 hb34 HPT HPS
      go_wp2
      rw [← HW5.out]
      refine Sp.wp_region_facts (by kernel_rfl) [some 28, some 29, some 30, some 31, some 32, some 33, some 34, some 35, some 36, some 37, some 38, some 39, some 2]
        [fun v _ => v = .int .i64 0, fun v _ => v = .bool true, fun v _ => v = .bool true, fun v _ => v = .agg #[.slice sa steps.length sc],
          fun v x => ∃ a c, v = .slice a steps.length c ∧ Sl pstepS (· < x.heap.size) x a steps, fun v _ => v = .agg #[.slice qa steps.length qc],
          fun v x => ∃ a c, v = .slice a steps.length c ∧ Sl pstepS (· < x.heap.size) x a steps, fun v _ => v = .bool true, fun v _ => v = .bool true, fun v _ => v = .bool true, fun v _ => v = .bool true, fun v _ => v = .bool true, fun v _ => v = .bool true]
        (fun x => Below w5.heap.size w5 x) (fun _ x y => Below x.heap.size x y) rfl (by kernel_rfl) (by kernel_rfl) (by kernel_rfl) ?fr ?hfr ?G0 ?GR ?FR ?step ?fin
      case hfr => intro u; simp only [Sp.fillFrom, Sp.idx_cons, Sp.idx_nil, Option.some.injEq, reduceCtorEq, reduceIte, Nat.reduceEqDiff, Nat.reduceAdd, Option.map_some, Option.map_none]; exact rfl
      case G0 => exact (Below.refl _ _).drew
      case GR => exact fun _ _ _ hG hR => hG.trans (hR.mono hG.size)
      case FR =>
        iterate 4 (refine ⟨fun _ _ _ _ _ _ _ h => h, ?_⟩)
        refine ⟨?_, fun _ _ _ _ _ _ _ h => h, ?_, ?_⟩
        · rintro i _ v x y _ hR ⟨a, c, e, h⟩; exact ⟨a, c, e, sl_grow hR h⟩
        · rintro i _ v x y _ hR ⟨a, c, e, h⟩; exact ⟨a, c, e, sl_grow hR h⟩
        · iterate 6 (refine ⟨fun _ _ _ _ _ _ _ h => h, ?_⟩)
          trivial
      case step =>
        refine ⟨?_, ?_, ?_, ?_, ?_, ?_, ?_, ?_, ?_, ?_, ?_, ?_, ?_, trivial⟩
        · skip
          intro u x hG hD
          simp only [Sp.DepsHold, Sp.factAt, Region.binds, List.getElem?_cons_zero, List.getElem?_cons_succ, Option.getD_some, and_true, true_implies] at hD
          dsimp only
          have c0 : x.cell? ⟨w.heap.size, 0, none⟩ = some (.slice sa steps.length sc) := cell_at ((hG.block _ hwl).trans HT5.out) 0
          have c1 : x.cell? ⟨w4.heap.size, 0, none⟩ = some (.slice qa steps.length qc) := cell_at ((hG.block _ hql).trans HQ5.out) 0
          clear hG
          repeat (obtain ⟨hE, hD⟩ := hD; (try rw [hE]); clear hE)
          try rw [hD]
          try clear hD
          go_wp2
          (with_reducible apply Sp.rd_close)
          · exact Below.refl _ _
          · exact rfl
          · exact rfl
        · skip
          intro u x hG hD
          simp only [Sp.DepsHold, Sp.factAt, Region.binds, List.getElem?_cons_zero, List.getElem?_cons_succ, Option.getD_some, and_true, true_implies] at hD
          dsimp only
          have c0 : x.cell? ⟨w.heap.size, 0, none⟩ = some (.slice sa steps.length sc) := cell_at ((hG.block _ hwl).trans HT5.out) 0
          have c1 : x.cell? ⟨w4.heap.size, 0, none⟩ = some (.slice qa steps.length qc) := cell_at ((hG.block _ hql).trans HQ5.out) 0
          clear hG
          repeat (obtain ⟨hE, hD⟩ := hD; (try rw [hE]); clear hE)
          try rw [hD]
          try clear hD
          go_wp2
          (with_reducible apply Sp.rd_close)
          · exact Below.refl _ _
          · exact rfl
          · exact rfl
        · skip
          intro u x hG hD
          simp only [Sp.DepsHold, Sp.factAt, Region.binds, List.getElem?_cons_zero, List.getElem?_cons_succ, Option.getD_some, and_true, true_implies] at hD
          dsimp only
          have c0 : x.cell? ⟨w.heap.size, 0, none⟩ = some (.slice sa steps.length sc) := cell_at ((hG.block _ hwl).trans HT5.out) 0
          have c1 : x.cell? ⟨w4.heap.size, 0, none⟩ = some (.slice qa steps.length qc) := cell_at ((hG.block _ hql).trans HQ5.out) 0
          clear hG
          repeat (obtain ⟨hE, hD⟩ := hD; (try rw [hE]); clear hE)
          try rw [hD]
          try clear hD
          go_wp2
          (with_reducible apply Sp.rd_close)
          · exact Below.refl _ _
          · exact rfl
          · exact rfl
        · skip
          intro u x hG hD
          simp only [Sp.DepsHold, Sp.factAt, Region.binds, List.getElem?_cons_zero, List.getElem?_cons_succ, Option.getD_some, and_true, true_implies] at hD
          dsimp only
          have c0 : x.cell? ⟨w.heap.size, 0, none⟩ = some (.slice sa steps.length sc) := cell_at ((hG.block _ hwl).trans HT5.out) 0
          have c1 : x.cell? ⟨w4.heap.size, 0, none⟩ = some (.slice qa steps.length qc) := cell_at ((hG.block _ hql).trans HQ5.out) 0
          clear hG
          repeat (obtain ⟨hE, hD⟩ := hD; (try rw [hE]); clear hE)
          try rw [hD]
          try clear hD
          go_wp2
          (with_reducible apply Sp.rd_close)
          · exact Below.refl _ _
          · exact rfl
          · exact rfl
        · skip
          intro u x hG hD
          simp only [Sp.DepsHold, Sp.factAt, Region.binds, List.getElem?_cons_zero, List.getElem?_cons_succ, Option.getD_some, and_true, true_implies] at hD
          dsimp only
          obtain ⟨h3, h2, -⟩ := hD
          have hx := HB5.out.trans (hG.mono HB5.out.size)
          have HPL := Sp.hid (plain_any (· < w.heap.size) steps sa sc x (HSL.out x hx) (fun k h => by have : k < w.heap.size := h; have := hx.size; omega) (by omega) (fun s hs => by have := HP2.out s hs; omega))
          rw [h3, h2]
          clear hG h3 h2 hx
          go_wp2_with fail
          refine HPL.out.mono ?_
          rintro e x2 ⟨hb2, a2, c2, rfl, hs2⟩
          have HB := Sp.hid hb2
          have HS := Sp.hid hs2
          clear hb2 hs2
          go_wp2
          (with_reducible apply Sp.rd_close)
          · exact HB.out
          · exact rfl
          · exact ⟨a2, c2, rfl, HS.out.mono fun b hb => hb.2⟩
        · skip
          intro u x hG hD
          simp only [Sp.DepsHold, Sp.factAt, Region.binds, List.getElem?_cons_zero, List.getElem?_cons_succ, Option.getD_some, and_true, true_implies] at hD
          dsimp only
          have c1 : x.cell? ⟨w4.heap.size, 0, none⟩ = some (.slice qa steps.length qc) := cell_at ((hG.block _ hql).trans HQ5.out) 0
          clear hG
          rw [hD]
          clear hD
          go_wp2
          (with_reducible apply Sp.rd_close)
          · exact Below.refl _ _
          · exact rfl
          · exact rfl
        · skip
          intro u x hG hD
          simp only [Sp.DepsHold, Sp.factAt, Region.binds, List.getElem?_cons_zero, List.getElem?_cons_succ, Option.getD_some, and_true, true_implies] at hD
          dsimp only
          obtain ⟨h5, h4, h2⟩ := hD
          have HPL := Sp.hid (plain_any (fun b => w3.heap.size ≤ b ∧ b < w4.heap.size) steps qa qc x (HQS.out x hG) (fun k h => by have := h.2; have := hG.size; omega) (by omega) (fun s hs => by have := HP2.out s hs; omega))
          rw [h5, h2]
          clear hG h5 h4 h2
          go_wp2_with fail
          refine HPL.out.mono ?_
          rintro e x2 ⟨hb2, a2, c2, rfl, hs2⟩
          have HB := Sp.hid hb2
          have HS := Sp.hid hs2
          clear hb2 hs2
          go_wp2
          (with_reducible apply Sp.rd_close)
          · exact HB.out
          · exact rfl
          · exact ⟨a2, c2, rfl, HS.out.mono fun b hb => hb.2⟩
        · skip
          intro u x hG hD
          simp only [Sp.DepsHold, Sp.factAt, Region.binds, List.getElem?_cons_zero, List.getElem?_cons_succ, Option.getD_some, and_true, true_implies] at hD
          dsimp only
          obtain ⟨⟨a1, c1, h4, hs1⟩, ⟨a2, c2, h6, hs2⟩, -, h2⟩ := hD
          have HSA := Sp.hid (same_any steps a1 a2 c1 c2 x hs1 hs2 hst (fun s hs => by have := HP2.out s hs; omega))
          rw [h4, h6, h2]
          clear hG h4 h6 h2 hs1 hs2
          go_wp2_with fail
          refine HSA.out.mono ?_
          rintro e x2 ⟨rfl, hb2⟩
          have HB := Sp.hid hb2
          clear hb2
          go_wp2
          (with_reducible apply Sp.rd_close)
          · exact HB.out
          · exact rfl
          · exact rfl
        · skip
          intro u x hG hD
          simp only [Sp.DepsHold, Sp.factAt, Region.binds, List.getElem?_cons_zero, List.getElem?_cons_succ, Option.getD_some, and_true, true_implies] at hD
          dsimp only
          have c0 : x.cell? ⟨w.heap.size, 0, none⟩ = some (.slice sa steps.length sc) := cell_at ((hG.block _ hwl).trans HT5.out) 0
          have c1 : x.cell? ⟨w4.heap.size, 0, none⟩ = some (.slice qa steps.length qc) := cell_at ((hG.block _ hql).trans HQ5.out) 0
          clear hG
          repeat (obtain ⟨hE, hD⟩ := hD; (try rw [hE]); clear hE)
          try rw [hD]
          try clear hD
          go_wp2
          (with_reducible apply Sp.rd_close)
          · exact Below.refl _ _
          · exact rfl
          · exact rfl
        · skip
          intro u x hG hD
          simp only [Sp.DepsHold, Sp.factAt, Region.binds, List.getElem?_cons_zero, List.getElem?_cons_succ, Option.getD_some, and_true, true_implies] at hD
          dsimp only
          have c0 : x.cell? ⟨w.heap.size, 0, none⟩ = some (.slice sa steps.length sc) := cell_at ((hG.block _ hwl).trans HT5.out) 0
          have c1 : x.cell? ⟨w4.heap.size, 0, none⟩ = some (.slice qa steps.length qc) := cell_at ((hG.block _ hql).trans HQ5.out) 0
          clear hG
          repeat (obtain ⟨hE, hD⟩ := hD; (try rw [hE]); clear hE)
          try rw [hD]
          try clear hD
          go_wp2
          (with_reducible apply Sp.rd_close)
          · exact Below.refl _ _
          · exact rfl
          · exact rfl
        · skip
          intro u x hG hD
          simp only [Sp.DepsHold, Sp.factAt, Region.binds, List.getElem?_cons_zero, List.getElem?_cons_succ, Option.getD_some, and_true, true_implies] at hD
          dsimp only
          have hx := HB5.out.trans (hG.mono HB5.out.size)
          have HAW := Sp.hid (awake16_any x (HSP.out x hx))
          obtain ⟨h9, h9'⟩ := hD
          rw [h9]
          clear hG h9 h9' hx
          go_wp2_with fail
          refine HAW.out.mono ?_
          rintro e x2 ⟨rfl, hb2⟩
          have HB := Sp.hid hb2
          clear hb2
          go_wp2
          (with_reducible apply Sp.rd_close)
          · exact HB.out
          · exact rfl
          · exact rfl
        · skip
          intro u x hG hD
          simp only [Sp.DepsHold, Sp.factAt, Region.binds, List.getElem?_cons_zero, List.getElem?_cons_succ, Option.getD_some, and_true, true_implies] at hD
          dsimp only
          have c0 : x.cell? ⟨w.heap.size, 0, none⟩ = some (.slice sa steps.length sc) := cell_at ((hG.block _ hwl).trans HT5.out) 0
          have c1 : x.cell? ⟨w4.heap.size, 0, none⟩ = some (.slice qa steps.length qc) := cell_at ((hG.block _ hql).trans HQ5.out) 0
          clear hG
          repeat (obtain ⟨hE, hD⟩ := hD; (try rw [hE]); clear hE)
          try rw [hD]
          try clear hD
          go_wp2
          (with_reducible apply Sp.rd_close)
          · exact Below.refl _ _
          · exact rfl
          · exact rfl
        · skip
          intro u x hG hD
          simp only [Sp.DepsHold, Sp.factAt, Region.binds, List.getElem?_cons_zero, List.getElem?_cons_succ, Option.getD_some, and_true, true_implies] at hD
          dsimp only
          have c0 : x.cell? ⟨w.heap.size, 0, none⟩ = some (.slice sa steps.length sc) := cell_at ((hG.block _ hwl).trans HT5.out) 0
          have c1 : x.cell? ⟨w4.heap.size, 0, none⟩ = some (.slice qa steps.length qc) := cell_at ((hG.block _ hql).trans HQ5.out) 0
          clear hG
          repeat (obtain ⟨hE, hD⟩ := hD; (try rw [hE]); clear hE)
          try rw [hD]
          try clear hD
          go_wp2
          (with_reducible apply Sp.rd_close)
          · exact Below.refl _ _
          · exact rfl
          · exact rfl
      case fin =>
        intro u x hG hF
        simp only [Sp.AllF, and_true] at hF; (try dsimp only); generalize u 0 = u0 at *; generalize u 1 = u1 at *; generalize u 2 = u2 at *; generalize u 3 = u3 at *; generalize u 4 = u4 at *; generalize u 5 = u5 at *; generalize u 6 = u6 at *; generalize u 7 = u7 at *; generalize u 8 = u8 at *; generalize u 9 = u9 at *; generalize u 10 = u10 at *; generalize u 11 = u11 at *; generalize u 12 = u12 at *; clear u
        obtain ⟨-, -, -, -, -, -, -, -, -, -, -, -, h12⟩ := hF
        rw [h12]
        have HX := Sp.hid (HB5.out.trans (hG.mono HB5.out.size))
        clear hG h12
        go_wp2
        go_ret
        exact ⟨rfl, HX.out⟩

end Go.Proofs.YtoknglpfchjbjaaGreatDoor
