/- spyglasslaw16.Same: of a path, twice in memory, it says yes. Conditions: none. -/
import Derived.Test.YtoknglpfchjbjaaGreatDoorReadZ
namespace Go.Proofs.YtoknglpfchjbjaaGreatDoor
open Go.RowKit Go.Sp

theorem step_read {F : Nat → Prop} {w : World} {a : Option Addr} {xs : List StepM} (h : Sl pstepS F w a xs) (k : Nat) (hk : k < xs.length) : ∃ b o pa pc, a = some ⟨b, o, none⟩ ∧ Sl predS F w pa xs[k].preds ∧ b < w.heap.size ∧
    ∀ W, Below w.heap.size w W → W.cell? ⟨b, o + k * 3, none⟩ = some (.bool xs[k].isAttr) ∧ W.cell? ⟨b, o + k * 3 + 1, none⟩ = some (.string xs[k].name) ∧ W.cell? ⟨b, o + k * 3 + 2, none⟩ = some (.slice pa xs[k].preds.length pc) := by
  obtain ⟨b, o, pa, pc, rfl, fb, -, hpr, e1, e2, e3⟩ := pstep_cells h k hk
  have hb := World.block_lt_of_cell? _ _ e1
  exact ⟨b, o, pa, pc, rfl, hpr, hb, fun W hW => ⟨(hW.cell (p := ⟨b, o + k * 3, none⟩) hb).trans e1, (hW.cell (p := ⟨b, o + k * 3 + 1, none⟩) hb).trans e2, (hW.cell (p := ⟨b, o + k * 3 + 2, none⟩) hb).trans e3⟩⟩
theorem pred_read {F : Nat → Prop} {w : World} {a : Option Addr} {xs : List PredM} (h : Sl predS F w a xs) (k : Nat) (hk : k < xs.length) : ∃ b o, a = some ⟨b, o, none⟩ ∧ b < w.heap.size ∧
    ∀ W, Below w.heap.size w W → W.cell? ⟨b, o + k * 3, none⟩ = some (.string xs[k].attr) ∧ W.cell? ⟨b, o + k * 3 + 1, none⟩ = some (.string xs[k].value) ∧ W.cell? ⟨b, o + k * 3 + 2, none⟩ = some (.int .i64 xs[k].place) := by
  obtain ⟨b, o, rfl, fb, -, e1, e2, e3⟩ := pred_cells h k hk
  have hb := World.block_lt_of_cell? _ _ e1
  exact ⟨b, o, rfl, hb, fun W hW => ⟨(hW.cell (p := ⟨b, o + k * 3, none⟩) hb).trans e1, (hW.cell (p := ⟨b, o + k * 3 + 1, none⟩) hb).trans e2, (hW.cell (p := ⟨b, o + k * 3 + 2, none⟩) hb).trans e3⟩⟩

set_option maxRecDepth 100000 in
set_option maxHeartbeats 16000000 in
theorem same_any (xs : List StepM) (a b : Option Addr) (ca cb : Nat) (w : World) (ha : Sl pstepS (· < w.heap.size) w a xs) (hb : Sl pstepS (· < w.heap.size) w b xs) (hst : xs.length ≤ 9223372036854775807) (hpr : ∀ s ∈ xs, s.preds.length ≤ 9223372036854775807) :
    Calls Tryz.prog 20 #[.slice a xs.length ca, .slice b xs.length cb] w fun e w' => e = .returned (.bool true) ∧ Below w.heap.size w w' := by
  have HA := Sp.hid ha
  have HB := Sp.hid hb
  have HPR := Sp.hid hpr
  have hll : (((xs.length : Nat) : Int) != ((xs.length : Nat) : Int)) = false := by simp
  clear ha hb hpr
  go_enter Tryz.func20, Tryz.ntmps20
  go_wp2
  go_loopw [5] (fun i wr => ∃ k : Nat, k ≤ xs.length ∧ i = .int .i64 k ∧ Below w.heap.size w wr) (fun i _ => xs.length - (intOf i).toNat)
  case atStart => exact ⟨0, Nat.zero_le _, rfl, Below.refl _ _⟩
  case round =>
    obtain ⟨k, hk, rfl, hbw⟩ := hrel
    have hsw := hbw.size
    by_cases hlt : k < xs.length
    · obtain ⟨b1, o1, pa, pc, rfl, hpa, hb1, hc1⟩ := step_read HA.out k hlt
      obtain ⟨b2, o2, pb, pd, rfl, hpb, hb2, hc2⟩ := step_read HB.out k hlt
      have hpl := HPR.out _ (List.getElem_mem hlt)
      obtain ⟨x, hx⟩ : ∃ x, x = xs[k] := ⟨_, rfl⟩
      rw [← hx] at hpa hpb hc1 hc2 hpl
      have HC := Sp.hid (fun W (hG : Below wr.heap.size wr W) => And.intro (hc1 W (hbw.trans (hG.mono hsw))) (hc2 W (hbw.trans (hG.mono hsw))))
      have HPA := Sp.hid hpa
      have HPB := Sp.hid hpb
      have HBW := Sp.hid hbw
      have n1 : (x.isAttr != x.isAttr) = false := by simp
      have n2 : (x.name.toList != x.name.toList) = false := by simp
      have n3 : (((x.preds.length : Nat) : Int) != ((x.preds.length : Nat) : Int)) = false := by simp
      have hbl1 : b1 < wr.heap.size := by omega
      have hbl2 : b2 < wr.heap.size := by omega
      clear hx hpa hpb hc1 hc2 hbw
      go_wp2
      refine Sp.wp_region_read (by kernel_rfl) [some 18, some 19, some 20, some 21, some 22, some 23, some 24, some 25, some 26, some 27, some 28, some 29, some 30, some 31, some 32, some 33, some 34, some 35, some 36, some 37, some 38, some 39, some 40, some 41, some 42, some 43, some 44, some 45, some 46, some 47, some 48, some 49, some 50, some 51, some 52, some 53, some 54, some 55, some 56] [?r1v0, ?r1v1, ?r1v2, ?r1v3, ?r1v4, ?r1v5, ?r1v6, ?r1v7, ?r1v8, ?r1v9, ?r1v10, ?r1v11, ?r1v12, ?r1v13, ?r1v14, ?r1v15, ?r1v16, ?r1v17, ?r1v18, ?r1v19, ?r1v20, ?r1v21, ?r1v22, ?r1v23, ?r1v24, ?r1v25, ?r1v26, ?r1v27, ?r1v28, ?r1v29, ?r1v30, ?r1v31, ?r1v32, ?r1v33, ?r1v34, ?r1v35, ?r1v36, ?r1v37, ?r1v38] rfl (by kernel_rfl) (by kernel_rfl) (by kernel_rfl) ?r1fr ?r1hfr ?r1step ?r1fin
      case r1hfr => intro u; simp only [Sp.fillFrom, Sp.idx_cons, Sp.idx_nil, Option.some.injEq, reduceCtorEq, reduceIte, Nat.reduceEqDiff, Nat.reduceAdd, Option.map_some, Option.map_none]; exact rfl
      case r1step =>
        refine ⟨?_, ?_, ?_, ?_, ?_, ?_, ?_, ?_, ?_, ?_, ?_, ?_, ?_, ?_, ?_, ?_, ?_, ?_, ?_, ?_, ?_, ?_, ?_, ?_, ?_, ?_, ?_, ?_, ?_, ?_, ?_, ?_, ?_, ?_, ?_, ?_, ?_, ?_, ?_, trivial⟩
        all_goals
          intro u w1 hG hD; simp only [Sp.DepsHold, List.map_cons, List.map_nil, Sp.isV, Sp.any_text, Sp.any_gc, Bool.false_eq_true, false_implies, Sp.factAt, Region.binds, List.getElem?_cons_zero, List.getElem?_cons_succ, List.getElem?_nil, Option.getD_some, Option.getD_none, and_true, true_and, true_implies, implies_true] at hD; dsimp only
          obtain ⟨⟨c0, c1, c2⟩, d0, d1, d2⟩ := HC.out w1 hG
          clear hG
          repeat (obtain ⟨hE, hD⟩ := hD; (try rw [hE]); clear hE)
          try rw [hD]
          try clear hD
          go_wp2_with (fail)
          (with_reducible apply Sp.rd_close); (first | exact HB2.out | exact Below.refl _ _); exact rfl; refine Sp.isV_at ?_; exact rfl
      case r1fin => 
        intro w' hG; simp only [List.getElem?_cons_zero, List.getElem?_cons_succ, Option.getD_some]
        have HG := Sp.hid (HBW.out.trans (hG.mono hsw))
        have hgs := hG.size
        have HC2 := Sp.hid (fun W (hW : Below w'.heap.size w' W) => HC.out W (hG.trans (hW.mono hgs)))
        clear hG HC HBW
        obtain ⟨wo, hwo⟩ : ∃ wo, wo = w' := ⟨_, rfl⟩
        rw [← hwo] at HG HC2 hgs ⊢
        have hwz : wr.heap.size ≤ wo.heap.size := hgs
        clear hwo hgs
        obtain ⟨wq, hwq⟩ : ∃ wq, wq = wr := ⟨_, rfl⟩
        subst hwq
        go_wp2
        go_loopw [6] (fun i wr => ∃ m : Nat, m ≤ x.preds.length ∧ i = .int .i64 m ∧ Below wo.heap.size wo wr) (fun i _ => x.preds.length - (intOf i).toNat)
        case atStart => exact ⟨0, Nat.zero_le _, rfl, Below.refl _ _⟩
        case round =>
          obtain ⟨m, hm, rfl, hbi⟩ := hrel
          have hsi := hbi.size
          obtain ⟨⟨-, -, c2⟩, -, -, d2⟩ := HC2.out wr hbi
          have HBI := Sp.hid hbi
          by_cases hmt : m < x.preds.length
          · obtain ⟨b3, o3, rfl, hb3, hc3⟩ := pred_read HPA.out m hmt
            obtain ⟨b4, o4, rfl, hb4, hc4⟩ := pred_read HPB.out m hmt
            obtain ⟨q, hq⟩ : ∃ q, q = x.preds[m] := ⟨_, rfl⟩
            rw [← hq] at hc3 hc4
            have hw0 := HG.out
            have HQ := Sp.hid (fun W (hG : Below wr.heap.size wr W) => And.intro (HC2.out W (hbi.trans (hG.mono hsi))) (And.intro (hc3 W (hw0.trans ((hbi.trans (hG.mono hsi)).mono hw0.size))) (hc4 W (hw0.trans ((hbi.trans (hG.mono hsi)).mono hw0.size)))))
            have hwo := hw0.size
            have hbl3 : b3 < wr.heap.size := by omega
            have hbl4 : b4 < wr.heap.size := by omega
            have m1 : (q.attr.toList != q.attr.toList) = false := by simp
            have m2 : (q.value.toList != q.value.toList) = false := by simp
            have m3 : (q.place != q.place) = false := by simp
            clear hq hc3 hc4 hbi hw0
            go_wp2
            clear c2 d2
            refine Sp.wp_region_read (by kernel_rfl) [some 67, some 68, some 69, some 70, some 71, some 72, some 73, some 74, some 75, some 76, some 77, some 78, some 79, some 80, some 81, some 82, some 83] [?r2v0, ?r2v1, ?r2v2, ?r2v3, ?r2v4, ?r2v5, ?r2v6, ?r2v7, ?r2v8, ?r2v9, ?r2v10, ?r2v11, ?r2v12, ?r2v13, ?r2v14, ?r2v15, ?r2v16] rfl (by kernel_rfl) (by kernel_rfl) (by kernel_rfl) ?r2fr ?r2hfr ?r2step ?r2fin
            case r2hfr => intro u; simp only [Sp.fillFrom, Sp.idx_cons, Sp.idx_nil, Option.some.injEq, reduceCtorEq, reduceIte, Nat.reduceEqDiff, Nat.reduceAdd, Option.map_some, Option.map_none]; exact rfl
            case r2step =>
              refine ⟨?_, ?_, ?_, ?_, ?_, ?_, ?_, ?_, ?_, ?_, ?_, ?_, ?_, ?_, ?_, ?_, ?_, trivial⟩
              all_goals
                intro u w1 hG hD; simp only [Sp.DepsHold, List.map_cons, List.map_nil, Sp.isV, Sp.any_text, Sp.any_gc, Bool.false_eq_true, false_implies, Sp.factAt, Region.binds, List.getElem?_cons_zero, List.getElem?_cons_succ, List.getElem?_nil, Option.getD_some, Option.getD_none, and_true, true_and, true_implies, implies_true] at hD; dsimp only
                obtain ⟨⟨⟨-, -, c2⟩, -, -, d2⟩, ⟨f0, f1, f2⟩, g0, g1, g2⟩ := HQ.out w1 hG
                clear hG
                repeat (obtain ⟨hE, hD⟩ := hD; (try rw [hE]); clear hE)
                try rw [hD]
                try clear hD
                go_wp2_with (fail)
                (with_reducible apply Sp.rd_close); (first | exact HB2.out | exact Below.refl _ _); exact rfl; refine Sp.isV_at ?_; exact rfl
            case r2fin => 
              intro w' hG; simp only [List.getElem?_cons_zero, List.getElem?_cons_succ, Option.getD_some]
              have HG2 := Sp.hid (HBI.out.trans (hG.mono hsi))
              clear hG
              go_wp2
              go_roundw
              case rel => exact ⟨m + 1, by omega, by go_num, HG2.out⟩
              case measure => simp [intOf]; omega
          · obtain rfl : m = x.preds.length := by omega
            clear hbi
            go_wp2
            go_roundw
            case rel => exact ⟨k + 1, by omega, by go_num, HG.out.trans (HBI.out.mono HG.out.size)⟩
            case measure => simp [intOf]; omega
    · obtain rfl : k = xs.length := by omega
      have HBW := Sp.hid hbw
      clear hbw
      go_wp2
      go_ret
      exact ⟨rfl, HBW.out⟩

end Go.Proofs.YtoknglpfchjbjaaGreatDoor
