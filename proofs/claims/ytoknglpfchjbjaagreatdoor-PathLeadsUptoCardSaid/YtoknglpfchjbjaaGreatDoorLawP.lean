/- spyglasslaw16.Plain: a path, copied. Conditions: up to 2^16 steps, of up to 2^16 predicates each. -/
import Derived.Test.YtoknglpfchjbjaaGreatDoorReadZ
namespace Go.Proofs.YtoknglpfchjbjaaGreatDoor
open Go.RowKit Go.Sp Go.Maps

theorem infoRStep : (Tryz.prog.info? 89).map (fun i => (i.zero, i.size, i.bytes)) = some (some (.agg #[.bool false, .string ⟨#[]⟩, .slice none 0 0]), 3, 48) := by kernel_rfl
theorem infoRPred : (Tryz.prog.info? 91).map (fun i => (i.zero, i.size, i.bytes)) = some (some (.agg #[.string ⟨#[]⟩, .string ⟨#[]⟩, .int .i64 0]), 3, 40) := by kernel_rfl

def PlainPost (steps : List StepM) (w : World) (e : Ending) (w' : World) : Prop := Below w.heap.size w w' ∧
  ∃ a c, e = .returned (.slice a steps.length c) ∧ Sl pstepS (fun b => w.heap.size ≤ b ∧ b < w'.heap.size) w' a steps

theorem own_rpreds {w : World} {base : Nat} {e : TypeId} {pv : Value} {qs : List PredM} (h : w.ownsRow base e 3 pv qs.length (qs.flatMap predCells)) (hq : ∀ q ∈ qs, q.attr.size ≤ maxLen ∧ q.value.size ≤ maxLen ∧ (-9223372036854775808 ≤ q.place ∧ q.place ≤ 9223372036854775807)) :
    ∃ a c, pv = .slice a qs.length c ∧ Sl predS (fun b => pv.ownBlock = some b) w a qs := by
  have h' : w.ownsRow base e predS.sz pv qs.length ((qs.map fun q => (predCells q, q)).flatMap (·.1)) := by rw [List.flatMap_map]; exact h
  obtain ⟨a, c, h1, h2⟩ := own_sl (S := predS) (F := fun b => pv.ownBlock = some b) h' (by simp) (fun x hx => by
    obtain ⟨q, hq', rfl⟩ := List.mem_map.1 hx
    exact ⟨rfl, hq q hq'⟩) (fun g hg => hg)
  refine ⟨a, c, h1, ?_⟩
  have e : (qs.map fun q => (predCells q, q)).map (·.2) = qs := by rw [List.map_map]; exact List.map_id _
  rwa [e] at h2
theorem preds_bounds {F : Nat → Prop} {w : World} {a : Option Addr} {qs : List PredM} (h : Sl predS F w a qs) : ∀ q ∈ qs, q.attr.size ≤ maxLen ∧ q.value.size ≤ maxLen ∧ (-9223372036854775808 ≤ q.place ∧ q.place ≤ 9223372036854775807) := by
  intro q hq
  obtain ⟨i, hi, rfl⟩ := List.getElem_of_mem hq
  obtain ⟨_, _, _, _, h1, _⟩ := pred_cells h i hi
  exact h1
theorem rflat_next {l : List PredM} {k : Nat} (hk : k < l.length) : (l.take (k + 1)).flatMap predCells = (l.take k).flatMap predCells ++ predCells l[k] := by
  rw [List.take_succ_eq_append_getElem hk, List.flatMap_append]; simp

def PlainInv (steps : List StepM) (w1 : World) (v : Value) (i : Value) (wr : World) : Prop := ∃ (xs : List (List Value × StepM)) (k : Nat), k ≤ steps.length ∧ i = .int .i64 k ∧ xs.length = k ∧ xs.map (·.2) = steps.take k ∧
  wr.ownsRow w1.heap.size 89 3 v xs.length (xs.flatMap (·.1)) ∧ (∀ x ∈ xs, pstepS.rep (ElF w1.heap.size wr v) wr x.1 x.2) ∧ Below w1.heap.size w1 wr

set_option maxRecDepth 100000 in
set_option maxHeartbeats 16000000 in
theorem plain_any (F : Nat → Prop) (steps : List StepM) (sa : Option Addr) (sc : Nat) (w : World) (hsl : Sl pstepS F w sa steps) (hF : ∀ k, F k → k < w.heap.size) (hst : steps.length ≤ 65536) (hpr : ∀ s ∈ steps, s.preds.length ≤ 65536) :
    Calls Tryz.prog 14 #[.agg #[.slice sa steps.length sc]] w (PlainPost steps w) := by
  obtain ⟨i0, hi0, hz0, hz1, hz2⟩ := info_parts infoRStep
  obtain ⟨j0, hj0, hy0, hy1, hy2⟩ := info_parts infoRPred
  obtain ⟨w1, hw1⟩ : ∃ w1, w1 = w.alloc (.cells #[.slice sa steps.length sc] 25) := ⟨_, rfl⟩
  have hs1 : w.heap.size + 1 ≤ w1.heap.size := by rw [hw1]; simp
  have hb1 : Below w.heap.size w w1 := by rw [hw1]; exact (Below.refl _ _).alloc (Nat.le_refl _) _
  have ht1 : w1.heap[w.heap.size]? = some (.cells #[.slice sa steps.length sc] 25 (0, 0)) := by rw [hw1]; exact World.alloc_heap_new _ _
  have HSL := Sp.hid (hsl.below hF hb1)
  have HF := Sp.hid hF
  have HPR := Sp.hid hpr
  have HW1 := Sp.hid hw1
  have HB1 := Sp.hid hb1
  have HT1 := Sp.hid ht1
  clear hsl hF hw1 hb1 ht1 hpr
  go_enter Tryz.func14, Tryz.ntmps14
  go_wp2
  rw [← HW1.out]
  go_loopw [3, 4] (fun v i wr => PlainInv steps w1 v i wr) (fun _ i _ => steps.length - (intOf i).toNat)
  case atStart => exact ⟨[], 0, Nat.zero_le _, rfl, rfl, rfl, World.ownsRow_nil _ _ _ _, by simp, Below.refl _ _⟩
  case round =>
    obtain ⟨xs, k, hk, rfl, hxk, hxs, hown, hel, hb⟩ := hrel
    obtain ⟨wo, rfl⟩ : ∃ wo, wo = wr := ⟨_, rfl⟩
    have hsw := hb.size
    have hbw : Below w.heap.size w wo := HB1.out.trans (hb.mono (by omega))
    have t0 : wo.cell? ⟨w.heap.size, 0, none⟩ = some (.slice sa steps.length sc) := cell_at ((hb.block _ (by omega)).trans HT1.out) 0
    by_cases hlt : k < steps.length
    · have hF1 : ∀ k, F k → k < w1.heap.size := fun k hk => Nat.lt_of_lt_of_le (HF.out k hk) HB1.out.size
      obtain ⟨b, o, pa, pc, rfl, fb, ⟨hn, hpl⟩, hpr, e1, e2, e3⟩ := pstep_cells (HSL.out.below hF1 (hb.mono (Nat.le_refl _))) k hlt
      have hbr : b < wo.heap.size := World.block_lt_of_cell? _ _ e1
      have hnext : xs.map (·.2) ++ [steps[k]] = steps.take (k + 1) := by rw [hxs, List.take_succ_eq_append_getElem hlt]
      have hpm := HPR.out _ (List.getElem_mem hlt)
      obtain ⟨x, hx⟩ : ∃ x, x = steps[k] := ⟨_, rfl⟩
      rw [← hx] at hn hpl hpr e1 e2 e3 hnext hpm
      obtain ⟨w2, hw2⟩ : ∃ w2, w2 = wo.alloc (.cells #[.bool x.isAttr, .string x.name, .slice pa x.preds.length pc] 68) := ⟨_, rfl⟩
      have hs2 : w2.heap.size = wo.heap.size + 1 := by rw [hw2]; simp
      have hb2 : Below wo.heap.size wo w2 := by rw [hw2]; exact (Below.refl _ _).alloc (Nat.le_refl _) _
      have hh2 : w2.heap[wo.heap.size]? = some (.cells #[.bool x.isAttr, .string x.name, .slice pa x.preds.length pc] 68 (0, 0)) := by rw [hw2]; exact World.alloc_heap_new _ _
      obtain ⟨w3, hw3⟩ : ∃ w3, w3 = w2.alloc (.cells #[.bool x.isAttr, .string x.name, .slice none 0 0] 89) := ⟨_, rfl⟩
      have hs3 : w3.heap.size = wo.heap.size + 2 := by rw [hw3]; simp; omega
      have hb3 : Below w2.heap.size w2 w3 := by rw [hw3]; exact (Below.refl _ _).alloc (Nat.le_refl _) _
      have hh3 : w3.heap[wo.heap.size]? = some (.cells #[.bool x.isAttr, .string x.name, .slice pa x.preds.length pc] 68 (0, 0)) := (hb3.block _ (by omega)).trans hh2
      have hx3 : w3.heap[wo.heap.size + 1]? = some (.cells #[.bool x.isAttr, .string x.name, .slice none 0 0] 89 (0, 0)) := by
        rw [hw3, ← hs2]; exact World.alloc_heap_new _ _
      have hbr3 : Below wo.heap.size wo w3 := hb2.trans (hb3.mono (by omega))
      have hFr : ∀ k, F k → k < wo.heap.size := fun k hk => Nat.lt_of_lt_of_le (hF1 k hk) hsw
      have HW3 := Sp.hid (show w3 = (wo.alloc (.cells #[.bool x.isAttr, .string x.name, .slice pa x.preds.length pc] 68)).alloc (.cells #[.bool x.isAttr, .string x.name, .slice none 0 0] 89) by rw [hw3, hw2])
      have HP3 := Sp.hid (hpr.below hFr hbr3)
      have HFR := Sp.hid hFr
      have HBR3 := Sp.hid hbr3
      have HH3 := Sp.hid hh3
      have HX3 := Sp.hid hx3
      have HNX := Sp.hid hnext
      have HO := Sp.hid hown
      have HEL := Sp.hid hel
      have HB := Sp.hid hb
      have HNM := Sp.hid hn
      have HPL := Sp.hid hpl
      have hs3a : wo.heap.size + 2 ≤ w3.heap.size := by omega
      have hs3b : w3.heap.size ≤ wo.heap.size + 2 := by omega
      clear hx hw2 hw3 hs2 hb2 hh2 hb3 hh3 hx3 hbr3 hFr hF1 hpr hnext hown hel hb hbw hxs hn hpl fb hs3
      go_wp2
      rw [← HW3.out]
      go_loopw [7] (fun i wr => ∃ (m : Nat) (pv : Value), m ≤ x.preds.length ∧ i = .int .i64 m ∧ wr.heap[wo.heap.size + 1]? = some (.cells #[.bool x.isAttr, .string x.name, pv] 89 (0, 0)) ∧ wr.ownsRow w3.heap.size 91 3 pv m ((x.preds.take m).flatMap predCells) ∧ w3.grownBy wr (some (wo.heap.size + 1))) (fun i _ => x.preds.length - (intOf i).toNat)
      case atStart => exact ⟨0, .slice none 0 0, Nat.zero_le _, rfl, HX3.out, World.ownsRow_nil _ _ _ _, grown_refl _ _⟩
      case round =>
        obtain ⟨m, pv, hm, rfl, hxi, hpo, hg3⟩ := hrel
        have hsi := hg3.size
        have hsin : wr.heap[wo.heap.size]? = some (.cells #[.bool x.isAttr, .string x.name, .slice pa x.preds.length pc] 68 (0, 0)) := (hg3.block _ (by omega) (fun e => by have := Option.some.inj e; omega)).trans HH3.out
        have s2 : wr.cell? ⟨wo.heap.size, 2, none⟩ = some (.slice pa x.preds.length pc) := cell_at hsin 2
        have x2 : wr.cell? ⟨wo.heap.size + 1, 2, none⟩ = some pv := cell_at hxi 2
        have hxl : wo.heap.size + 1 < wr.heap.size := by omega
        by_cases hmt : m < x.preds.length
        · obtain ⟨b2, o2, rfl, fb2, -, d1, d2, d3⟩ := pred_cells HP3.out m hmt
          have hb2l := HFR.out _ fb2
          have hk2 : ∀ j, w3.cell? ⟨b2, j, none⟩ = wr.cell? ⟨b2, j, none⟩ := fun j => by
            have := hg3.block b2 (by omega) (fun e => by cases e; omega)
            simp [World.cell?, this]
          rw [hk2] at d1 d2 d3
          have hnx := rflat_next hmt
          obtain ⟨q, hq⟩ : ∃ q, q = x.preds[m] := ⟨_, rfl⟩
          rw [← hq] at d1 d2 d3 hnx
          have hpb : some b2 ≠ pv.ownBlock := fun e => by have := (hpo.lt b2 e.symm).1; omega
          have hps : some wo.heap.size ≠ pv.ownBlock := fun e => by have := (hpo.lt _ e.symm).1; omega
          have hpx : some (wo.heap.size + 1) ≠ pv.ownBlock := fun e => by have := (hpo.lt _ e.symm).1; omega
          have HPO := Sp.hid hpo
          have HXI := Sp.hid hxi
          have HG3 := Sp.hid hg3
          have HNQ := Sp.hid hnx
          have HPX := Sp.hid hpx
          have HS2 := Sp.hid s2
          have HX2 := Sp.hid x2
          have HD1 := Sp.hid d1
          have HD2 := Sp.hid d2
          have HD3 := Sp.hid d3
          clear hq hk2 hnx hpo hxi hg3 hsin hpb hps hpx fb2 d1 d2 d3 t0 e1 e2 e3
          go_wp2
          clear s2 x2
          refine wp_region_two (by kernel_rfl) [some 32, some 33, some 34, some 35, some 36, some 37, some 38, some 39, some 40, some 41, some 42, some 43, some 44, some 45, some 46, some 47, some 48, some 49, some 50, some 51, some 52, some 53, some 54, some 55, none]
            [fun v _ => v = .pointer (some ⟨wo.heap.size + 1, 2, none⟩), fun v _ => v = pv,
              fun v _ => v = .pointer (some ⟨wo.heap.size, 2, none⟩), fun v _ => v = .slice (some ⟨b2, o2, none⟩) x.preds.length pc, fun v _ => v = .int .i64 (m : Nat), fun v _ => v = .pointer (some ⟨b2, o2 + m * 3, none⟩), fun v _ => v = .pointer (some ⟨b2, o2 + m * 3, none⟩), fun v _ => v = .string q.attr,
              fun v _ => v = .pointer (some ⟨wo.heap.size, 2, none⟩), fun v _ => v = .slice (some ⟨b2, o2, none⟩) x.preds.length pc, fun v _ => v = .int .i64 (m : Nat), fun v _ => v = .pointer (some ⟨b2, o2 + m * 3, none⟩), fun v _ => v = .pointer (some ⟨b2, o2 + m * 3 + 1, none⟩), fun v _ => v = .string q.value,
              fun v _ => v = .pointer (some ⟨wo.heap.size, 2, none⟩), fun v _ => v = .slice (some ⟨b2, o2, none⟩) x.preds.length pc, fun v _ => v = .int .i64 (m : Nat), fun v _ => v = .pointer (some ⟨b2, o2 + m * 3, none⟩), fun v _ => v = .pointer (some ⟨b2, o2 + m * 3 + 2, none⟩), fun v _ => v = .int .i64 q.place,
              fun v _ => v = .agg #[.string q.attr, .string q.value, .int .i64 q.place],
              fun v y => ∃ z, v = .slice (some ⟨z, 0, none⟩) 1 1 ∧ wr.heap.size ≤ z ∧ y.heap[z]? = some (.cells #[.string q.attr, .string q.value, .int .i64 q.place] 91 (0, 0)),
              fun v y => y.ownsRow w3.heap.size 91 3 v (m + 1) ((x.preds.take m).flatMap predCells ++ [.string q.attr, .string q.value, .int .i64 q.place]) ∧ (v.ownBlock = pv.ownBlock ∨ ∃ z, v.ownBlock = some z ∧ wr.heap.size ≤ z),
              fun v _ => v = .pointer (some ⟨wo.heap.size + 1, 2, none⟩)]
            22 [21, 20, 19, 18, 17, 16, 15, 14, 13, 12, 11, 10, 9, 8, 7, 6, 5, 4, 3, 2, 1, 0]
            (fun b w' => wr.grownBy w' (if b then pv.ownBlock else none))
            (fun i w w' => w.grownBy w' (if i = 22 then pv.ownBlock else none)) rfl (by kernel_rfl) (by kernel_rfl) (by kernel_rfl) (by kernel_rfl) (by kernel_rfl) ?fr2 ?hfr2 ?G02 ?GR2 ?FR2 ?step2 _ rfl ?fin2
          case hfr2 => intro u; simp only [Sp.fillFrom, Sp.idx_cons, Sp.idx_nil, Option.some.injEq, reduceCtorEq, reduceIte, Nat.reduceEqDiff, Nat.reduceAdd, Option.map_some, Option.map_none]; exact rfl
          case G02 => exact ⟨rfl, rfl, rfl, Nat.le_refl _, fun _ _ _ => rfl⟩
          case GR2 =>
            intro i b y1 y2 hG hR
            cases b
            · by_cases hi : i = 22
              · simp only [hi, if_true] at hR ⊢; exact grown_trans (grown_weak hG) hR
              · simp only [if_neg hi] at hR; simp only [hi, decide_false, Bool.or_false]; exact grown_trans hG hR
            · simp only [if_true, Bool.true_or] at hG ⊢
              by_cases hi : i = 22
              · simp only [hi, if_true] at hR; exact grown_trans hG hR
              · simp only [if_neg hi] at hR; exact grown_trans hG (grown_weak hR)
          case FR2 =>
            iterate 21 (refine ⟨fun _ _ _ _ _ _ _ h => h, ?_⟩)
            refine ⟨?_, ?_, fun _ _ _ _ _ _ _ h => h, trivial⟩
            · rintro i hi v y1 y2 _ hR ⟨z, rfl, hz, hc⟩
              refine ⟨z, rfl, hz, (hR.block z (Array.getElem?_eq_some_iff.1 hc).1 ?_).trans hc⟩
              split
              · intro e1
                have := (HPO.out.lt z e1.symm).2
                omega
              · simp
            · rintro i hi v y1 y2 _ hR ⟨hw, hl'⟩
              rw [if_neg hi] at hR
              exact ⟨hw.kept hR (by cases v.ownBlock <;> simp), hl'⟩
          case step2 =>
            refine ⟨?_, ?_, ?_, ?_, ?_, ?_, ?_, ?_, ?_, ?_, ?_, ?_, ?_, ?_, ?_, ?_, ?_, ?_, ?_, ?_, ?_, ?_, ?_, ?_, trivial⟩
            all_goals
              intro u y1 b hbb hG hD
              simp only [Sp.DepsHold, Sp.any_text, Sp.any_gc, Bool.false_eq_true, false_implies, Sp.factAt, Region.binds, List.getElem?_cons_zero, List.getElem?_cons_succ, List.getElem?_nil, Option.getD_some, Option.getD_none, and_true, true_and, true_implies, implies_true] at hD
              dsimp only
            -- 0 .. 20
            iterate 21
              · obtain rfl : b = false := hbb (.inl (by simp))
                have c2 : y1.cell? ⟨wo.heap.size + 1, 2, none⟩ = some pv := hG.cell (a := ⟨wo.heap.size + 1, 2, none⟩) HX2.out (by simp)
                have c3 : y1.cell? ⟨wo.heap.size, 2, none⟩ = some (.slice (some ⟨b2, o2, none⟩) x.preds.length pc) := hG.cell (a := ⟨wo.heap.size, 2, none⟩) HS2.out (by simp)
                have q1 : y1.cell? ⟨b2, o2 + m * 3, none⟩ = some (.string q.attr) := hG.cell (a := ⟨b2, o2 + m * 3, none⟩) HD1.out (by simp)
                have q2 : y1.cell? ⟨b2, o2 + m * 3 + 1, none⟩ = some (.string q.value) := hG.cell (a := ⟨b2, o2 + m * 3 + 1, none⟩) HD2.out (by simp)
                have q3 : y1.cell? ⟨b2, o2 + m * 3 + 2, none⟩ = some (.int .i64 q.place) := hG.cell (a := ⟨b2, o2 + m * 3 + 2, none⟩) HD3.out (by simp)
                clear hG hbb
                repeat (obtain ⟨hE, hD⟩ := hD; (try rw [hE]); clear hE)
                try rw [hD]
                try clear hD
                go_wp2
                exact ⟨grown_refl _ _, _, rfl, rfl⟩
            -- 21
            · have hGs := hG.size
              rw [hD]
              clear hG hbb hD
              go_wp2
              exact ⟨World.grownBy_alloc _ _ _, _, rfl, _, rfl, hGs, World.alloc_heap_new _ _⟩
            -- 22
            · obtain rfl : b = false := hbb (.inr rfl)
              obtain ⟨h1, z, h21, hz, hc⟩ := hD
              have hGs := hG.size
              have hrow1 : y1.ownsRow w3.heap.size 91 3 pv m ((x.preds.take m).flatMap predCells) := HPO.out.kept hG (by cases pv.ownBlock <;> simp)
              rw [h1, h21]
              refine wpList_append_own_at _ rfl _ _ 87 rfl w3.heap.size 91 j0 _ 3 40 Tryz.underlying87 hj0 hy0 hy1 hy2 rfl (by decide) _ _ _ rfl hrow1 ⟨z, 0, none⟩ 1 1 [.string q.attr, .string q.value, .int .i64 q.place] rfl rfl ?_ ?_ (by unfold maxLen; omega) (by omega) (by omega) ?_
              · intro j u hj
                have hadd : (⟨z, 0, none⟩ : Addr).add j = ⟨z, j, none⟩ := by unfold Addr.add; split <;> simp_all
                rw [hadd, cell_at hc]
                simpa using hj
              · intro u hu; simp at hu; rcases hu with rfl | rfl | rfl <;> rfl
              intro v' y2 hown' hgrow _ hloc
              refine wpList_nil ?_
              refine ⟨hgrow, v', rfl, hown', ?_⟩
              rcases hloc with h | h
              · exact .inl h
              · exact .inr ⟨_, h, hGs⟩
            -- 23
            · clear hG hbb hD
              go_wp2
              exact ⟨grown_refl _ _, _, rfl, rfl⟩
          case fin2 =>
            intro u y1 b hG hF
            simp only [Sp.AllF, and_true] at hF; (try dsimp only); generalize u 0 = u0 at *; generalize u 1 = u1 at *; generalize u 2 = u2 at *; generalize u 3 = u3 at *; generalize u 4 = u4 at *; generalize u 5 = u5 at *; generalize u 6 = u6 at *; generalize u 7 = u7 at *; generalize u 8 = u8 at *; generalize u 9 = u9 at *; generalize u 10 = u10 at *; generalize u 11 = u11 at *; generalize u 12 = u12 at *; generalize u 13 = u13 at *; generalize u 14 = u14 at *; generalize u 15 = u15 at *; generalize u 16 = u16 at *; generalize u 17 = u17 at *; generalize u 18 = u18 at *; generalize u 19 = u19 at *; generalize u 20 = u20 at *; generalize u 21 = u21 at *; generalize u 22 = u22 at *; generalize u 23 = u23 at *; clear u
            obtain ⟨-, -, -, -, -, -, -, -, -, -, -, -, -, -, -, -, -, -, -, -, -, -, ⟨hown, hloc⟩, h23⟩ := hF
            have hg1 : wr.grownBy y1 pv.ownBlock := by cases b; exact grown_weak hG; exact hG
            obtain ⟨gr, cr, hv⟩ := Joins.ownsRow_form hown (Nat.succ_pos _)
            rw [hv] at hown hloc ⊢
            rw [h23]
            have hgx : y1.heap[wo.heap.size + 1]? = some (.cells #[.bool x.isAttr, .string x.name, pv] 89 (0, 0)) := (hg1.block _ hxl HPX.out).trans HXI.out
            have cg : y1.cell? ⟨wo.heap.size + 1, 2, none⟩ = some pv := cell_at hgx 2
            have fg := frozen_not hgx
            have hgl : wo.heap.size + 1 < y1.heap.size := by have := hg1.size; omega
            have hgr : gr ≠ wo.heap.size + 1 := fun e => by have := (hown.lt gr rfl).1; omega
            have hset : y1.grownBy (y1.setCell ⟨wo.heap.size + 1, 2, none⟩ (.slice (some ⟨gr, 0, none⟩) (m + 1) cr)) (some (wo.heap.size + 1)) := set_grown _ _ _ _
            have hcell := heap_setCell_same y1 (wo.heap.size + 1) 2 #[.bool x.isAttr, .string x.name, pv] 89 (.slice (some ⟨gr, 0, none⟩) (m + 1) cr) hgx
            have hgn : w3.grownBy (y1.setCell ⟨wo.heap.size + 1, 2, none⟩ (.slice (some ⟨gr, 0, none⟩) (m + 1) cr)) (some (wo.heap.size + 1)) := grown_trans (grown_newO HG3.out hg1 (fun g hg => (HPO.out.lt g hg).1)) hset
            have HREL := Sp.hid (show ∃ (m' : Nat) (pv' : Value), m' ≤ x.preds.length ∧ Value.int .i64 ((m : Nat) + 1 : Nat) = .int .i64 m' ∧ (y1.setCell ⟨wo.heap.size + 1, 2, none⟩ (.slice (some ⟨gr, 0, none⟩) (m + 1) cr)).heap[wo.heap.size + 1]? = some (.cells #[.bool x.isAttr, .string x.name, pv'] 89 (0, 0)) ∧ (y1.setCell ⟨wo.heap.size + 1, 2, none⟩ (.slice (some ⟨gr, 0, none⟩) (m + 1) cr)).ownsRow w3.heap.size 91 3 pv' m' ((x.preds.take m').flatMap predCells) ∧ w3.grownBy (y1.setCell ⟨wo.heap.size + 1, 2, none⟩ (.slice (some ⟨gr, 0, none⟩) (m + 1) cr)) (some (wo.heap.size + 1)) from
              ⟨m + 1, .slice (some ⟨gr, 0, none⟩) (m + 1) cr, by omega, rfl, by simpa using hcell, by rw [HNQ.out]; exact hown.kept hset (.inr (fun e => hgr (Option.some.inj e))), hgn⟩)
            clear hG hown hloc h23 hg1 hgx hgr hset hcell hgn hv
            go_wp2
            dsimp only [StepPost, normally]
            go_wp2
            go_roundw
            case rel => exact HREL.out
            case measure => simp [intOf]; omega
        · obtain rfl : m = x.preds.length := by omega
          rw [List.take_length] at hpo
          obtain ⟨pa', pc', hpe, hps⟩ := own_rpreds hpo (preds_bounds HP3.out)
          subst hpe
          have hpl := hpo.lt
          have HREP := Sp.hid (show pstepS.rep (fun b => (Value.slice pa' x.preds.length pc').ownBlock = some b) wr [.bool x.isAttr, .string x.name, .slice pa' x.preds.length pc'] x from ⟨⟨HNM.out, HPL.out⟩, pa', pc', rfl, hps⟩)
          have HPV := Sp.hid hpl
          have HG3 := Sp.hid hg3
          have HO3 := Sp.hid ((HO.out.kept (row := none) (grown_below HBR3.out) (by cases u3.ownBlock <;> simp)).kept hg3 (.inr fun e => by have := (HO.out.lt _ e).2; omega))
          have hub : ∀ g, u3.ownBlock = some g → w1.heap.size ≤ g ∧ g < wo.heap.size := fun g hg => HO.out.lt g hg
          have HUB := Sp.hid hub
          have x0 : wr.cell? ⟨wo.heap.size + 1, 0, none⟩ = some (.bool x.isAttr) := cell_at hxi 0
          have x1 : wr.cell? ⟨wo.heap.size + 1, 1, none⟩ = some (.string x.name) := cell_at hxi 1
          clear hpo hps hpl hg3 hsin hub hxi t0 e1 e2 e3
          go_wp2_with (at_builtin; refine wpList_append_own_at _ rfl _ _ 46 rfl w1.heap.size 89 i0 _ 3 48 Tryz.underlying46 hi0 hz0 hz1 hz2 rfl (by decide) _ _ _ rfl (HO3.out.alloc _) ⟨wr.heap.size, 0, none⟩ 1 1 [.bool x.isAttr, .string x.name, .slice pa' x.preds.length pc'] rfl rfl ?c1 ?c2 ?c3 ?c4 ?c5 ?c6)
          case c1 => exact rdNews3 wr (.bool x.isAttr) (.string x.name) (.slice pa' x.preds.length pc') 89
          case c2 => intro u hu; simp at hu; rcases hu with rfl | rfl | rfl <;> rfl
          case c3 => unfold maxLen; omega
          case c4 => omega
          case c5 => simp; omega
          case c6 =>
            intro l' w7 hown' hgrow _ hwh
            have a5 : wr.grownBy w7 u3.ownBlock := grown_trans (grown_weak (grown_below ((Below.refl _ _).alloc (Nat.le_refl _) _))) hgrow
            have ha5 := a5.size
            have hbl7 : Below w1.heap.size w1 w7 := (HB.out.trans ((HBR3.out.mono hsw).trans ⟨HG3.out.os, HG3.out.tape, HG3.out.output, HG3.out.size, fun j hj => HG3.out.block j (by omega) (fun e => by cases e; omega)⟩)).grown a5 (by omega) (fun g hg => (HUB.out g hg).1)
            have hblk : ∀ b, w1.heap.size ≤ b → b < wo.heap.size → some b ≠ u3.ownBlock → w7.heap[b]? = wo.heap[b]? ∧ some b ≠ l'.ownBlock := fun b h1 h2 h3 => by
              refine ⟨((a5.block b (by omega) h3).trans (HG3.out.block b (by omega) (fun e => by cases e; omega))).trans (HBR3.out.block b h2), fun e => ?_⟩
              rcases hwh with hw | hw
              · rw [hw] at e; exact h3 e
              · rw [hw] at e; cases e; omega
            have hels : ∀ y ∈ xs, pstepS.rep (ElF w1.heap.size w7 l') w7 y.1 y.2 := els_keep HEL.out fun b hb => ⟨(hblk b hb.1 hb.2.1 hb.2.2).1, hb.1, by have := hb.2.1; omega, (hblk b hb.1 hb.2.1 hb.2.2).2⟩
            have hnew : pstepS.rep (ElF w1.heap.size w7 l') w7 [.bool x.isAttr, .string x.name, .slice pa' x.preds.length pc'] x := by
              refine pstepS.mono (pstepS.frame HREP.out fun b hb => ?_) fun b hb => ?_
              · have := HPV.out b hb
                exact a5.block b this.2 (fun e => by have := HUB.out b e.symm; omega)
              · have := HPV.out b hb
                refine ⟨by omega, by omega, fun e => ?_⟩
                rcases hwh with hw | hw
                · rw [hw] at e; have := HUB.out b e.symm; omega
                · rw [hw] at e; cases e; omega
            have HREL := Sp.hid (show PlainInv steps w1 l' (.int .i64 ((k + 1 : Nat) : Int)) w7 from by
              refine ⟨xs ++ [([Value.bool x.isAttr, .string x.name, .slice pa' x.preds.length pc'], x)], k + 1, by omega, rfl, by rw [List.length_append, hxk]; rfl, ?_, ?_, fun y hy => ?_, hbl7⟩
              · rw [List.map_append]; exact HNX.out
              · rw [List.length_append, List.flatMap_append]; simpa [hxk] using hown'
              · rcases List.mem_append.1 hy with hy | hy
                · exact hels y hy
                · rw [List.mem_singleton.1 hy]; exact hnew)
            clear a5 ha5 hbl7 hblk hels hnew hown' hgrow hwh
            go_wp2
            go_roundw
            case rel => exact HREL.out
            case measure => simp [intOf]; omega
    · obtain rfl : k = steps.length := by omega
      rw [List.take_length] at hxs
      obtain ⟨la, lc, hle, hsl7⟩ := own_sl (S := pstepS) (F := fun b => w1.heap.size ≤ b ∧ b < wo.heap.size) hown rfl (fun y hy => pstepS.mono (hel y hy) fun b hb => ⟨hb.1, hb.2.1⟩) (fun g hg => hown.lt g hg)
      rw [hxs] at hsl7
      rw [hxk] at hle
      subst hle
      have HS7 := Sp.hid hsl7
      have HBW := Sp.hid hbw
      clear hown hel hb hbw hxs hsl7
      go_wp2
      go_ret
      exact ⟨HBW.out, la, lc, rfl, HS7.out.mono fun b hb => ⟨by have := hb.1; omega, hb.2⟩⟩

end Go.Proofs.YtoknglpfchjbjaaGreatDoor
