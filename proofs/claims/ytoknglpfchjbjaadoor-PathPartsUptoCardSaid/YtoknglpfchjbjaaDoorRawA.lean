/- spyglassref04.plain, spyglasslaw04.Plain: a step that may be; steps, copied. Conditions: up to 2^20 steps. -/
import Derived.Test.YtoknglpfchjbjaaDoorRawP
import Derived.Test.YtoknglpfchjbjaaDoorRegionOwn
import Derived.Test.YtoknglpfchjbjaaDoorStack
import Derived.Test.YtoknglpfchjbjaaDoorLeadX
namespace Go.Proofs.YtoknglpfchjbjaaDoor
open Go.RowKit Go.Sp Go.Maps

theorem refPlain_any (s : Stp) (w : World) : Calls Tryd.prog 61 #[.agg #[.int .i64 s.kind, .string s.name, .string s.text]] w fun e w' => e = .returned (.bool (plainB s)) ∧ Below w.heap.size w w' := by
  obtain ⟨v, hv⟩ : ∃ v, v = plainB s := ⟨_, rfl⟩
  rw [← hv]
  unfold plainB at hv
  obtain ⟨k, n, t⟩ := s
  dsimp only at hv ⊢
  have hb : Below w.heap.size w (w.alloc (.cells #[.int .i64 k, .string n, .string t] 96)) := (Below.refl _ _).alloc (Nat.le_refl _) _
  have HB := Sp.hid hb
  clear hb
  by_cases h1 : k = 1
  · subst h1
    rw [if_pos rfl] at hv
    subst hv
    go_enter Tryd.func61, Tryd.ntmps61
    go_wp2
    go_ret
    exact ⟨by first | rfl | simp [List.isEmpty_iff], HB.out⟩
  · have h1' : (k == 1) = false := by simpa using h1
    rw [if_neg h1] at hv
    by_cases h3 : k = 3
    · subst h3
      rw [if_pos rfl] at hv
      subst hv
      go_enter Tryd.func61, Tryd.ntmps61
      go_wp2
      go_ret
      exact ⟨by first | rfl | simp [List.isEmpty_iff], HB.out⟩
    · have h3' : (k == 3) = false := by simpa using h3
      rw [if_neg h3] at hv
      by_cases h2 : k = 2
      · subst h2
        subst hv
        go_enter Tryd.func61, Tryd.ntmps61
        go_wp2
        go_ret
        exact ⟨rfl, HB.out⟩
      · have h2' : (k == 2) = false := by simpa using h2
        rw [h2', Bool.false_or] at hv
        by_cases h4 : k = 4
        · subst h4
          cases hn : n.toList.isEmpty
          · rw [hn] at hv
            subst hv
            go_enter Tryd.func61, Tryd.ntmps61
            go_wp2
            go_ret
            exact ⟨rfl, HB.out⟩
          · rw [hn] at hv
            subst hv
            go_enter Tryd.func61, Tryd.ntmps61
            go_wp2
            go_ret
            exact ⟨by simp, HB.out⟩
        · have h4' : (k == 4) = false := by simpa using h4
          rw [h4'] at hv
          subst hv
          go_enter Tryd.func61, Tryd.ntmps61
          go_wp2
          go_ret
          exact ⟨rfl, HB.out⟩

theorem infoRStp : (Tryd.prog.info? 96).map (fun i => (i.zero, i.size, i.bytes)) = some (some (.agg #[.int .i64 0, .string ⟨#[]⟩, .string ⟨#[]⟩]), 3, 40) := by kernel_rfl
def stpCells (s : Stp) : List Value := [.int .i64 s.kind, .string s.name, .string s.text]
theorem stps_next {l : List Stp} {k : Nat} (hk : k < l.length) : (l.take (k + 1)).flatMap stpCells = (l.take k).flatMap stpCells ++ stpCells l[k] := by
  rw [List.take_succ_eq_append_getElem hk, List.flatMap_append]; simp
theorem own_stps {w : World} {base : Nat} {e : TypeId} {pv : Value} {qs : List Stp} (h : w.ownsRow base e 3 pv qs.length (qs.flatMap stpCells)) (hq : ∀ q ∈ qs, q.name.size ≤ maxLen ∧ q.text.size ≤ maxLen) :
    ∃ a c, pv = .slice a qs.length c ∧ Sl stpS (fun b => pv.ownBlock = some b) w a qs := by
  have h' : w.ownsRow base e stpS.sz pv qs.length ((qs.map fun q => (stpCells q, q)).flatMap (·.1)) := by rw [List.flatMap_map]; exact h
  obtain ⟨a, c, h1, h2⟩ := own_sl (S := stpS) (F := fun b => pv.ownBlock = some b) h' (by simp) (fun x hx => by
    obtain ⟨q, hq', rfl⟩ := List.mem_map.1 hx
    exact ⟨rfl, hq q hq'⟩) (fun g hg => hg)
  refine ⟨a, c, h1, ?_⟩
  have e : (qs.map fun q => (stpCells q, q)).map (·.2) = qs := by rw [List.map_map]; exact List.map_id _
  rwa [e] at h2
theorem stps_bounds {F : Nat → Prop} {w : World} {a : Option Addr} {qs : List Stp} (h : Sl stpS F w a qs) : ∀ q ∈ qs, q.name.size ≤ maxLen ∧ q.text.size ≤ maxLen := by
  intro q hq
  obtain ⟨i, hi, rfl⟩ := List.getElem_of_mem hq
  obtain ⟨_, _, _, _, h1, h2, _⟩ := stp_cells h i hi
  exact ⟨h1, h2⟩

set_option maxRecDepth 100000 in
set_option maxHeartbeats 8000000 in
theorem law4Plain_any (F : Nat → Prop) (xs : List Stp) (a : Option Addr) (c : Nat) (w : World) (hsl : Sl stpS F w a xs) (hF : ∀ k, F k → k < w.heap.size) (hst : xs.length ≤ 1048576) :
    Calls Tryd.prog 25 #[.slice a xs.length c] w fun e w' => Below w.heap.size w w' ∧ ∃ b d, e = .returned (.slice b xs.length d) ∧ Sl stpS (fun k => w.heap.size ≤ k ∧ k < w'.heap.size) w' b xs := by
  obtain ⟨j0, hj0, hy0, hy1, hy2⟩ := info_parts infoRStp
  have HSL := Sp.hid hsl
  have HF := Sp.hid hF
  clear hsl hF
  go_enter Tryd.func25, Tryd.ntmps25
  go_wp2
  go_loopw [3, 4] (fun v i wr => ∃ k : Nat, k ≤ xs.length ∧ i = .int .i64 k ∧ wr.ownsRow w.heap.size 96 3 v k ((xs.take k).flatMap stpCells) ∧ Below w.heap.size w wr) (fun _ i _ => xs.length - (intOf i).toNat)
  case atStart => exact ⟨0, Nat.zero_le _, rfl, World.ownsRow_nil _ _ _ _, Below.refl _ _⟩
  case round =>
    obtain ⟨k, hk, rfl, hown, hb⟩ := hrel
    obtain ⟨vo, rfl⟩ : ∃ vo, vo = u3 := ⟨_, rfl⟩
    have hsw := hb.size
    by_cases hlt : k < xs.length
    · obtain ⟨b2, o2, rfl, fb2, -, -, d1, d2, d3⟩ := stp_cells (HSL.out.below HF.out hb) k hlt
      have hb2l := HF.out _ fb2
      have hnx := stps_next hlt
      obtain ⟨q, hq⟩ : ∃ q, q = xs[k] := ⟨_, rfl⟩
      rw [← hq] at d1 d2 d3 hnx
      have HPO := Sp.hid hown
      have HB := Sp.hid hb
      have HNQ := Sp.hid hnx
      have HD1 := Sp.hid d1
      have HD2 := Sp.hid d2
      have HD3 := Sp.hid d3
      have hbr : b2 < wr.heap.size := by omega
      have hpb : some b2 ≠ vo.ownBlock := fun e => by have := (hown.lt b2 e.symm).1; omega
      clear hq hnx hown hb d1 d2 d3 fb2
      go_wp2
      refine wp_region_two_own (by kernel_rfl) [some 11, some 12, some 13, some 14, some 15, some 16, some 17, some 18, some 19, some 20, some 21, some 22, some 23, some 24, some 25, some 26, some 27, some 28, some 29, none]
        [fun v _ => v = vo, fun v _ => v = .slice (some ⟨b2, o2, none⟩) xs.length c, fun v _ => v = .int .i64 (k : Nat), fun v _ => v = .pointer (some ⟨b2, o2 + k * 3, none⟩), fun v _ => v = .pointer (some ⟨b2, o2 + k * 3, none⟩), fun v _ => v = .int .i64 q.kind,
          fun v _ => v = .slice (some ⟨b2, o2, none⟩) xs.length c, fun v _ => v = .int .i64 (k : Nat), fun v _ => v = .pointer (some ⟨b2, o2 + k * 3, none⟩), fun v _ => v = .pointer (some ⟨b2, o2 + k * 3 + 1, none⟩), fun v _ => v = .string q.name,
          fun v _ => v = .slice (some ⟨b2, o2, none⟩) xs.length c, fun v _ => v = .int .i64 (k : Nat), fun v _ => v = .pointer (some ⟨b2, o2 + k * 3, none⟩), fun v _ => v = .pointer (some ⟨b2, o2 + k * 3 + 2, none⟩), fun v _ => v = .string q.text,
          fun v _ => v = .agg #[.int .i64 q.kind, .string q.name, .string q.text],
          fun v y => ∃ z, v = .slice (some ⟨z, 0, none⟩) 1 1 ∧ wr.heap.size ≤ z ∧ y.heap[z]? = some (.cells #[.int .i64 q.kind, .string q.name, .string q.text] 96 (0, 0)),
          fun v y => y.ownsRow w.heap.size 96 3 v (k + 1) ((xs.take k).flatMap stpCells ++ [.int .i64 q.kind, .string q.name, .string q.text])]
        18 [17, 16, 15, 14, 13, 12, 11, 10, 9, 8, 7, 6, 5, 4, 3, 2, 1, 0]
        (fun b y => wr.grownBy y (if b then vo.ownBlock else none)) (fun i y y' => y.grownBy y' (if i = 18 then vo.ownBlock else none)) rfl (by kernel_rfl) (by kernel_rfl) (by kernel_rfl) (by kernel_rfl) (by kernel_rfl) ?fr ?hfr ?G0 ?GR ?FR ?step _ rfl ?fin
      case hfr => intro u; simp only [Sp.fillFrom, Sp.idx_cons, Sp.idx_nil, Option.some.injEq, reduceCtorEq, reduceIte, Nat.reduceEqDiff, Nat.reduceAdd, Option.map_some, Option.map_none]; exact rfl
      case G0 => exact ⟨rfl, rfl, rfl, Nat.le_refl _, fun _ _ _ => rfl⟩
      case GR =>
        intro i b y1 y2 hG hR
        cases b
        · by_cases hi : i = 18
          · simp only [hi, if_true] at hR ⊢; exact grown_trans (grown_weak hG) hR
          · simp only [if_neg hi] at hR; simp only [hi, decide_false, Bool.or_false]; exact grown_trans hG hR
        · simp only [if_true, Bool.true_or] at hG ⊢
          by_cases hi : i = 18
          · simp only [hi, if_true] at hR; exact grown_trans hG hR
          · simp only [if_neg hi] at hR; exact grown_trans hG (grown_weak hR)
      case FR =>
        iterate 17 (refine ⟨fun _ _ _ _ _ _ _ h => h, ?_⟩)
        refine ⟨?_, ?_, trivial⟩
        · rintro i hi v y1 y2 _ hR ⟨z, rfl, hz, hc⟩
          refine ⟨z, rfl, hz, (hR.block z (Array.getElem?_eq_some_iff.1 hc).1 ?_).trans hc⟩
          split
          · intro e1
            have := (HPO.out.lt z e1.symm).2
            omega
          · simp
        · rintro i hi v y1 y2 _ hR hw
          rw [if_neg hi] at hR
          exact hw.kept hR (by cases v.ownBlock <;> simp)
      case step =>
        refine ⟨?_, ?_, ?_, ?_, ?_, ?_, ?_, ?_, ?_, ?_, ?_, ?_, ?_, ?_, ?_, ?_, ?_, ?_, ?_, trivial⟩
        all_goals
          intro u y1 b hbb hG hD
          simp only [Sp.DepsHold, Sp.factAt, Region.binds, List.getElem?_cons_zero, List.getElem?_cons_succ, Option.getD_some, and_true, true_implies] at hD
          dsimp only
        iterate 17
          · obtain rfl : b = false := hbb (.inl (by simp))
            have q1 : y1.cell? ⟨b2, o2 + k * 3, none⟩ = some (.int .i64 q.kind) := hG.cell (a := ⟨b2, o2 + k * 3, none⟩) HD1.out (by simp)
            have q2 : y1.cell? ⟨b2, o2 + k * 3 + 1, none⟩ = some (.string q.name) := hG.cell (a := ⟨b2, o2 + k * 3 + 1, none⟩) HD2.out (by simp)
            have q3 : y1.cell? ⟨b2, o2 + k * 3 + 2, none⟩ = some (.string q.text) := hG.cell (a := ⟨b2, o2 + k * 3 + 2, none⟩) HD3.out (by simp)
            clear hG hbb
            repeat (obtain ⟨hE, hD⟩ := hD; (try rw [hE]); clear hE)
            try rw [hD]
            try clear hD
            go_wp2
            exact ⟨grown_refl _ _, _, rfl, rfl⟩
        · have hGs := hG.size
          rw [hD]
          clear hG hbb hD
          go_wp2
          exact ⟨World.grownBy_alloc _ _ _, _, rfl, _, rfl, hGs, World.alloc_heap_new _ _⟩
        · obtain rfl : b = false := hbb (.inr rfl)
          obtain ⟨h1, z, h21, hz, hc⟩ := hD
          have hGs := hG.size
          have hrow1 : y1.ownsRow w.heap.size 96 3 vo k ((xs.take k).flatMap stpCells) := HPO.out.kept hG (by cases vo.ownBlock <;> simp)
          rw [h1, h21]
          refine wpList_append_own_at _ rfl _ _ 71 rfl w.heap.size 96 j0 _ 3 40 Tryd.underlying71 hj0 hy0 hy1 hy2 rfl (by decide) _ _ _ rfl hrow1 ⟨z, 0, none⟩ 1 1 [.int .i64 q.kind, .string q.name, .string q.text] rfl rfl ?_ ?_ (by unfold maxLen; omega) (by omega) (by omega) ?_
          · intro j u hj
            have hadd : (⟨z, 0, none⟩ : Addr).add j = ⟨z, j, none⟩ := by unfold Addr.add; split <;> simp_all
            rw [hadd, cell_at hc]
            simpa using hj
          · intro u hu; simp at hu; rcases hu with rfl | rfl | rfl <;> rfl
          intro v' y2 hown' hgrow _ _
          refine wpList_nil ?_
          exact ⟨hgrow, v', rfl, hown'⟩
      case fin =>
        intro u y1 b hG hF
        simp only [Sp.AllF, and_true] at hF; (try dsimp only); generalize u 0 = u0 at *; generalize u 1 = u1 at *; generalize u 2 = u2 at *; generalize u 3 = u3 at *; generalize u 4 = u4 at *; generalize u 5 = u5 at *; generalize u 6 = u6 at *; generalize u 7 = u7 at *; generalize u 8 = u8 at *; generalize u 9 = u9 at *; generalize u 10 = u10 at *; generalize u 11 = u11 at *; generalize u 12 = u12 at *; generalize u 13 = u13 at *; generalize u 14 = u14 at *; generalize u 15 = u15 at *; generalize u 16 = u16 at *; generalize u 17 = u17 at *; generalize u 18 = u18 at *; clear u
        obtain ⟨-, -, -, -, -, -, -, -, -, -, -, -, -, -, -, -, -, -, hown⟩ := hF
        have hg1 : wr.grownBy y1 vo.ownBlock := by cases b; exact grown_weak hG; exact hG
        have HX := Sp.hid (show ∃ k' : Nat, k' ≤ xs.length ∧ Value.int .i64 ((k : Nat) + 1 : Nat) = .int .i64 k' ∧ y1.ownsRow w.heap.size 96 3 u18 k' ((xs.take k').flatMap stpCells) ∧ Below w.heap.size w y1 from
          ⟨k + 1, by omega, rfl, by rw [HNQ.out]; exact hown, HB.out.grown hg1 hsw (fun g hg => (HPO.out.lt g hg).1)⟩)
        clear hG hown hg1
        go_wp2
        dsimp only [StepPost, normally]
        go_wp2
        go_roundw
        case rel => exact HX.out
        case measure => simp [intOf]; omega
    · obtain rfl : k = xs.length := by omega
      rw [List.take_length] at hown
      obtain ⟨pa', pc', hpe, hps⟩ := own_stps hown (stps_bounds HSL.out)
      have hl := hown.lt
      have HB := Sp.hid hb
      have HPS := Sp.hid (hps.mono fun b hb => hl b hb)
      clear hown hb hps
      subst hpe
      clear hl
      go_wp2
      go_ret
      exact ⟨HB.out, _, _, rfl, HPS.out⟩

end Go.Proofs.YtoknglpfchjbjaaDoor
