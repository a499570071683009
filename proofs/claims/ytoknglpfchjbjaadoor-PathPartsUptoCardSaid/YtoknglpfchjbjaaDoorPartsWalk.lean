/- The walk of PathParts: at every input the law returns true. Conditions: the table of spans as laid; fewer than 2^20 steps of a tree. -/
import Derived.Test.YtoknglpfchjbjaaDoorPartsX
namespace Go.Proofs.YtoknglpfchjbjaaDoor
open Go.RowKit Go.Sp Go.Maps


theorem hits_grow {x y : World} (hb : Below x.heap.size x y) {a : Option Addr} {l : List (List Int × ByteArray)} (h : Sl hitS (fun k => k < x.heap.size) x a l) : Sl hitS (fun k => k < y.heap.size) y a l :=
  (h.frame fun b hb' => hb.block b hb').mono fun b hb' => by have : b < x.heap.size := hb'; have := hb.size; omega

theorem sel_dropped {m n₀ : Nat} {vs : Array Value} {T : TT} {steps : List StepM} {sb so sc : Nat} (pk : Nat) {w : World} (hm : m ≤ 2000000) (h : NodeAt n₀ m w vs T) (hsl : Sl pstepS (· < n₀) w (some ⟨sb, so, none⟩) steps) (hn₀ : n₀ ≤ w.heap.size) (hsc : steps.length ≤ sc) (hsp : SpansAt w) (hck : checkM m T = 0) (hp : pcheckM (steps.drop pk) = 0) :
    Calls Tryd.prog 14 #[.agg vs, .agg #[.slice (some ⟨sb, so + pk * 3, none⟩) (steps.length - pk) (sc - pk)]] w (SelOk T (steps.drop pk) w) := by
  have h1 := sel_ok (sa := some ⟨sb, so + pk * 3, none⟩) (sc := sc - pk) hm h (sl_drop hsl pk) hn₀ (by rw [List.length_drop]; omega) hsp hck hp
  rw [List.length_drop] at h1
  exact h1


set_option maxRecDepth 100000 in
set_option maxHeartbeats 16000000 in
theorem parts_walk (xs : List Stp) (a : Option Addr) (cap : Nat) (steps : List StepM) (sa : Option Addr) (sc : Nat) (at' : Int) (w : World) (hxs : Sl stpS (· < w.heap.size) w a xs) (hxl : xs.length ≤ 1048576) (hsl : Sl pstepS (· < w.heap.size) w sa steps) (hst : steps.length ≤ 9223372036854775807) (hsc : steps.length ≤ sc) (hsp : SpansAt w) :
    Calls Tryd.prog 4 #[.slice a xs.length cap, .agg #[.slice sa steps.length sc], .int .i64 at'] w fun e w' => e = .returned (.bool true) ∧ Below w.heap.size w w' := by
  obtain ⟨w1, hw1⟩ : ∃ w1, w1 = w.alloc (.cells #[.slice sa steps.length sc] 42) := ⟨_, rfl⟩
  have hs1 : w.heap.size + 1 ≤ w1.heap.size := by rw [hw1]; simp
  have hb1 : Below w.heap.size w w1 := by rw [hw1]; exact (Below.refl _ _).alloc (Nat.le_refl _) _
  have ht1 : w1.heap[w.heap.size]? = some (.cells #[.slice sa steps.length sc] 42 (0, 0)) := by rw [hw1]; exact World.alloc_heap_new _ _
  have HSL := Sp.hid (fun W (hW : Below w.heap.size w W) => hsl.below (fun k h => h) hW)
  have HSP := Sp.hid (fun W (hW : Below w.heap.size w W) => hsp.below hW (Nat.le_refl _))
  have HXS := Sp.hid (fun W (hW : Below w.heap.size w W) => (hxs.below (fun k h => h) hW).mono (G := (· < W.heap.size)) fun k hk => by have : k < w.heap.size := hk; have := hW.size; show k < W.heap.size; omega)
  have HRAW := Sp.hid (lawRaw_any xs hxl a cap w1 ((hxs.below (fun k h => h) hb1).mono fun k hk => by have : k < w.heap.size := hk; omega))
  have HW1 := Sp.hid hw1
  have HB1 := Sp.hid hb1
  have HT1 := Sp.hid ht1
  clear hxs hsl hsp hw1 hb1 ht1
  go_enter Tryd.func4, Tryd.ntmps4
  go_wp2_with fail
  rw [← HW1.out]
  refine HRAW.out.mono ?_
  rintro e w2 ⟨hb2, vs, is, htv, rfl, hraw⟩
  have hs2 := hb2.size
  have hbw2 : Below w.heap.size w w2 := HB1.out.trans (hb2.mono (by omega))
  have HT2 := Sp.hid ((hb2.block _ (by omega)).trans HT1.out)
  obtain ⟨l0, l1, aa, na, ca, ka, nk, ck, rfl⟩ := htv
  have HRW := Sp.hid hraw
  obtain ⟨w3, hw3⟩ : ∃ w3, w3 = w2.alloc (.cells #[.string l0, .string l1, .slice aa na ca, .slice ka nk ck] 27) := ⟨_, rfl⟩
  have hs3 : w2.heap.size + 1 ≤ w3.heap.size := by rw [hw3]; simp
  have hb3 : Below w2.heap.size w2 w3 := by rw [hw3]; exact (Below.refl _ _).alloc (Nat.le_refl _) _
  have hbw3 : Below w.heap.size w w3 := hbw2.trans (hb3.mono (by omega))
  have HT3 := Sp.hid ((hb3.block _ (by omega)).trans HT2.out)
  have HTR3 := Sp.hid (show w3.heap[w2.heap.size]? = some (.cells #[.string l0, .string l1, .slice aa na ca, .slice ka nk ck] 27 (0, 0)) by rw [hw3]; exact World.alloc_heap_new _ _)
  have HB23 := Sp.hid hb3
  have HB3 := Sp.hid hbw3
  have HFEW := Sp.hid (few_any (· < w3.heap.size) a cap xs w3 (HXS.out w3 hbw3) (by omega))
  have HW3 := Sp.hid hw3
  clear hb2 hbw2 hraw hw3 hb3 hbw3
  go_wp2_with fail
  rw [← HW3.out]
  refine HFEW.out.mono ?_
  rintro e w4 ⟨few, rfl, -, rfl⟩
  have c0 : w3.cell? ⟨w.heap.size, 0, none⟩ = some (.slice sa steps.length sc) := cell_at HT3.out 0
  cases few
  · skip
    have HAW := Sp.hid (awake16_any w3 (HSP.out w3 HB3.out))
    have HBA := Sp.hid HB3.out
    go_wp2_with fail
    refine HAW.out.mono ?_
    rintro e wz ⟨rfl, hbz⟩
    have HBZ := Sp.hid (HBA.out.trans (hbz.mono HBA.out.size))
    clear hbz
    go_wp2
    go_ret
    exact ⟨rfl, HBZ.out⟩
  cases is
  · skip
    have HAW := Sp.hid (awake16_any w3 (HSP.out w3 HB3.out))
    have HBA := Sp.hid HB3.out
    go_wp2_with fail
    refine HAW.out.mono ?_
    rintro e wz ⟨rfl, hbz⟩
    have HBZ := Sp.hid (HBA.out.trans (hbz.mono HBA.out.size))
    clear hbz
    go_wp2
    go_ret
    exact ⟨rfl, HBZ.out⟩
  have HSML := Sp.hid (small_any (· < w.heap.size) steps sa sc w3 (HSL.out w3 HB3.out) (fun k h => by have : k < w.heap.size := h; omega) hst)
  obtain ⟨-, T, ⟨-, hxpos⟩, hrep⟩ := HRW.out rfl
  obtain ⟨d, hd⟩ : ∃ d, xs.length = d + 1 := ⟨xs.length - 1, by omega⟩
  have hrep' := hrep
  rw [hd] at hrep'
  obtain ⟨-, aa', ca', ka', ck', hvs, -, -⟩ := tree_open hrep'
  simp only [List.cons.injEq, Value.string.injEq, Value.slice.injEq, and_true] at hvs
  obtain ⟨rfl, rfl, ⟨rfl, rfl, rfl⟩, rfl, rfl, rfl⟩ := hvs
  have HND := Sp.hid (fun W (hW : Below w3.heap.size w3 W) => (⟨aa, ca, ka, ck, rfl, (treeS _).mono ((treeS _).frame hrep fun b hb => (HB23.out.trans (hW.mono HB23.out.size)).block b hb.2) fun b hb => hb.2⟩ : NodeAt w2.heap.size xs.length W #[.string T.label, .string T.text, .slice aa T.attrs.length ca, .slice ka T.kids.length ck] T))
  have HTHIN := Sp.hid (thin_rep hrep)
  clear hrep hrep' hd d HRW
  go_wp2_with fail
  refine HSML.out.mono ?_
  rintro e w5 ⟨sm, rfl, -, hb5⟩
  clear c0
  have hs5 := hb5.size
  have HB35 := Sp.hid hb5
  have hbw5 : Below w.heap.size w w5 := HB3.out.trans (hb5.mono (by omega))
  have HB5 := Sp.hid hbw5
  have c0 : w5.cell? ⟨w.heap.size, 0, none⟩ = some (.slice sa steps.length sc) := cell_at ((hb5.block _ (by omega)).trans HT3.out) 0
  clear hb5 hbw5
  cases sm
  · skip
    have HAW := Sp.hid (awake16_any w5 (HSP.out w5 HB5.out))
    have HBA := Sp.hid HB5.out
    go_wp2_with fail
    refine HAW.out.mono ?_
    rintro e wz ⟨rfl, hbz⟩
    have HBZ := Sp.hid (HBA.out.trans (hbz.mono HBA.out.size))
    clear hbz
    go_wp2
    go_ret
    exact ⟨rfl, HBZ.out⟩
  by_cases hneg : at' < 0
  · skip
    have HAW := Sp.hid (awake16_any w5 (HSP.out w5 HB5.out))
    have HBA := Sp.hid HB5.out
    go_wp2_with fail
    refine HAW.out.mono ?_
    rintro e wz ⟨rfl, hbz⟩
    have HBZ := Sp.hid (HBA.out.trans (hbz.mono HBA.out.size))
    clear hbz
    go_wp2
    go_ret
    exact ⟨rfl, HBZ.out⟩
  by_cases hgt : ((steps.length : Nat) : Int) < at'
  · skip
    have HAW := Sp.hid (awake16_any w5 (HSP.out w5 HB5.out))
    have HBA := Sp.hid HB5.out
    go_wp2_with fail
    refine HAW.out.mono ?_
    rintro e wz ⟨rfl, hbz⟩
    have HBZ := Sp.hid (HBA.out.trans (hbz.mono HBA.out.size))
    clear hbz
    go_wp2
    go_ret
    exact ⟨rfl, HBZ.out⟩
  obtain ⟨pk, rfl⟩ : ∃ pk : Nat, at' = pk := ⟨at'.toNat, by omega⟩
  have hpk : pk ≤ steps.length := by omega
  have htr5 := (HB35.out.block _ (by omega)).trans HTR3.out
  have t0 : w5.cell? ⟨w2.heap.size, 0, none⟩ = some (.string T.label) := cell_at htr5 0
  have t1 : w5.cell? ⟨w2.heap.size, 1, none⟩ = some (.string T.text) := cell_at htr5 1
  have t2 : w5.cell? ⟨w2.heap.size, 2, none⟩ = some (.slice aa T.attrs.length ca) := cell_at htr5 2
  have t3 : w5.cell? ⟨w2.heap.size, 3, none⟩ = some (.slice ka T.kids.length ck) := cell_at htr5 3
  have HSEL := Sp.hid (select_any xs.length (by omega) w2.heap.size _ T steps sa sc w5 (HND.out w5 HB35.out) ((HSL.out w5 HB5.out).mono fun k hk => by have : k < w.heap.size := hk; show k < w2.heap.size; omega) (by omega) hsc hst (HSP.out w5 HB5.out))
  clear htr5
  go_wp2_with fail
  refine HSEL.out.mono ?_
  rintro e w6 ⟨hb6, hpost⟩
  clear c0 t0 t1 t2 t3
  have hs6 := hb6.size
  have HB6 := Sp.hid (HB5.out.trans (hb6.mono HB5.out.size) : Below w.heap.size w w6)
  have HB36 := Sp.hid (HB35.out.trans (hb6.mono HB35.out.size) : Below w3.heap.size w3 w6)
  clear hb6 HSEL
  rcases hpost with ⟨h0, rfl⟩ | ⟨h0, h1, rfl⟩ | ⟨h0, h1, ha, hc, rfl, hsA⟩
  · obtain ⟨ct, hct⟩ : ∃ ct, ct = checkM xs.length T := ⟨_, rfl⟩
    rw [← hct] at h0 ⊢
    have h0' : (ct != 0) = true := by simpa using h0
    clear hct h0
    have HAW := Sp.hid (awake16_any w6 (HSP.out w6 HB6.out))
    have HBA := Sp.hid HB6.out
    go_wp2_with fail
    refine HAW.out.mono ?_
    rintro e wz ⟨rfl, hbz⟩
    have HBZ := Sp.hid (HBA.out.trans (hbz.mono HBA.out.size))
    clear hbz
    go_wp2
    go_ret
    exact ⟨rfl, HBZ.out⟩
  · obtain ⟨cp, hcp⟩ : ∃ cp, cp = pcheckM steps := ⟨_, rfl⟩
    rw [← hcp] at h1 ⊢
    have h1' : (cp != 0) = true := by simpa using h1
    clear hcp h1 h0
    have HAW := Sp.hid (awake16_any w6 (HSP.out w6 HB6.out))
    have HBA := Sp.hid HB6.out
    go_wp2_with fail
    refine HAW.out.mono ?_
    rintro e wz ⟨rfl, hbz⟩
    have HBZ := Sp.hid (HBA.out.trans (hbz.mono HBA.out.size))
    clear hbz
    go_wp2
    go_ret
    exact ⟨rfl, HBZ.out⟩
  have HC0 := Sp.hid h0
  have HC1 := Sp.hid h1
  obtain ⟨A, hA⟩ : ∃ A, A = leadM steps ([], T) := ⟨_, rfl⟩
  have hpair : A.Pairwise HitLt := by
    rw [hA]
    refine leadM_pair steps xs.length ([], T) HTHIN.out fun t ht => ?_
    have := (checkM_parts h0).2.2 4 (by omega) t ht
    unfold faultB at this
    simpa using this
  have hAll : A.length ≤ 4294967296 := by rw [hA]; exact Nat.le_trans (leadM_length rfl steps xs.length [] T HTHIN.out) (Nat.mul_le_mul_right 1048576 (checkM_nodes h0))
  have hAl : ∀ h ∈ A, h.1.length ≤ 32 := fun h hh => by
    rw [hA] at hh
    obtain ⟨_, _, hl⟩ := lead_at steps (T := T) (T0 := T) (ats := []) rfl h hh
    have := pcheckM_zero h1
    simp at hl; omega
  have HA := Sp.hid hA
  have HPAIR := Sp.hid hpair
  have HAL := Sp.hid hAl
  rw [← hA] at hsA ⊢
  have HSA := Sp.hid hsA
  clear h0 h1 hA hpair hAl hsA
  go_wp2
  have hpn : decide (((pk : Nat) : Int) < 0) = false := by simp
  have hpg : decide (((steps.length : Nat) : Int) < ((pk : Nat) : Int)) = false := by simpa using hpk
  simp only [hpn, hpg]
  go_loopw [11] (fun i wr => ∃ k : Nat, 1 ≤ k ∧ i = .int .i64 k ∧ Below w6.heap.size w6 wr) (fun i _ => A.length - (intOf i).toNat)
  case atStart => exact ⟨1, Nat.le_refl _, rfl, Below.refl _ _⟩
  case round =>
    obtain ⟨k, hk, rfl, hb⟩ := hrel
    have hsw := hb.size
    by_cases hlt : k < A.length
    · obtain ⟨j, rfl⟩ : ∃ j, k = j + 1 := ⟨k - 1, by omega⟩
      have hslr := HSA.out.frame (fun b hb' => hb.block b hb')
      obtain ⟨hb0, ho0, va, vc, rfl, f0, hv0, a0, a1⟩ := hit_cells hslr j (by omega)
      obtain ⟨hb', ho', vb, vd, hbe, -, hv1, b0, b1⟩ := hit_cells hslr (j + 1) hlt
      cases hbe
      have hxy := List.pairwise_iff_getElem.1 HPAIR.out j (j + 1) (by omega) hlt (by omega)
      have hxl1 := HAL.out _ (List.getElem_mem (by omega : j < A.length))
      have hxl2 := HAL.out _ (List.getElem_mem hlt)
      obtain ⟨x, hx⟩ : ∃ x, x = A[j] := ⟨_, rfl⟩
      obtain ⟨y, hy⟩ : ∃ y, y = A[j + 1] := ⟨_, rfl⟩
      rw [← hx] at hv0 a0 a1 hxy hxl1
      rw [← hy] at hv1 b0 b1 hxy hxl2
      have hbr := World.block_lt_of_cell? _ _ a0
      dsimp only at hbr
      have HC := Sp.hid (fun W (hG : Below wr.heap.size wr W) => And.intro (And.intro ((hG.cell (p := ⟨hb0, ho0 + j * 2, none⟩) hbr).trans a0) ((hG.cell (p := ⟨hb0, ho0 + j * 2 + 1, none⟩) hbr).trans a1)) (And.intro ((hG.cell (p := ⟨hb0, ho0 + (j + 1) * 2, none⟩) hbr).trans b0) ((hG.cell (p := ⟨hb0, ho0 + (j + 1) * 2 + 1, none⟩) hbr).trans b1)))
      have HAH := Sp.hid (fun W (hG : Below wr.heap.size wr W) => ahead_any (· < w6.heap.size) (· < w6.heap.size) va vb vc vd x.1 y.1 W (hv0.frame fun b hb' => hG.block b (by omega)) (hv1.frame fun b hb' => hG.block b (by omega)) (fun k h => by have : k < w6.heap.size := h; have := hG.size; omega) (fun k h => by have : k < w6.heap.size := h; have := hG.size; omega) (by omega) (by omega))
      have HIN := Sp.hid (fun W (hG : Below wr.heap.size wr W) => ints16_any (· < w6.heap.size) (· < w6.heap.size) va vb vc vd x.1 y.1 W (hv0.frame fun b hb' => hG.block b (by omega)) (hv1.frame fun b hb' => hG.block b (by omega)) (fun k h => by have : k < w6.heap.size := h; have := hG.size; omega) (fun k h => by have : k < w6.heap.size := h; have := hG.size; omega) (by omega) (by omega))
      have hsub1 : (((j + 1 : Nat) : Int) - 1) = ((j : Nat) : Int) := by omega
      have hsub2 : (((j : Nat) : Int) + 1 - 1) = ((j : Nat) : Int) := by omega
      have hj0 : ((j : Nat) : Int) < (A.length : Int) := by omega
      have hj1 : ((j : Nat) : Int) + 1 < (A.length : Int) := by omega
      have HBW := Sp.hid hb
      clear hx hy hslr f0 hv0 hv1 a0 a1 b0 b1 hb hxl1 hxl2
      cases hah : aheadM x.1 y.1
      · obtain ⟨heq, hls⟩ : x.1 = y.1 ∧ x.2.toList < y.2.toList := by
          rcases hxy with h | h
          · rw [hah] at h; cases h
          · exact h
        rw [hah] at HAH
        have heq' : decide (x.1 = y.1) = true := by simpa using heq
        rw [heq'] at HIN
        have hnl : ¬ y.2.toList ≤ x.2.toList := fun h => List.not_lt.2 h hls
        have hbl : Op.bytesLess x.2.toList y.2.toList = true := by rw [bytesLess_eq]; simpa using hls
        clear hxy hah heq heq'
        go_wp2
        refine Sp.wp_region_read (by kernel_rfl) [some 71, some 72, some 73, some 74, some 75, some 76, some 77, some 78, some 79, some 80, some 81, some 82, some 83, some 84, some 85, some 86, some 87, some 88, some 89, some 90, some 91, some 92, some 93, some 94, some 95, some 96, some 97, some 98, some 99, some 100, some 101, some 102, some 103, some 104, some 105, some 106, some 107, some 108, some 109, some 110, some 111, some 112] [?r1v0, ?r1v1, ?r1v2, ?r1v3, ?r1v4, ?r1v5, ?r1v6, ?r1v7, ?r1v8, ?r1v9, ?r1v10, ?r1v11, ?r1v12, ?r1v13, ?r1v14, ?r1v15, ?r1v16, ?r1v17, ?r1v18, ?r1v19, ?r1v20, ?r1v21, ?r1v22, ?r1v23, ?r1v24, ?r1v25, ?r1v26, ?r1v27, ?r1v28, ?r1v29, ?r1v30, ?r1v31, ?r1v32, ?r1v33, ?r1v34, ?r1v35, ?r1v36, ?r1v37, ?r1v38, ?r1v39, ?r1v40, ?r1v41] rfl (by kernel_rfl) (by kernel_rfl) (by kernel_rfl) ?r1fr ?r1hfr ?r1step ?r1fin
        case r1hfr => intro u; simp only [Sp.fillFrom, Sp.idx_cons, Sp.idx_nil, Option.some.injEq, reduceCtorEq, reduceIte, Nat.reduceEqDiff, Nat.reduceAdd, Option.map_some, Option.map_none]; exact rfl
        case r1step =>
          refine ⟨?_, ?_, ?_, ?_, ?_, ?_, ?_, ?_, ?_, ?_, ?_, ?_, ?_, ?_, ?_, ?_, ?_, ?_, ?_, ?_, ?_, ?_, ?_, ?_, ?_, ?_, ?_, ?_, ?_, ?_, ?_, ?_, ?_, ?_, ?_, ?_, ?_, ?_, ?_, ?_, ?_, ?_, trivial⟩
          all_goals
            intro u w1 hG hD; simp only [Sp.DepsHold, List.map_cons, List.map_nil, Sp.isV, Sp.any_text, Sp.any_gc, Bool.false_eq_true, false_implies, Sp.factAt, Region.binds, List.getElem?_cons_zero, List.getElem?_cons_succ, List.getElem?_nil, Option.getD_some, Option.getD_none, and_true, true_and, true_implies, implies_true] at hD; dsimp only
            have HG1 := Sp.hid hG; obtain ⟨⟨c0, c1⟩, d0, d1⟩ := HC.out w1 hG
            clear hG
            repeat (obtain ⟨hE, hD⟩ := hD; (try rw [hE]); clear hE)
            try rw [hD]
            try clear hD
            go_wp2_with (first | (go_at_call 15; refine (HAH.out _ HG1.out).mono ?_; rintro e w2 ⟨rfl, hb2⟩; have HB2 := Sp.hid hb2; clear hb2) | (go_at_call 16; refine (HIN.out _ HG1.out).mono ?_; rintro e w2 ⟨rfl, hb2⟩; have HB2 := Sp.hid hb2; clear hb2))
            (with_reducible apply Sp.rd_close); (first | exact HB2.out | exact Below.refl _ _); exact rfl; refine Sp.isV_at ?_; exact rfl
        case r1fin => 
          intro w' hG; simp only [List.getElem?_cons_zero, List.getElem?_cons_succ, Option.getD_some]
          have HG2 := Sp.hid (HBW.out.trans (hG.mono hsw))
          clear hG
          go_wp2
          go_roundw
          case rel => exact ⟨j + 1 + 1, by omega, by go_num, HG2.out⟩
          case measure => simp [intOf]; omega
      · rw [hah] at HAH
        clear hxy hah
        go_wp2
        refine Sp.wp_region_read (by kernel_rfl) [some 71, some 72, some 73, some 74, some 75, some 76, some 77, some 78, some 79, some 80, some 81, some 82, some 83, some 84, some 85, some 86, some 87, some 88, some 89, some 90, some 91, some 92, some 93, some 94, some 95, some 96, some 97, some 98, some 99, some 100, some 101, some 102, some 103, some 104, some 105, some 106, some 107, some 108, some 109, some 110, some 111, some 112] [?r2v0, ?r2v1, ?r2v2, ?r2v3, ?r2v4, ?r2v5, ?r2v6, ?r2v7, ?r2v8, ?r2v9, ?r2v10, ?r2v11, ?r2v12, ?r2v13, ?r2v14, ?r2v15, ?r2v16, ?r2v17, ?r2v18, ?r2v19, ?r2v20, ?r2v21, ?r2v22, ?r2v23, ?r2v24, ?r2v25, ?r2v26, ?r2v27, ?r2v28, ?r2v29, ?r2v30, ?r2v31, ?r2v32, ?r2v33, ?r2v34, ?r2v35, ?r2v36, ?r2v37, ?r2v38, ?r2v39, ?r2v40, ?r2v41] rfl (by kernel_rfl) (by kernel_rfl) (by kernel_rfl) ?r2fr ?r2hfr ?r2step ?r2fin
        case r2hfr => intro u; simp only [Sp.fillFrom, Sp.idx_cons, Sp.idx_nil, Option.some.injEq, reduceCtorEq, reduceIte, Nat.reduceEqDiff, Nat.reduceAdd, Option.map_some, Option.map_none]; exact rfl
        case r2step =>
          refine ⟨?_, ?_, ?_, ?_, ?_, ?_, ?_, ?_, ?_, ?_, ?_, ?_, ?_, ?_, ?_, ?_, ?_, ?_, ?_, ?_, ?_, ?_, ?_, ?_, ?_, ?_, ?_, ?_, ?_, ?_, ?_, ?_, ?_, ?_, ?_, ?_, ?_, ?_, ?_, ?_, ?_, ?_, trivial⟩
          all_goals
            intro u w1 hG hD; simp only [Sp.DepsHold, List.map_cons, List.map_nil, Sp.isV, Sp.any_text, Sp.any_gc, Bool.false_eq_true, false_implies, Sp.factAt, Region.binds, List.getElem?_cons_zero, List.getElem?_cons_succ, List.getElem?_nil, Option.getD_some, Option.getD_none, and_true, true_and, true_implies, implies_true] at hD; dsimp only
            have HG1 := Sp.hid hG; obtain ⟨⟨c0, c1⟩, d0, d1⟩ := HC.out w1 hG
            clear hG
            repeat (obtain ⟨hE, hD⟩ := hD; (try rw [hE]); clear hE)
            try rw [hD]
            try clear hD
            go_wp2_with (go_at_call 15; refine (HAH.out _ HG1.out).mono ?_; rintro e w2 ⟨rfl, hb2⟩; have HB2 := Sp.hid hb2; clear hb2)
            (with_reducible apply Sp.rd_close); (first | exact HB2.out | exact Below.refl _ _); exact rfl; refine Sp.isV_at ?_; exact rfl
        case r2fin => 
          intro w' hG; simp only [List.getElem?_cons_zero, List.getElem?_cons_succ, Option.getD_some]
          have HG2 := Sp.hid (HBW.out.trans (hG.mono hsw))
          clear hG
          go_wp2
          go_roundw
          case rel => exact ⟨j + 1 + 1, by omega, by go_num, HG2.out⟩
          case measure => simp [intOf]; omega
    · have hs7 := hb.size
      obtain ⟨w7, rfl⟩ : ∃ w7, w7 = wr := ⟨_, rfl⟩
      have HB67 := Sp.hid hb
      have HB7 := Sp.hid (HB6.out.trans (hb.mono HB6.out.size) : Below w.heap.size w w7)
      have HB37 := Sp.hid (HB36.out.trans (hb.mono HB36.out.size) : Below w3.heap.size w3 w7)
      have HCL := Sp.hid (fun W (hW : Below w7.heap.size w7 W) => by
        have h1 := (HB37.out.trans (hW.mono HB37.out.size)).block w.heap.size (by omega)
        have h2 := (HB37.out.trans (hW.mono HB37.out.size)).block w2.heap.size (by omega)
        exact (⟨cell_at (h1.trans HT3.out) 0, cell_at (h2.trans HTR3.out) 0, cell_at (h2.trans HTR3.out) 1, cell_at (h2.trans HTR3.out) 2, cell_at (h2.trans HTR3.out) 3⟩ :
          W.cell? ⟨w.heap.size, 0, none⟩ = some (.slice sa steps.length sc) ∧ W.cell? ⟨w2.heap.size, 0, none⟩ = some (.string T.label) ∧ W.cell? ⟨w2.heap.size, 1, none⟩ = some (.string T.text) ∧ W.cell? ⟨w2.heap.size, 2, none⟩ = some (.slice aa T.attrs.length ca) ∧ W.cell? ⟨w2.heap.size, 3, none⟩ = some (.slice ka T.kids.length ck)))
      obtain ⟨hp1, hp2⟩ := pcheck_take HC1.out pk hpk
      obtain ⟨B, hB⟩ : ∃ B, B = leadM (steps.take pk) ([], T) := ⟨_, rfl⟩
      have HBD := Sp.hid hB
      have HP2 := Sp.hid hp2
      have HSELB := Sp.hid (fun W (hW : Below w7.heap.size w7 W) => by
        have h := sel_ok (m := xs.length) (n₀ := w2.heap.size) (steps := steps.take pk) (sa := sa) (sc := sc) (by omega) (HND.out W (HB37.out.trans (hW.mono HB37.out.size))) (sl_take ((HSL.out W (HB7.out.trans (hW.mono HB7.out.size))).mono fun k hk => by have : k < w.heap.size := hk; show k < w2.heap.size; omega) pk) (by have := hW.size; omega) (by rw [List.length_take]; omega) (HSP.out W (HB7.out.trans (hW.mono HB7.out.size))) HC0.out hp1
        rw [List.length_take, Nat.min_eq_left hpk] at h
        exact h)
      have HSLT := Sp.hid (fun W => slice_take sa steps.length sc pk (by omega) W)
      have hwl7 : w.heap.size < w7.heap.size := by omega
      have htl7 : w2.heap.size < w7.heap.size := by omega
      clear hb hp1 hp2 hB
      go_wp2
      refine Sp.wp_region_facts (by kernel_rfl) [some 114, some 115, some 116, some 117, some 118, some 119, some 120, some 113, some 121, some 122, some 12, some 13]
        [fun v _ => v = .agg #[.string T.label, .string T.text, .slice aa T.attrs.length ca, .slice ka T.kids.length ck], fun v _ => v = .pointer (some ⟨w.heap.size, 0, none⟩), fun v _ => v = .slice sa steps.length sc, fun v _ => v = .int .i64 (pk : Nat), fun v _ => v = .slice sa pk sc, fun v _ => v = .agg #[.slice sa pk sc],
          fun v x => ∃ a c, v = .tuple #[.slice a B.length c, .int .i64 0] ∧ Sl hitS (fun k => k < x.heap.size) x a B,
          fun v x => ∃ a c, v = .tuple #[.slice a B.length c, .int .i64 0] ∧ Sl hitS (fun k => k < x.heap.size) x a B,
          fun v x => ∃ a c, v = .slice a B.length c ∧ Sl hitS (fun k => k < x.heap.size) x a B, fun v _ => v = .int .i64 0,
          fun v x => ∃ a c, v = .slice a B.length c ∧ Sl hitS (fun k => k < x.heap.size) x a B, fun v _ => v = .int .i64 0]
        (fun x => Below w7.heap.size w7 x) (fun _ x y => Below x.heap.size x y) rfl (by kernel_rfl) (by kernel_rfl) (by kernel_rfl) ?fr ?hfr ?G0 ?GR ?FR ?step ?fin
      case hfr => intro u; simp only [Sp.fillFrom, Sp.idx_cons, Sp.idx_nil, Option.some.injEq, reduceCtorEq, reduceIte, Nat.reduceEqDiff, Nat.reduceAdd, Option.map_some, Option.map_none]; exact rfl
      case G0 => exact (Below.refl _ _).drew
      case GR => exact fun _ _ _ hG hR => hG.trans (hR.mono hG.size)
      case FR =>
        iterate 6 (refine ⟨fun _ _ _ _ _ _ _ h => h, ?_⟩)
        refine ⟨?_, ?_, ?_, fun _ _ _ _ _ _ _ h => h, ?_, fun _ _ _ _ _ _ _ h => h, trivial⟩
        · rintro i _ v x y _ hR ⟨a, c, e, h⟩; exact ⟨a, c, e, hits_grow hR h⟩
        · rintro i _ v x y _ hR ⟨a, c, e, h⟩; exact ⟨a, c, e, hits_grow hR h⟩
        · rintro i _ v x y _ hR ⟨a, c, e, h⟩; exact ⟨a, c, e, hits_grow hR h⟩
        · rintro i _ v x y _ hR ⟨a, c, e, h⟩; exact ⟨a, c, e, hits_grow hR h⟩
      case step =>
        refine ⟨?_, ?_, ?_, ?_, ?_, ?_, ?_, ?_, ?_, ?_, ?_, ?_, trivial⟩
        · intro u x hG hD
          simp only [Sp.DepsHold, Sp.factAt, Region.binds, List.getElem?_cons_zero, List.getElem?_cons_succ, Option.getD_some, and_true, true_implies] at hD
          dsimp only
          obtain ⟨c0, t0, t1, t2, t3⟩ := HCL.out x hG
          clear hG
          repeat (obtain ⟨hE, hD⟩ := hD; (try rw [hE]); clear hE)
          try rw [hD]
          try clear hD
          go_wp2
          (with_reducible apply Sp.rd_close)
          · exact Below.refl _ _
          · exact rfl
          · exact rfl
        · intro u x hG hD
          simp only [Sp.DepsHold, Sp.factAt, Region.binds, List.getElem?_cons_zero, List.getElem?_cons_succ, Option.getD_some, and_true, true_implies] at hD
          dsimp only
          obtain ⟨c0, t0, t1, t2, t3⟩ := HCL.out x hG
          clear hG
          repeat (obtain ⟨hE, hD⟩ := hD; (try rw [hE]); clear hE)
          try rw [hD]
          try clear hD
          go_wp2
          (with_reducible apply Sp.rd_close)
          · exact Below.refl _ _
          · exact rfl
          · exact rfl
        · intro u x hG hD
          simp only [Sp.DepsHold, Sp.factAt, Region.binds, List.getElem?_cons_zero, List.getElem?_cons_succ, Option.getD_some, and_true, true_implies] at hD
          dsimp only
          obtain ⟨c0, t0, t1, t2, t3⟩ := HCL.out x hG
          clear hG
          repeat (obtain ⟨hE, hD⟩ := hD; (try rw [hE]); clear hE)
          try rw [hD]
          try clear hD
          go_wp2
          (with_reducible apply Sp.rd_close)
          · exact Below.refl _ _
          · exact rfl
          · exact rfl
        · intro u x hG hD
          simp only [Sp.DepsHold, Sp.factAt, Region.binds, List.getElem?_cons_zero, List.getElem?_cons_succ, Option.getD_some, and_true, true_implies] at hD
          dsimp only
          obtain ⟨c0, t0, t1, t2, t3⟩ := HCL.out x hG
          clear hG
          repeat (obtain ⟨hE, hD⟩ := hD; (try rw [hE]); clear hE)
          try rw [hD]
          try clear hD
          go_wp2
          (with_reducible apply Sp.rd_close)
          · exact Below.refl _ _
          · exact rfl
          · exact rfl
        · intro u x hG hD
          simp only [Sp.DepsHold, Sp.factAt, Region.binds, List.getElem?_cons_zero, List.getElem?_cons_succ, Option.getD_some, and_true, true_implies] at hD
          dsimp only
          obtain ⟨h2, h3⟩ := hD
          rw [h2, h3]
          have hq := HSLT.out x
          clear hG h2 h3
          go_wp2
          (with_reducible apply Sp.rd_close)
          · exact Below.refl _ _
          · exact rfl
          · exact rfl
        · intro u x hG hD
          simp only [Sp.DepsHold, Sp.factAt, Region.binds, List.getElem?_cons_zero, List.getElem?_cons_succ, Option.getD_some, and_true, true_implies] at hD
          dsimp only
          obtain ⟨c0, t0, t1, t2, t3⟩ := HCL.out x hG
          clear hG
          repeat (obtain ⟨hE, hD⟩ := hD; (try rw [hE]); clear hE)
          try rw [hD]
          try clear hD
          go_wp2
          (with_reducible apply Sp.rd_close)
          · exact Below.refl _ _
          · exact rfl
          · exact rfl
        · intro u x hG hD
          simp only [Sp.DepsHold, Sp.factAt, Region.binds, List.getElem?_cons_zero, List.getElem?_cons_succ, Option.getD_some, and_true, true_implies] at hD
          dsimp only
          obtain ⟨h0, h5⟩ := hD
          rw [h0, h5]
          have HSE := Sp.hid (HSELB.out x hG)
          clear hG h0 h5
          go_wp2_with fail
          refine HSE.out.mono ?_
          rintro e x2 ⟨hb2, sa2, sc2, rfl, hs2⟩
          rw [← HBD.out] at hs2 ⊢
          have HB := Sp.hid hb2
          have HS := Sp.hid hs2
          clear hb2 hs2
          go_wp2
          (with_reducible apply Sp.rd_close)
          · exact HB.out
          · exact rfl
          · exact ⟨sa2, sc2, rfl, HS.out⟩
        iterate 2
          · intro u x hG hD
            simp only [Sp.DepsHold, Sp.factAt, Region.binds, List.getElem?_cons_zero, List.getElem?_cons_succ, Option.getD_some, and_true, true_implies] at hD
            dsimp only
            obtain ⟨sa2, sc2, hE, hs⟩ := hD
            rw [hE]
            have HS := Sp.hid hs
            clear hG hE hs
            go_wp2
            (with_reducible apply Sp.rd_close)
            · exact Below.refl _ _
            · exact rfl
            · exact ⟨sa2, sc2, rfl, HS.out⟩
        · intro u x hG hD
          simp only [Sp.DepsHold, Sp.any_text, Sp.any_gc, Bool.false_eq_true, false_implies, Sp.factAt, Region.binds, List.getElem?_cons_zero, List.getElem?_cons_succ, Option.getD_some, and_true, true_implies] at hD
          dsimp only
          obtain ⟨sa2, sc2, hE, hs⟩ := hD
          rw [hE]
          clear hG hE hs
          go_wp2
          (with_reducible apply Sp.rd_close)
          · exact Below.refl _ _
          · exact rfl
          · exact rfl
        · intro u x hG hD
          simp only [Sp.DepsHold, Sp.any_text, Sp.any_gc, Bool.false_eq_true, false_implies, Sp.factAt, Region.binds, List.getElem?_cons_zero, List.getElem?_cons_succ, Option.getD_some, and_true, true_implies] at hD
          dsimp only
          obtain ⟨⟨sa2, sc2, hE, hs⟩, -⟩ := hD
          rw [hE]
          have HS := Sp.hid hs
          clear hG hE hs
          go_wp2
          (with_reducible apply Sp.rd_close)
          · exact Below.refl _ _
          · exact rfl
          · exact ⟨sa2, sc2, rfl, HS.out⟩
        · intro u x hG hD
          simp only [Sp.DepsHold, Sp.any_text, Sp.any_gc, Bool.false_eq_true, false_implies, Sp.factAt, Region.binds, List.getElem?_cons_zero, List.getElem?_cons_succ, Option.getD_some, and_true, true_implies] at hD
          dsimp only
          obtain ⟨hE, -⟩ := hD
          rw [hE]
          clear hG hE
          go_wp2
          (with_reducible apply Sp.rd_close)
          · exact Below.refl _ _
          · exact rfl
          · exact rfl
      case fin =>
        intro u w8 hG hF
        simp only [Sp.AllF, and_true] at hF; (try dsimp only); generalize u 0 = u0 at *; generalize u 1 = u1 at *; generalize u 2 = u2 at *; generalize u 3 = u3 at *; generalize u 4 = u4 at *; generalize u 5 = u5 at *; generalize u 6 = u6 at *; generalize u 7 = u7 at *; generalize u 8 = u8 at *; generalize u 9 = u9 at *; generalize u 10 = u10 at *; generalize u 11 = u11 at *; clear u
        obtain ⟨-, -, -, -, -, -, -, -, -, -, ⟨fa, fc, he10, hsB⟩, he11⟩ := hF
        rw [he10, he11]
        have hs8 := hG.size
        have HB78 := Sp.hid hG
        have HB8 := Sp.hid (HB7.out.trans (hG.mono HB7.out.size) : Below w.heap.size w w8)
        have HB38 := Sp.hid (HB37.out.trans (hG.mono HB37.out.size) : Below w3.heap.size w3 w8)
        have HSB := Sp.hid hsB
        have c0 : w8.cell? ⟨w.heap.size, 0, none⟩ = some (.slice sa steps.length sc) := (HCL.out w8 hG).1
        clear hG hsB he10 he11
        by_cases hend : pk = steps.length
        · have hBA : B.length = A.length := by rw [HBD.out, HA.out, hend, List.take_length]
          have hei : (((pk : Nat) : Int) == ((steps.length : Nat) : Int)) = true := by rw [hend]; simp
          have hli : (((B.length : Nat) : Int) == ((A.length : Nat) : Int)) = true := by rw [hBA]; simp
          clear hend hBA
          have HAW := Sp.hid (awake16_any w8 (HSP.out w8 HB8.out))
          have HBA := Sp.hid HB8.out
          go_wp2_with fail
          refine HAW.out.mono ?_
          rintro e wz ⟨rfl, hbz⟩
          have HBZ := Sp.hid (HBA.out.trans (hbz.mono HBA.out.size))
          clear hbz
          go_wp2
          go_ret
          exact ⟨rfl, HBZ.out⟩
        · have hei : (((pk : Nat) : Int) == ((steps.length : Nat) : Int)) = false := by rw [beq_eq_false_iff_ne]; omega
          have hplt : pk < steps.length := by omega
          have hnat := HP2.out hplt
          obtain ⟨NB, hNB⟩ : ∃ NB, NB = leadN (steps.take pk) ([], T) := ⟨_, rfl⟩
          have hBN : B = NB.map fun y => (y.1, ⟨#[]⟩) := by rw [HBD.out, hNB]; exact leadM_nodes _ _ hnat
          have hAN : A = NB.flatMap (leadM (steps.drop pk)) := by
            rw [HA.out, hNB, ← leadM_parts _ _ _ hnat, List.take_append_drop]
          have hBl : B.length = NB.length := by rw [hBN, List.length_map]
          have hNBl : NB.length ≤ 4294967296 := by
            rw [← hBl, HBD.out]
            exact Nat.le_trans (leadM_length rfl (steps.take pk) xs.length [] T HTHIN.out) (Nat.mul_le_mul_right 1048576 (checkM_nodes HC0.out))
          have hNat : ∀ y ∈ NB, atM y.1 T = some y.2 ∧ y.1.length ≤ 32 := fun y hy => by
            rw [hNB] at hy
            obtain ⟨h1, h2⟩ := leadN_at (steps.take pk) (T0 := T) (x := ([], T)) rfl y hy
            have := pcheckM_zero HC1.out
            rw [List.length_take] at h2
            exact ⟨h1, by simp at h2; omega⟩
          have HPD := Sp.hid (pcheck_drop HC1.out pk)
          have HBN := Sp.hid hBN
          have HAN := Sp.hid hAN
          have HNAT := Sp.hid hNat
          have HNB := Sp.hid hNB
          clear hend hnat hNB hBN hAN hNat
          go_wp2
          clear c0
          rw [hBl]
          go_loopw [14, 15] (fun nv i wr => ∃ k : Nat, k ≤ NB.length ∧ i = .int .i64 k ∧ nv = .int .i64 (((NB.take k).flatMap (leadM (steps.drop pk))).length : Nat) ∧ Below w8.heap.size w8 wr) (fun _ i _ => NB.length - (intOf i).toNat)
          case atStart => exact ⟨0, Nat.zero_le _, rfl, by simp, Below.refl _ _⟩
          case round =>
            obtain ⟨k, hk, rfl, rfl, hb9⟩ := hrel
            obtain ⟨w9, rfl⟩ : ∃ w9, w9 = wr := ⟨_, rfl⟩
            have hs9 := hb9.size
            have HB89 := Sp.hid hb9
            have HB9 := Sp.hid (HB8.out.trans (hb9.mono HB8.out.size) : Below w.heap.size w w9)
            have HB39 := Sp.hid (HB38.out.trans (hb9.mono HB38.out.size) : Below w3.heap.size w3 w9)
            have HB79 := Sp.hid (HB78.out.trans (hb9.mono HB78.out.size) : Below w7.heap.size w7 w9)
            clear hb9
            by_cases hlt : k < NB.length
            · obtain ⟨nn, hnn⟩ : ∃ nn, nn = ((NB.take k).flatMap (leadM (steps.drop pk))).length := ⟨_, rfl⟩
              rw [← hnn]
              have HNN := Sp.hid hnn
              clear hnn
              have hNk := HNAT.out _ (List.getElem_mem hlt)
              have hpre : ((NB.take (k + 1)).flatMap (leadM (steps.drop pk))) = (NB.take k).flatMap (leadM (steps.drop pk)) ++ leadM (steps.drop pk) NB[k] := by
                rw [List.take_succ_eq_append_getElem hlt, List.flatMap_append]; simp
              have hBk : B[k]'(by omega) = (NB[k].1, ⟨#[]⟩) := by
                have := HBN.out
                subst this
                rw [List.getElem_map]
              have hslr := HSB.out.frame (fun b hb' => HB89.out.block b hb')
              obtain ⟨fb, fo, va, vc, rfl, -, hv0, a0, a1⟩ := hit_cells hslr k (by omega)
              rw [hBk] at hv0 a0 a1
              obtain ⟨y, hy⟩ : ∃ y, y = NB[k] := ⟨_, rfl⟩
              rw [← hy] at hNk hpre hv0 a0 a1
              obtain ⟨hat1, hyl⟩ := hNk
              dsimp only at hv0 a0 a1
              have hfbl := World.block_lt_of_cell? _ _ a0
              dsimp only at hfbl
              have HA0 := Sp.hid a0
              have HA1 := Sp.hid a1
              have HV0 := Sp.hid hv0
              have HPRE := Sp.hid hpre
              have HAT1 := Sp.hid hat1
              have hvl : ∀ W, Below w9.heap.size w9 W → Sl (Shape.int .i64) (· < w8.heap.size) W va y.1 := fun W hW => hv0.frame fun b hb' => hW.block b (Nat.lt_of_lt_of_le hb' hs9)
              have HVL := Sp.hid hvl
              have HAT := Sp.hid (fun W (hW : Below w9.heap.size w9 W) => at_ok (F := (· < w8.heap.size)) (c := vc) hat1 (HND.out W (HB39.out.trans (hW.mono HB39.out.size))) (Nat.le_trans (by omega : w2.heap.size ≤ w9.heap.size) hW.size) (HVL.out W hW) (fun k h => Nat.lt_of_lt_of_le (Nat.lt_of_lt_of_le h hs9) hW.size) (by omega))
              clear hvl
              have hn2 : w2.heap.size ≤ w9.heap.size := by omega
              obtain ⟨C, hC⟩ : ∃ C, C = leadM (steps.drop pk) ([], y.2) := ⟨_, rfl⟩
              have HPC := Sp.hid (parts_named HAN.out HNN.out hlt hy hC)
              have HCD := Sp.hid hC
              clear hpre hBk hslr hat1 hy hv0 a0 a1 hC
              go_wp2
              refine wp_region_inv (by kernel_rfl) [some 145, some 146, some 147, some 148, some 149, some 150, some 151, some 144, some 152, some 153, some 16, none, some 17] rfl (by kernel_rfl) (by kernel_rfl) ?fr3 ?hfr3
                (Inv21 w2.heap.size xs.length w9 (.agg #[.string T.label, .string T.text, .slice aa T.attrs.length ca, .slice ka T.kids.length ck]) (.slice (some ⟨fb, fo, none⟩) NB.length fc) k (.pointer (some ⟨fb, fo + k * 2, none⟩)) (.slice va y.1.length vc) y.2)
                (fun u => ⟨(Below.refl _ _).drew, fun i hi => by cases hi⟩) ?step3 ?fin3
              case hfr3 => intro u; simp only [Sp.fillFrom, Sp.idx_cons, Sp.idx_nil, Option.some.injEq, reduceCtorEq, reduceIte, Nat.reduceEqDiff, Nat.reduceAdd, Option.map_some, Option.map_none]; exact rfl
              case step3 =>
                refine ⟨?_, ?_, ?_, ?_, ?_, ?_, ?_, ?_, ?_, ?_, ?_, ?_, ?_, trivial⟩
                all_goals
                  intro L u x hL hD hI
                  simp only [DepsDone, Region.binds, Sp.any_text, Sp.any_gc, Bool.false_eq_true, false_implies, and_true, true_and, true_implies] at hD
                  obtain ⟨c0, t0, t1, t2, t3⟩ := HCL.out x (HB79.out.trans (hI.1.mono HB79.out.size))
                  have f0 : x.cell? ⟨fb, fo + k * 2, none⟩ = some (.slice va y.1.length vc) := (hI.1.cell (p := ⟨fb, fo + k * 2, none⟩) hfbl).trans HA0.out
                  have HI := Sp.hid hI
                  dsimp only
                -- 0 1 2
                iterate 3
                  · clear hL hD hI
                    go_wp2
                    exact ⟨_, rfl, inv21_put hn2 HI.out _ (by decide) _ (Below.refl _ _) (by first | rfl | (simp only [F21]; simp [updU]))⟩
                -- 3
                · have h1 : u 1 = _ := hI.2 1 hD.1
                  have h2 : u 2 = _ := hI.2 2 hD.2
                  rw [h1, h2]
                  clear hL hD hI h1 h2
                  go_wp2
                  exact ⟨_, rfl, inv21_put hn2 HI.out _ (by decide) _ (Below.refl _ _) (by first | rfl | (simp only [F21]; simp [updU]))⟩
                -- 4
                · have h1 : u 3 = _ := hI.2 3 hD
                  rw [h1]
                  clear hL hD hI h1
                  go_wp2
                  exact ⟨_, rfl, inv21_put hn2 HI.out _ (by decide) _ (Below.refl _ _) (by first | rfl | (simp only [F21]; simp [updU]))⟩
                -- 5
                · have h1 : u 4 = _ := hI.2 4 hD
                  rw [h1]
                  clear hL hD hI h1
                  go_wp2
                  exact ⟨_, rfl, inv21_put hn2 HI.out _ (by decide) _ (Below.refl _ _) (by first | rfl | (simp only [F21]; simp [updU]))⟩
                -- 6
                · have h1 : u 0 = _ := hI.2 0 hD.1
                  have h2 : u 5 = _ := hI.2 5 hD.2
                  rw [h1, h2]
                  have HA := Sp.hid (HAT.out x hI.1)
                  clear hL hD hI h1 h2
                  go_wp2_with fail
                  refine HA.out.mono ?_
                  rintro e x2 ⟨hb, vs', rfl, hnode⟩
                  have HB := Sp.hid hb
                  have HN := Sp.hid hnode
                  clear hb hnode
                  go_wp2
                  exact ⟨.tuple #[.agg vs', .int .i64 0], rfl, inv21_put hn2 HI.out 6 (by decide) _ HB.out ⟨vs', by simp [updU], HN.out⟩⟩
                -- 7
                · obtain ⟨vs', h1, hnode⟩ := hI.2 6 hD
                  rw [h1]
                  have HN := Sp.hid hnode
                  clear hL hD hI h1 hnode
                  go_wp2
                  exact ⟨_, rfl, inv21_put hn2 HI.out 7 (by decide) _ (Below.refl _ _) ⟨vs', by simp [updU], HN.out⟩⟩
                -- 8
                · obtain ⟨vs', h1, hnode⟩ := hI.2 7 hD
                  rw [h1]
                  have HN := Sp.hid hnode
                  clear hL hD hI h1 hnode
                  go_wp2
                  exact ⟨_, rfl, inv21_put hn2 HI.out 8 (by decide) _ (Below.refl _ _) ⟨vs', by simp [updU], HN.out⟩⟩
                -- 9
                · obtain ⟨vs', h1, -⟩ := hI.2 7 hD
                  rw [h1]
                  clear hL hD hI h1
                  go_wp2
                  exact ⟨_, rfl, inv21_put hn2 HI.out 9 (by decide) _ (Below.refl _ _) (by simp only [F21]; simp [updU])⟩
                -- 10
                · have hl11 : L 11 = false := by
                    cases h11 : L 11
                    · rfl
                    · have := hI.2 11 h11
                      simp only [F21] at this
                      rw [this] at hL; cases hL
                  have hxs := hI.1.size
                  clear hD hI hL
                  go_wp2
                  exact ⟨_, rfl, inv21_put hn2 HI.out 10 (by decide) _ ((Below.refl _ _).alloc (Nat.le_refl _) _) ⟨x.heap.size, by simp [updU], hxs, fun _ => World.alloc_heap_new _ _, fun h => by unfold updB at h; simp [hl11] at h⟩⟩
                -- 11
                · obtain ⟨z, hz10, hzl, hz0, -⟩ := hI.2 10 hD.1
                  obtain ⟨vs', h8, hnode⟩ := hI.2 8 hD.2.1
                  have hzb := hz0 hL
                  have hn' := hnode
                  obtain ⟨a1, c1, k1, d1, rfl, -⟩ := hn'
                  have h10 := hD.1
                  have HN := Sp.hid hnode
                  have HZB := Sp.hid hzb
                  have q0 : x.cell? ⟨z, 0, none⟩ = some (.string ⟨#[]⟩) := cell_at hzb 0
                  have q1 : x.cell? ⟨z, 1, none⟩ = some (.string ⟨#[]⟩) := cell_at hzb 1
                  have q2 : x.cell? ⟨z, 2, none⟩ = some (.slice none 0 0) := cell_at hzb 2
                  have q3 : x.cell? ⟨z, 3, none⟩ = some (.slice none 0 0) := cell_at hzb 3
                  have fz := frozenN hzb
                  have HZ10 := Sp.hid hz10
                  have hxz : z < x.heap.size := (Array.getElem?_eq_some_iff.1 hzb).1
                  rw [hz10, h8]
                  clear hL hD hI hz10 h8 hnode hz0 hzb c0 t0 t1 t2 t3 f0
                  go_wp2
                  refine ⟨.int .i64 0, rfl, inv21_store hn2 HI.out h10 _ HZ10.out HN.out hzl (fun b hb => ?_) (by simp) rfl rfl rfl ?_⟩
                  · rw [Below.heap_setCell _ _ _ _ (by show b ≠ z; exact hb), Below.heap_setCell _ _ _ _ (by show b ≠ z; exact hb), Below.heap_setCell _ _ _ _ (by show b ≠ z; exact hb), Below.heap_setCell _ _ _ _ (by show b ≠ z; exact hb)]
                  · have h1 := Joins.block_setCell (Joins.block_setCell (Joins.block_setCell (Joins.block_setCell HZB.out (.string y.2.label) (i := 0)) (.string y.2.text) (i := 1)) (.slice a1 y.2.attrs.length c1) (i := 2)) (.slice k1 y.2.kids.length d1) (i := 3)
                    simpa using h1
                -- 12
                · have h1 : u 9 = _ := hI.2 9 hD.1
                  rw [h1]
                  clear hL hD hI h1
                  go_wp2
                  exact ⟨_, rfl, inv21_put hn2 HI.out 12 (by decide) _ (Below.refl _ _) (by simp only [F21]; simp [updU])⟩
              case fin3 =>
                intro L u w10 hall hI
                obtain ⟨z, hz10, hzl, -, hz⟩ := hI.2 10 (hall 10 (by decide))
                obtain ⟨vs', hzc, hnode⟩ := hz (hall 11 (by decide))
                have h12 : u 12 = _ := hI.2 12 (hall 12 (by decide))
                have hb10 := hI.1
                clear hI hall hz
                rw [hz10, h12]
                obtain ⟨a1, c1, k1, d1, rfl, -⟩ := id hnode
                generalize u 0 = g0
                generalize u 1 = g1
                generalize u 2 = g2
                generalize u 3 = g3
                generalize u 4 = g4
                generalize u 5 = g5
                generalize u 6 = g6
                generalize u 7 = g7
                generalize u 8 = g8
                generalize u 9 = g9
                generalize u 11 = g11
                clear h12 hz10 u
                have hs10 := hb10.size
                have HB10 := Sp.hid (HB9.out.trans (hb10.mono HB9.out.size) : Below w.heap.size w w10)
                have HB310 := Sp.hid (HB39.out.trans (hb10.mono HB39.out.size) : Below w3.heap.size w3 w10)
                have HB710 := Sp.hid (HB79.out.trans (hb10.mono HB79.out.size) : Below w7.heap.size w7 w10)
                have HB810 := Sp.hid (HB89.out.trans (hb10.mono HB89.out.size) : Below w8.heap.size w8 w10)
                have HB910 := Sp.hid hb10
                have HND2 := Sp.hid hnode
                have HZC := Sp.hid hzc
                have hzl10 : z < w10.heap.size := (Array.getElem?_eq_some_iff.1 hzc).1
                have hck2 : checkM xs.length y.2 = 0 := check_sub HTHIN.out HC0.out HAT1.out
                have HCK2 := Sp.hid hck2
                obtain ⟨sb, so, rfl⟩ : ∃ sb so, sa = some ⟨sb, so, none⟩ := by
                  obtain ⟨b, o, vs, h, -⟩ := HSL.out w (Below.refl _ _) 0 (by omega)
                  exact ⟨b, o, h⟩
                have hwl10 : w.heap.size < w10.heap.size := by omega
                have hs210 : w2.heap.size ≤ w10.heap.size := by omega
                have hw02 : w.heap.size ≤ w2.heap.size := by omega
                have hxs2 : xs.length ≤ 2000000 := by omega
                have HCL2 := Sp.hid (fun W (hW : Below w10.heap.size w10 W) => by
                  have h1 := (HB310.out.trans (hW.mono HB310.out.size)).block w.heap.size (by omega)
                  have h2 := (hW.block z hzl10).trans HZC.out
                  exact (⟨cell_at (h1.trans HT3.out) 0, cell_at h2 0, cell_at h2 1, cell_at h2 2, cell_at h2 3⟩ :
                    W.cell? ⟨w.heap.size, 0, none⟩ = some (.slice (some ⟨sb, so, none⟩) steps.length sc) ∧ W.cell? ⟨z, 0, none⟩ = some (.string y.2.label) ∧ W.cell? ⟨z, 1, none⟩ = some (.string y.2.text) ∧ W.cell? ⟨z, 2, none⟩ = some (.slice a1 y.2.attrs.length c1) ∧ W.cell? ⟨z, 3, none⟩ = some (.slice k1 y.2.kids.length d1)))
                have HN10 := Sp.hid (fun W (hW : Below w10.heap.size w10 W) => HND2.out.below (hW.mono hs210))
                have HSELC := Sp.hid (fun W (hW : Below w10.heap.size w10 W) => sel_dropped pk hxs2 (HN10.out W hW) ((HSL.out W (HB10.out.trans (hW.mono HB10.out.size))).mono fun k hk => Nat.lt_of_lt_of_le (show k < w.heap.size from hk) hw02) (Nat.le_trans hs210 hW.size) hsc (HSP.out W (HB10.out.trans (hW.mono HB10.out.size))) HCK2.out HPD.out)
                have HSLD := Sp.hid (fun W => slice_drop sb so steps.length sc pk hplt hsc W)
                clear hb10 hnode hzc hck2
                go_wp2
                refine Sp.wp_region_facts (by kernel_rfl) [some 155, some 156, some 157, some 158, some 159, some 160, some 161, some 154, some 162, some 163, some 18, some 19]
                  [fun v _ => v = .agg #[.string y.2.label, .string y.2.text, .slice a1 y.2.attrs.length c1, .slice k1 y.2.kids.length d1], fun v _ => v = .pointer (some ⟨w.heap.size, 0, none⟩), fun v _ => v = .slice (some ⟨sb, so, none⟩) steps.length sc, fun v _ => v = .int .i64 (pk : Nat), fun v _ => v = .slice (some ⟨sb, so + pk * 3, none⟩) (steps.length - pk) (sc - pk), fun v _ => v = .agg #[.slice (some ⟨sb, so + pk * 3, none⟩) (steps.length - pk) (sc - pk)],
                    fun v x => ∃ a c, v = .tuple #[.slice a C.length c, .int .i64 0] ∧ Sl hitS (fun k => k < x.heap.size) x a C,
                    fun v x => ∃ a c, v = .tuple #[.slice a C.length c, .int .i64 0] ∧ Sl hitS (fun k => k < x.heap.size) x a C,
                    fun v x => ∃ a c, v = .slice a C.length c ∧ Sl hitS (fun k => k < x.heap.size) x a C, fun v _ => v = .int .i64 0,
                    fun v x => ∃ a c, v = .slice a C.length c ∧ Sl hitS (fun k => k < x.heap.size) x a C, fun v _ => v = .int .i64 0]
                  (fun x => Below w10.heap.size w10 x) (fun _ x y => Below x.heap.size x y) rfl (by kernel_rfl) (by kernel_rfl) (by kernel_rfl) ?fr4 ?hfr4 ?G04 ?GR4 ?FR4 ?step4 ?fin4
                case hfr4 => intro u; simp only [Sp.fillFrom, Sp.idx_cons, Sp.idx_nil, Option.some.injEq, reduceCtorEq, reduceIte, Nat.reduceEqDiff, Nat.reduceAdd, Option.map_some, Option.map_none]; exact rfl
                case G04 => exact (Below.refl _ _).drew
                case GR4 => exact fun _ _ _ hG hR => hG.trans (hR.mono hG.size)
                case FR4 =>
                  iterate 6 (refine ⟨fun _ _ _ _ _ _ _ h => h, ?_⟩)
                  refine ⟨?_, ?_, ?_, fun _ _ _ _ _ _ _ h => h, ?_, fun _ _ _ _ _ _ _ h => h, trivial⟩
                  · rintro i _ v x y _ hR ⟨a, c, e, h⟩; exact ⟨a, c, e, hits_grow hR h⟩
                  · rintro i _ v x y _ hR ⟨a, c, e, h⟩; exact ⟨a, c, e, hits_grow hR h⟩
                  · rintro i _ v x y _ hR ⟨a, c, e, h⟩; exact ⟨a, c, e, hits_grow hR h⟩
                  · rintro i _ v x y _ hR ⟨a, c, e, h⟩; exact ⟨a, c, e, hits_grow hR h⟩
                case step4 =>
                  refine ⟨?_, ?_, ?_, ?_, ?_, ?_, ?_, ?_, ?_, ?_, ?_, ?_, trivial⟩
                  · intro u x hG hD
                    simp only [Sp.DepsHold, Sp.factAt, Region.binds, List.getElem?_cons_zero, List.getElem?_cons_succ, Option.getD_some, and_true, true_implies] at hD
                    dsimp only
                    obtain ⟨c0, t0, t1, t2, t3⟩ := HCL2.out x hG
                    clear hG
                    repeat (obtain ⟨hE, hD⟩ := hD; (try rw [hE]); clear hE)
                    try rw [hD]
                    try clear hD
                    go_wp2
                    (with_reducible apply Sp.rd_close)
                    · exact Below.refl _ _
                    · exact rfl
                    · exact rfl
                  · intro u x hG hD
                    simp only [Sp.DepsHold, Sp.factAt, Region.binds, List.getElem?_cons_zero, List.getElem?_cons_succ, Option.getD_some, and_true, true_implies] at hD
                    dsimp only
                    obtain ⟨c0, t0, t1, t2, t3⟩ := HCL2.out x hG
                    clear hG
                    repeat (obtain ⟨hE, hD⟩ := hD; (try rw [hE]); clear hE)
                    try rw [hD]
                    try clear hD
                    go_wp2
                    (with_reducible apply Sp.rd_close)
                    · exact Below.refl _ _
                    · exact rfl
                    · exact rfl
                  · intro u x hG hD
                    simp only [Sp.DepsHold, Sp.factAt, Region.binds, List.getElem?_cons_zero, List.getElem?_cons_succ, Option.getD_some, and_true, true_implies] at hD
                    dsimp only
                    obtain ⟨c0, t0, t1, t2, t3⟩ := HCL2.out x hG
                    clear hG
                    repeat (obtain ⟨hE, hD⟩ := hD; (try rw [hE]); clear hE)
                    try rw [hD]
                    try clear hD
                    go_wp2
                    (with_reducible apply Sp.rd_close)
                    · exact Below.refl _ _
                    · exact rfl
                    · exact rfl
                  · intro u x hG hD
                    simp only [Sp.DepsHold, Sp.factAt, Region.binds, List.getElem?_cons_zero, List.getElem?_cons_succ, Option.getD_some, and_true, true_implies] at hD
                    dsimp only
                    obtain ⟨c0, t0, t1, t2, t3⟩ := HCL2.out x hG
                    clear hG
                    repeat (obtain ⟨hE, hD⟩ := hD; (try rw [hE]); clear hE)
                    try rw [hD]
                    try clear hD
                    go_wp2
                    (with_reducible apply Sp.rd_close)
                    · exact Below.refl _ _
                    · exact rfl
                    · exact rfl
                  · intro u x hG hD
                    simp only [Sp.DepsHold, Sp.factAt, Region.binds, List.getElem?_cons_zero, List.getElem?_cons_succ, Option.getD_some, and_true, true_implies] at hD
                    dsimp only
                    obtain ⟨h2, h3⟩ := hD
                    rw [h2, h3]
                    have hq := HSLD.out x
                    clear hG h2 h3
                    go_wp2
                    (with_reducible apply Sp.rd_close)
                    · exact Below.refl _ _
                    · exact rfl
                    · exact rfl
                  · intro u x hG hD
                    simp only [Sp.DepsHold, Sp.factAt, Region.binds, List.getElem?_cons_zero, List.getElem?_cons_succ, Option.getD_some, and_true, true_implies] at hD
                    dsimp only
                    obtain ⟨c0, t0, t1, t2, t3⟩ := HCL2.out x hG
                    clear hG
                    repeat (obtain ⟨hE, hD⟩ := hD; (try rw [hE]); clear hE)
                    try rw [hD]
                    try clear hD
                    go_wp2
                    (with_reducible apply Sp.rd_close)
                    · exact Below.refl _ _
                    · exact rfl
                    · exact rfl
                  · intro u x hG hD
                    simp only [Sp.DepsHold, Sp.factAt, Region.binds, List.getElem?_cons_zero, List.getElem?_cons_succ, Option.getD_some, and_true, true_implies] at hD
                    dsimp only
                    obtain ⟨h0, h5⟩ := hD
                    rw [h0, h5]
                    have HSE := Sp.hid (HSELC.out x hG)
                    clear hG h0 h5
                    go_wp2_with fail
                    refine HSE.out.mono ?_
                    rintro e x2 ⟨hb2, sa2, sc2, rfl, hs2⟩
                    rw [← HCD.out] at hs2 ⊢
                    have HB := Sp.hid hb2
                    have HS := Sp.hid hs2
                    clear hb2 hs2
                    go_wp2
                    (with_reducible apply Sp.rd_close)
                    · exact HB.out
                    · exact rfl
                    · exact ⟨sa2, sc2, rfl, HS.out⟩
                  iterate 2
                    · intro u x hG hD
                      simp only [Sp.DepsHold, Sp.factAt, Region.binds, List.getElem?_cons_zero, List.getElem?_cons_succ, Option.getD_some, and_true, true_implies] at hD
                      dsimp only
                      obtain ⟨sa2, sc2, hE, hs⟩ := hD
                      rw [hE]
                      have HS := Sp.hid hs
                      clear hG hE hs
                      go_wp2
                      (with_reducible apply Sp.rd_close)
                      · exact Below.refl _ _
                      · exact rfl
                      · exact ⟨sa2, sc2, rfl, HS.out⟩
                  · intro u x hG hD
                    simp only [Sp.DepsHold, Sp.any_text, Sp.any_gc, Bool.false_eq_true, false_implies, Sp.factAt, Region.binds, List.getElem?_cons_zero, List.getElem?_cons_succ, Option.getD_some, and_true, true_implies] at hD
                    dsimp only
                    obtain ⟨sa2, sc2, hE, hs⟩ := hD
                    rw [hE]
                    clear hG hE hs
                    go_wp2
                    (with_reducible apply Sp.rd_close)
                    · exact Below.refl _ _
                    · exact rfl
                    · exact rfl
                  · intro u x hG hD
                    simp only [Sp.DepsHold, Sp.any_text, Sp.any_gc, Bool.false_eq_true, false_implies, Sp.factAt, Region.binds, List.getElem?_cons_zero, List.getElem?_cons_succ, Option.getD_some, and_true, true_implies] at hD
                    dsimp only
                    obtain ⟨⟨sa2, sc2, hE, hs⟩, -⟩ := hD
                    rw [hE]
                    have HS := Sp.hid hs
                    clear hG hE hs
                    go_wp2
                    (with_reducible apply Sp.rd_close)
                    · exact Below.refl _ _
                    · exact rfl
                    · exact ⟨sa2, sc2, rfl, HS.out⟩
                  · intro u x hG hD
                    simp only [Sp.DepsHold, Sp.any_text, Sp.any_gc, Bool.false_eq_true, false_implies, Sp.factAt, Region.binds, List.getElem?_cons_zero, List.getElem?_cons_succ, Option.getD_some, and_true, true_implies] at hD
                    dsimp only
                    obtain ⟨hE, -⟩ := hD
                    rw [hE]
                    clear hG hE
                    go_wp2
                    (with_reducible apply Sp.rd_close)
                    · exact Below.refl _ _
                    · exact rfl
                    · exact rfl
                case fin4 =>
                  intro u w11 hG hF
                  simp only [Sp.AllF, and_true] at hF
                  obtain ⟨-, -, -, -, -, -, -, -, -, -, ⟨ga, gc, he10, hsC⟩, he11⟩ := hF
                  rw [he10, he11]
                  generalize u 0 = h0
                  generalize u 1 = h1
                  generalize u 2 = h2
                  generalize u 3 = h3
                  generalize u 4 = h4
                  generalize u 5 = h5
                  generalize u 6 = h6
                  generalize u 7 = h7
                  generalize u 8 = h8
                  generalize u 9 = h9
                  clear he10 he11 u
                  have hs11 := hG.size
                  have HB11 := Sp.hid (HB10.out.trans (hG.mono HB10.out.size) : Below w.heap.size w w11)
                  have HB811 := Sp.hid (HB810.out.trans (hG.mono HB810.out.size) : Below w8.heap.size w8 w11)
                  have HB911 := Sp.hid (HB910.out.trans (hG.mono HB910.out.size) : Below w9.heap.size w9 w11)
                  have HB711 := Sp.hid (HB710.out.trans (hG.mono HB710.out.size) : Below w7.heap.size w7 w11)
                  have HSC := Sp.hid hsC
                  have f1 : w11.cell? ⟨fb, fo + k * 2 + 1, none⟩ = some (.string ⟨#[]⟩) := (HB911.out.cell (p := ⟨fb, fo + k * 2 + 1, none⟩) hfbl).trans HA1.out
                  have hC2 : nn + C.length ≤ A.length := HPC.out.2.1
                  have hC1 : C.length ≤ 4294967296 := by omega
                  clear hG hsC
                  go_wp2
                  go_loopw [14, 20] (fun nv i wr => ∃ j : Nat, j ≤ C.length ∧ i = .int .i64 j ∧ nv = .int .i64 ((nn + j : Nat) : Int) ∧ Below w11.heap.size w11 wr) (fun _ i _ => C.length - (intOf i).toNat)
                  case atStart => exact ⟨0, Nat.zero_le _, rfl, rfl, Below.refl _ _⟩
                  case round =>
                    obtain ⟨j, hj, rfl, rfl, hb12⟩ := hrel
                    obtain ⟨w12, rfl⟩ : ∃ w12, w12 = wr := ⟨_, rfl⟩
                    obtain ⟨mm, hmm⟩ : ∃ mm, mm = nn + j := ⟨_, rfl⟩
                    rw [← hmm]
                    have hs12 := hb12.size
                    have HB12 := Sp.hid hb12
                    clear hb12
                    by_cases hlj : j < C.length
                    · obtain ⟨hmA, hAe⟩ : ∃ h : mm < A.length, A[mm] = (y.1 ++ C[j].1, C[j].2) := by subst hmm; exact HPC.out.2.2 j hlj
                      have hb912 : Below w9.heap.size w9 w12 := HB911.out.trans (HB12.out.mono HB911.out.size)
                      have hb612 : Below w6.heap.size w6 w12 := HB67.out.trans ((HB711.out.trans (HB12.out.mono HB711.out.size)).mono HB67.out.size)
                      have hslr := HSA.out.frame (fun b hb' => hb612.block b hb')
                      obtain ⟨pb, po, pa, pc, rfl, -, hv2, p0, p1⟩ := hit_cells hslr mm hmA
                      have hslc := HSC.out.frame (fun b hb' => HB12.out.block b hb')
                      obtain ⟨qb, qo, qa, qc, rfl, -, hv3, r0, r1⟩ := hit_cells hslc j hlj
                      have hxl := HAL.out _ (List.getElem_mem hmA)
                      rw [hAe] at hv2 p0 p1 hxl
                      obtain ⟨x, hx⟩ : ∃ x, x = C[j] := ⟨_, rfl⟩
                      rw [← hx] at hv2 hv3 p0 p1 r0 r1 hxl
                      dsimp only at hv2 p0 p1 hxl
                      rw [List.length_append] at hxl
                      have hpbl := World.block_lt_of_cell? _ _ p0
                      have hqbl := World.block_lt_of_cell? _ _ r0
                      dsimp only at hpbl hqbl
                      have f0 : w12.cell? ⟨fb, fo + k * 2, none⟩ = some (.slice va y.1.length vc) := (hb912.cell (p := ⟨fb, fo + k * 2, none⟩) hfbl).trans HA0.out
                      have HV1 := Sp.hid (HVL.out w12 hb912)
                      have HV2 := Sp.hid hv2
                      have HV3 := Sp.hid hv3
                      have HP0 := Sp.hid p0
                      have HP1 := Sp.hid p1
                      have HR0 := Sp.hid r0
                      have HR1 := Sp.hid r1
                      have HMM := Sp.hid hmm
                      have hk64 : k ≤ 4294967296 := by omega
                      clear hAe hb912 hb612 hslr hslc hv2 hv3 p0 p1 r0 r1 hx hmm f1
                      go_wp2_with (at_builtin; refine wpList_append_ints rfl _ _ rfl w12.heap.size _ _ _ rfl (World.ownsRow_nil _ _ _ _) (· < w8.heap.size) va vc y.1 rfl HV1.out ?c1 ?c2 ?c3)
                      case c1 => omega
                      case c2 => exact Nat.le_refl _
                      case c3 =>
                        intro v1 w13 hown1 hgrow1
                        try simp only [Nat.zero_add, List.nil_append] at hown1
                        have hb13 : Below w12.heap.size w12 w13 := (Below.refl _ _).grown hgrow1 (Nat.le_refl _) (fun j hj => by simp [Value.ownBlock] at hj)
                        have hs13 := hb13.size
                        have r0 : w13.cell? ⟨qb, qo + j * 2, none⟩ = some (.slice qa x.1.length qc) := (hb13.cell (p := ⟨qb, qo + j * 2, none⟩) hqbl).trans HR0.out
                        have HO1 := Sp.hid hown1
                        have HB13 := Sp.hid hb13
                        have HV3b := Sp.hid (HV3.out.frame (fun b hb' => hb13.block b (Nat.lt_of_lt_of_le hb' hs12)))
                        clear hown1 hgrow1 hb13
                        go_wp2_with (at_builtin; refine wpList_append_ints rfl _ _ rfl w12.heap.size _ _ _ rfl HO1.out (· < w11.heap.size) qa qc x.1 rfl HV3b.out ?e1 ?e2 ?e3)
                        case e1 => omega
                        case e2 => exact hs13
                        case e3 =>
                          intro v2 w14 hown2 hgrow2
                          have hb14 : Below w12.heap.size w12 w14 := HB13.out.grown hgrow2 hs13 (fun j hj => (HO1.out.lt j hj).1)
                          have hs14 := hb14.size
                          have hown3 : w14.ownsRow w12.heap.size 3 1 v2 (y.1 ++ x.1).length ((y.1 ++ x.1).map (Value.int .i64)) := by rw [List.length_append, List.map_append]; exact hown2
                          obtain ⟨wa, wc, rfl, hv4⟩ := own_intsP hown3
                          obtain ⟨q, hq⟩ : ∃ q, q = y.1 ++ x.1 := ⟨_, rfl⟩
                          have hql : q.length ≤ 100000 := by rw [hq, List.length_append]; omega
                          have HC := Sp.hid (fun W (hG : Below w14.heap.size w14 W) => And.intro (And.intro (((hb14.trans (hG.mono hs14)).cell (p := ⟨pb, po + mm * 2, none⟩) hpbl).trans HP0.out) (((hb14.trans (hG.mono hs14)).cell (p := ⟨pb, po + mm * 2 + 1, none⟩) hpbl).trans HP1.out)) (((hb14.trans (hG.mono hs14)).cell (p := ⟨qb, qo + j * 2 + 1, none⟩) hqbl).trans HR1.out))
                          have HIN := Sp.hid (fun W (hG : Below w14.heap.size w14 W) => ints16_any (· < w14.heap.size) (· < w14.heap.size) pa wa pc wc (y.1 ++ x.1) (y.1 ++ x.1) W ((HV2.out.frame fun b hb' => (hb14.trans (hG.mono hs14)).block b (by have : b < w6.heap.size := hb'; have := HB67.out.size; have := HB711.out.size; omega)).mono fun b hb' => by have : b < w6.heap.size := hb'; have := HB67.out.size; have := HB711.out.size; show b < w14.heap.size; omega) (hv4.frame fun b hb' => hG.block b hb') (fun k h => by have : k < w14.heap.size := h; have := hG.size; omega) (fun k h => by have : k < w14.heap.size := h; have := hG.size; omega) (by rw [← hq]; exact hql) (by rw [← hq]; exact hql))
                          simp only [decide_true] at HIN
                          rw [← hq] at HC HIN ⊢
                          have HB14 := Sp.hid (HB12.out.trans (hb14.mono hs12) : Below w11.heap.size w11 w14)
                          have hs1114 : w11.heap.size ≤ w14.heap.size := by omega
                          clear hown2 hown3 hgrow2 hb14 hv4 hq f0 r0
                          go_wp2
                          refine Sp.wp_region_read (by kernel_rfl) [some 198, some 199, some 200, some 201, some 202, some 203, some 204, some 205, some 206, some 207, some 208, some 209, some 210, some 211, some 212, some 213, some 214, some 215, some 216, some 217, some 218, some 219, some 220, some 221, some 222, some 223, some 224] [?r3v0, ?r3v1, ?r3v2, ?r3v3, ?r3v4, ?r3v5, ?r3v6, ?r3v7, ?r3v8, ?r3v9, ?r3v10, ?r3v11, ?r3v12, ?r3v13, ?r3v14, ?r3v15, ?r3v16, ?r3v17, ?r3v18, ?r3v19, ?r3v20, ?r3v21, ?r3v22, ?r3v23, ?r3v24, ?r3v25, ?r3v26] rfl (by kernel_rfl) (by kernel_rfl) (by kernel_rfl) ?r3fr ?r3hfr ?r3step ?r3fin
                          case r3hfr => intro u; simp only [Sp.fillFrom, Sp.idx_cons, Sp.idx_nil, Option.some.injEq, reduceCtorEq, reduceIte, Nat.reduceEqDiff, Nat.reduceAdd, Option.map_some, Option.map_none]; exact rfl
                          case r3step =>
                            refine ⟨?_, ?_, ?_, ?_, ?_, ?_, ?_, ?_, ?_, ?_, ?_, ?_, ?_, ?_, ?_, ?_, ?_, ?_, ?_, ?_, ?_, ?_, ?_, ?_, ?_, ?_, ?_, trivial⟩
                            all_goals
                              intro u w1 hG hD; simp only [Sp.DepsHold, List.map_cons, List.map_nil, Sp.isV, Sp.any_text, Sp.any_gc, Bool.false_eq_true, false_implies, Sp.factAt, Region.binds, List.getElem?_cons_zero, List.getElem?_cons_succ, List.getElem?_nil, Option.getD_some, Option.getD_none, and_true, true_and, true_implies, implies_true] at hD; dsimp only
                              have HG1 := Sp.hid hG; obtain ⟨⟨c0, c1⟩, d0⟩ := HC.out w1 hG
                              clear hG
                              repeat (obtain ⟨hE, hD⟩ := hD; (try rw [hE]); clear hE)
                              try rw [hD]
                              try clear hD
                              go_wp2_with (go_at_call 16; refine (HIN.out _ HG1.out).mono ?_; rintro e w2 ⟨rfl, hb2⟩; have HB2 := Sp.hid hb2; clear hb2)
                              (with_reducible apply Sp.rd_close); (first | exact HB2.out | exact Below.refl _ _); exact rfl; refine Sp.isV_at ?_; exact rfl
                          case r3fin => 
                            intro w' hG; simp only [List.getElem?_cons_zero, List.getElem?_cons_succ, Option.getD_some]
                            have HG2 := Sp.hid (HB14.out.trans (hG.mono hs1114))
                            clear hG
                            go_wp2
                            go_roundw
                            case rel => exact ⟨j + 1, by omega, by go_num, by have h := HMM.out; subst h; go_num, HG2.out⟩
                            case measure => simp [intOf]; omega
                    · obtain rfl : j = C.length := by omega
                      have HMM := Sp.hid hmm
                      have HG2 := Sp.hid (HB811.out.trans (HB12.out.mono HB811.out.size))
                      clear hmm
                      go_wp2
                      go_roundw
                      case rel => exact ⟨k + 1, by omega, by go_num, by rw [HPC.out.1, HMM.out], HG2.out⟩
                      case measure => simp [intOf]; omega
            · obtain rfl : k = NB.length := by omega
              have hfin : ((NB.take NB.length).flatMap (leadM (steps.drop pk))).length = A.length := by rw [List.take_length, HAN.out]
              have hfi : (((((NB.take NB.length).flatMap (leadM (steps.drop pk))).length : Nat) : Int) == ((A.length : Nat) : Int)) = true := by rw [hfin]; simp
              obtain ⟨fl, hfl⟩ : ∃ fl, fl = ((NB.take NB.length).flatMap (leadM (steps.drop pk))).length := ⟨_, rfl⟩
              rw [← hfl] at hfi ⊢
              clear hfl hfin
              have HAW := Sp.hid (awake16_any w9 (HSP.out w9 HB9.out))
              have HBA := Sp.hid HB9.out
              go_wp2_with fail
              refine HAW.out.mono ?_
              rintro e wz ⟨rfl, hbz⟩
              have HBZ := Sp.hid (HBA.out.trans (hbz.mono HBA.out.size))
              clear hbz
              go_wp2
              go_ret
              exact ⟨rfl, HBZ.out⟩

end Go.Proofs.YtoknglpfchjbjaaDoor
