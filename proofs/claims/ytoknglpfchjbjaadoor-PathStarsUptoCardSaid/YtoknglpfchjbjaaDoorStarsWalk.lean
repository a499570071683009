/- The walk of PathStars: at every input the law returns true. Conditions: the table of spans as laid; fewer than 10^6 steps. -/
import Derived.Test.YtoknglpfchjbjaaDoorStarsX
namespace Go.Proofs.YtoknglpfchjbjaaDoor
open Go.RowKit Go.Sp Go.Maps

theorem tree_names {m : Nat} {T : TT} (hck : checkM (m + 1) T = 0) : rises T.attrs = true ∧ (∀ x ∈ T.attrs, isName x.1 = true) ∧ ∀ t ∈ T.kids, 0 < m → t.label.toList.isEmpty = false → isName t.label = true := by
  have h0 : ∀ p, p < 6 → ∀ T' ∈ nodesM (m + 1) T, faultB p T' = false := by
    unfold checkM at hck
    split at hck
    · exact firstFault_zero hck
    · cases hck
  have hT : T ∈ nodesM (m + 1) T := List.mem_cons_self ..
  refine ⟨?_, fun x hx => ?_, fun t ht hm hl => ?_⟩
  · have := h0 4 (by omega) T hT
    simpa [faultB] using this
  · have := h0 1 (by omega) T hT
    simp only [faultB, fault2B, Bool.or_eq_false_iff, List.any_eq_false] at this
    have := this.2 x hx
    simpa using this
  · have ht' : t ∈ nodesM (m + 1) T := by
      show t ∈ T :: T.kids.flatMap (nodesM m)
      refine List.mem_cons_of_mem _ (List.mem_flatMap.2 ⟨t, ht, ?_⟩)
      cases m with
      | zero => omega
      | succ m => exact List.mem_cons_self ..
    have := h0 1 (by omega) t ht'
    simp only [faultB, fault2B, Bool.or_eq_false_iff] at this
    have h2 := this.1
    rw [hl] at h2
    simpa using h2

set_option maxRecDepth 100000 in
set_option maxHeartbeats 16000000 in
theorem stars_walk (a : Option Addr) (cap : Nat) (xs : List Stp) (w : World) (hxs : Sl stpS (· < w.heap.size) w a xs) (hlen : xs.length ≤ 1048576) (hsp : SpansAt w) :
    Calls Tryd.prog 5 #[.slice a xs.length cap] w (Is16 true w) := by
  have HBUILD := Sp.hid (build_any (· < w.heap.size) a cap xs w hxs (fun _ h => h) hlen hsp)
  have HX := Sp.hid hxs
  have HSP := Sp.hid hsp
  clear hxs hsp
  go_enter Tryd.func5, Tryd.ntmps5
  go_wp2_with fail
  refine HBUILD.out.mono ?_
  clear HBUILD
  rintro e w1 ⟨hb1, hpost⟩
  have HB1 := Sp.hid hb1
  have hs1 := hb1.size
  have hfw : ∀ o : Obj, Calls Tryd.prog 11 #[.slice a xs.length cap] (w1.alloc o) (FewPost xs (w1.alloc o)) := fun o =>
    few_any (· < w.heap.size) a cap xs (w1.alloc o) (HX.out.frame fun b hb => (hb1.alloc hs1 o).block b hb) (by omega)
  have HFW := Sp.hid hfw
  have hbA : ∀ o : Obj, Below w.heap.size w (w1.alloc o) := fun o => hb1.alloc hs1 o
  have HBA := Sp.hid hbA
  clear hb1 hfw hbA
  rcases hpost with ⟨c, hc, rfl⟩ | ⟨vs, T, rfl, hnode, hck⟩
  · have hc1 : (c != 0) = true := by simpa using hc
    go_wp2_with fail
    refine (HFW.out _).mono ?_
    rintro e w2 ⟨b, rfl, _, hw2⟩
    have HW2 := Sp.hid hw2
    clear hw2
    have hsp2 : SpansAt w2 := by rw [← HW2.out]; exact HSP.out.below (HBA.out _) (Nat.le_refl _)
    have HB2 := Sp.hid (show Below w.heap.size w w2 by rw [← HW2.out]; exact HBA.out _)
    have HAW := Sp.hid (awake16_any w2 hsp2)
    have hs2 := HB2.out.size
    clear hsp2
    cases b
    all_goals
      go_wp2_with fail
      refine HAW.out.mono ?_
      rintro e w3 ⟨rfl, hb3⟩
      have HB3 := Sp.hid (HB2.out.trans (hb3.mono hs2))
      clear hb3
      go_wp2
      go_ret
      exact ⟨rfl, HB3.out⟩
  have HND := Sp.hid hnode
  obtain ⟨aa, ca, ka, ck, rfl, hrep⟩ := hnode
  obtain ⟨⟨htl, htt, hal, hkl⟩, aa', ca', ka', ck', hvs, hat, hkd⟩ := tree_open hrep
  simp only [List.cons.injEq, Value.slice.injEq, true_and, and_true] at hvs
  obtain ⟨⟨rfl, rfl⟩, rfl, rfl⟩ := hvs
  obtain ⟨hrise, hnames, hkids⟩ := tree_names hck
  have hkl' : T.kids.length ≤ 9223372036854775807 := hkl
  have hal' : T.attrs.length ≤ 9223372036854775807 := hal
  obtain ⟨w2, hw2⟩ : ∃ w2, w2 = w1.alloc (.cells #[.string T.label, .string T.text, .slice aa T.attrs.length ca, .slice ka T.kids.length ck] 27) := ⟨_, rfl⟩
  have hb2 : Below w1.heap.size w1 w2 := by rw [hw2]; exact (Below.refl _ _).alloc (Nat.le_refl _) _
  have hs2 : w2.heap.size ≤ w1.heap.size + 1 ∧ w1.heap.size + 1 ≤ w2.heap.size := by rw [hw2]; simp
  obtain ⟨hs2a, hs2b⟩ := hs2
  have hr2 : w2.heap[w1.heap.size]? = some (.cells #[.string T.label, .string T.text, .slice aa T.attrs.length ca, .slice ka T.kids.length ck] 27 (0, 0)) := by rw [hw2]; exact World.alloc_heap_new _ _
  have HFW2 := Sp.hid (show Calls Tryd.prog 11 #[.slice a xs.length cap] w2 (FewPost xs w2) by rw [hw2]; exact HFW.out _)
  have HB2 := Sp.hid (HB1.out.trans (hb2.mono hs1) : Below w.heap.size w w2)
  have HR2 := Sp.hid hr2
  have HREP := Sp.hid hrep
  have HCK := Sp.hid hck
  have HRISE := Sp.hid hrise
  have HNAMES := Sp.hid hnames
  have HKIDS := Sp.hid hkids
  have HAT := Sp.hid hat
  have HKD := Sp.hid hkd
  have HW2 := Sp.hid hw2
  clear hb2 hr2 hw2 hrep hck hrise hnames hkids hat hkd HFW HBA
  go_wp2_with fail
  rw [← HW2.out]
  refine HFW2.out.mono ?_
  rintro e w3 ⟨b, rfl, hfew, rfl⟩
  have hsp2 : SpansAt w2 := HSP.out.below HB2.out (Nat.le_refl _)
  cases b
  · have HAW := Sp.hid (awake16_any w2 hsp2)
    clear hsp2 hfew
    go_wp2_with fail
    refine HAW.out.mono ?_
    rintro e w3 ⟨rfl, hb3⟩
    have HB3 := Sp.hid (HB2.out.trans (hb3.mono (by omega)) : Below w.heap.size w w3)
    clear hb3
    go_wp2
    go_ret
    exact ⟨rfl, HB3.out⟩
  have hxl : xs.length ≤ 60 := (hfew rfl).1
  have hm : xs.length + 1 ≤ 2000000 := by omega
  obtain ⟨w3, hw3⟩ : ∃ w3, w3 = w2.alloc (.cells #[.bool false, .string starB, .slice none 0 0] 58) := ⟨_, rfl⟩
  have hb3 : Below w2.heap.size w2 w3 := by rw [hw3]; exact (Below.refl _ _).alloc (Nat.le_refl _) _
  have hs3 : w3.heap.size ≤ w2.heap.size + 1 ∧ w2.heap.size + 1 ≤ w3.heap.size := by rw [hw3]; simp
  obtain ⟨hs3a, hs3b⟩ := hs3
  have hg3 : w3.heap[w2.heap.size]? = some (.cells #[.bool false, .string starB, .slice none 0 0] 58 (0, 0)) := by rw [hw3]; exact World.alloc_heap_new _ _
  have NODE : ∀ W, Below w2.heap.size w2 W → NodeAt w1.heap.size (xs.length + 1) W #[.string T.label, .string T.text, .slice aa T.attrs.length ca, .slice ka T.kids.length ck] T := fun W hb =>
    ⟨aa, ca, ka, ck, rfl, (treeS _).frame HREP.out fun b hb' => (hb.block b (by omega)).trans ((by have := HW2.out; rw [this]; exact Below.heap_alloc _ _ _ hb'))⟩
  have SPAN : ∀ W, Below w2.heap.size w2 W → SpansAt W := fun W hb => hsp2.below hb (Nat.le_refl _)
  have HNODE := Sp.hid NODE
  have HSPAN := Sp.hid SPAN
  have HS1 := Sp.hid (sel_one hm (NODE w3 hb3) (by omega) HCK.out hg3 (by decide) (.inl rfl) (SPAN w3 hb3))
  have HW3 := Sp.hid hw3
  have HB3 := Sp.hid hb3
  have d0 : w2.cell? ⟨w1.heap.size, 0, none⟩ = _ := cell_at HR2.out 0
  have d1 : w2.cell? ⟨w1.heap.size, 1, none⟩ = _ := cell_at HR2.out 1
  have d2 : w2.cell? ⟨w1.heap.size, 2, none⟩ = _ := cell_at HR2.out 2
  have d3 : w2.cell? ⟨w1.heap.size, 3, none⟩ = _ := cell_at HR2.out 3
  have hl1 : w1.heap.size < w2.heap.size := by omega
  clear hw3 hb3 hg3 NODE SPAN hsp2 hfew HFW2
  go_wp2_with fail
  rw [← HW3.out]
  refine HS1.out.mono ?_
  rintro e w4 ⟨hb4, sa, sc, rfl, hall⟩
  obtain ⟨AL, hAL⟩ : ∃ AL, AL = leadM [oneS false starB] ([], T) := ⟨_, rfl⟩
  rw [← hAL] at hall ⊢
  have hs4 := hb4.size
  obtain ⟨w5, hw5⟩ : ∃ w5, w5 = w4.alloc (.cells #[.bool true, .string starB, .slice none 0 0] 58) := ⟨_, rfl⟩
  have hb5 : Below w4.heap.size w4 w5 := by rw [hw5]; exact (Below.refl _ _).alloc (Nat.le_refl _) _
  have hs5 : w5.heap.size ≤ w4.heap.size + 1 ∧ w4.heap.size + 1 ≤ w5.heap.size := by rw [hw5]; simp
  obtain ⟨hs5a, hs5b⟩ := hs5
  have hg5 : w5.heap[w4.heap.size]? = some (.cells #[.bool true, .string starB, .slice none 0 0] 58 (0, 0)) := by rw [hw5]; exact World.alloc_heap_new _ _
  have hb25 : Below w2.heap.size w2 w5 := (HB3.out.trans (hb4.mono (by omega))).trans (hb5.mono (by omega))
  have HS2 := Sp.hid (sel_one hm (HNODE.out w5 hb25) (by omega) HCK.out hg5 (by decide) (.inl rfl) (HSPAN.out w5 hb25))
  have HW5 := Sp.hid hw5
  have HB5 := Sp.hid hb5
  have HB25 := Sp.hid hb25
  have HALL := Sp.hid hall
  have HAL := Sp.hid (show AL = hitsTo (oneS false starB) T T.kids.length by rw [hAL]; exact lead_kids1 _ _)
  have hr4 : w4.heap[w1.heap.size]? = _ := ((HB3.out.trans (hb4.mono (by omega))).block _ (by omega)).trans HR2.out
  clear d0 d1 d2 d3
  have d0 : w4.cell? ⟨w1.heap.size, 0, none⟩ = _ := cell_at hr4 0
  have d1 : w4.cell? ⟨w1.heap.size, 1, none⟩ = _ := cell_at hr4 1
  have d2 : w4.cell? ⟨w1.heap.size, 2, none⟩ = _ := cell_at hr4 2
  have d3 : w4.cell? ⟨w1.heap.size, 3, none⟩ = _ := cell_at hr4 3
  clear hw5 hb5 hb25 hg5 hall hAL hr4 HS1 HW3 hb4
  have hl4 : w1.heap.size < w4.heap.size := by omega
  go_wp2_with fail
  rw [← HW5.out]
  refine HS2.out.mono ?_
  rintro e w6 ⟨hb6, ta, tc, rfl, hatt⟩
  have hlen2 : (leadM [oneS true starB] ([], T)).length = T.attrs.length := by rw [lead_attrsAll, List.length_map]
  rw [hlen2]
  rw [lead_attrsAll] at hatt
  have hs6 := hb6.size
  have hb26 : Below w2.heap.size w2 w6 := HB25.out.trans (hb6.mono (by omega))
  have hr6 : w6.heap[w1.heap.size]? = _ := (hb26.block _ (by omega)).trans HR2.out
  clear d0 d1 d2 d3
  have d0 : w6.cell? ⟨w1.heap.size, 0, none⟩ = _ := cell_at hr6 0
  have d1 : w6.cell? ⟨w1.heap.size, 1, none⟩ = _ := cell_at hr6 1
  have d2 : w6.cell? ⟨w1.heap.size, 2, none⟩ = _ := cell_at hr6 2
  have d3 : w6.cell? ⟨w1.heap.size, 3, none⟩ = _ := cell_at hr6 3
  have hl6 : w1.heap.size < w6.heap.size := by omega
  have hALL6 : Sl hitS (fun k => k < w6.heap.size) w6 sa AL := (HALL.out.frame fun b hb => (HB5.out.trans (hb6.mono (by omega))).block b hb).mono fun b hb => by have : b < w4.heap.size := hb; omega
  have HALL6 := Sp.hid hALL6
  have HATT := Sp.hid hatt
  have HB26 := Sp.hid hb26
  have HB6 := Sp.hid (HB2.out.trans (hb26.mono (by omega)) : Below w.heap.size w w6)
  have HR6 := Sp.hid hr6
  clear hlen2 hatt hb6 hb26 hr6 hALL6 HS2 HW5 HALL HB5 HB25
  go_wp2
  go_loopw [9, 10] (fun n i wr => ∃ k : Nat, k ≤ T.kids.length ∧ i = .int .i64 k ∧ n = .int .i64 ((hitsTo (oneS false starB) T k).length : Nat) ∧ Below w6.heap.size w6 wr) (fun _ i _ => T.kids.length - (intOf i).toNat)
  case atStart => exact ⟨0, Nat.zero_le _, rfl, rfl, Below.refl _ _⟩
  case round =>
    obtain ⟨k, hk, rfl, rfl, hbr⟩ := hrel
    obtain ⟨NN, hNN⟩ : ∃ NN, NN = (hitsTo (oneS false starB) T k).length := ⟨_, rfl⟩
    rw [← hNN]
    have HNN := Sp.hid hNN
    clear hNN
    have hsr := hbr.size
    have hb1r : Below w1.heap.size w1 wr := by
      have h12 : Below w1.heap.size w1 w2 := by rw [HW2.out]; exact (Below.refl _ _).alloc (Nat.le_refl _) _
      exact h12.trans ((HB26.out.trans (hbr.mono (by omega))).mono (by omega))
    have hb2r : Below w2.heap.size w2 wr := HB26.out.trans (hbr.mono (by omega))
    have hrr : wr.heap[w1.heap.size]? = _ := (hb2r.block _ (by omega)).trans HR2.out
    have HC0 := Sp.hid (cell_at hrr 0)
    have HC1 := Sp.hid (cell_at hrr 1)
    have HC2 := Sp.hid (cell_at hrr 2)
    have HC3 := Sp.hid (cell_at hrr 3)
    have HBR := Sp.hid hbr
    have HB1R := Sp.hid hb1r
    have HB2R := Sp.hid hb2r
    have hlr : w1.heap.size < wr.heap.size := by omega
    clear d0 d1 d2 d3 hbr hb1r hb2r hrr
    have d0 : wr.cell? ⟨w1.heap.size, 0, none⟩ = _ := HC0.out
    have d1 : wr.cell? ⟨w1.heap.size, 1, none⟩ = _ := HC1.out
    have d2 : wr.cell? ⟨w1.heap.size, 2, none⟩ = _ := HC2.out
    have d3 : wr.cell? ⟨w1.heap.size, 3, none⟩ = _ := HC3.out
    by_cases hlt : k < T.kids.length
    · obtain ⟨kb, ko, kaa, kca, kka, kck, rfl, fkb, hkrep, k0', _, _, _⟩ := tree_cells HKD.out k hlt
      have hkb1 : kb < w1.heap.size := fkb
      have hxpos : 0 < xs.length := by
        cases hx : xs.length with
        | zero => rw [hx] at hkrep; exact hkrep.elim
        | succ _ => omega
      have hlsz : T.kids[k].label.size ≤ maxLen := by
        cases hx : xs.length with
        | zero => omega
        | succ n => rw [hx] at hkrep; exact (tree_open hkrep).1.1
      have hlabn := HKIDS.out T.kids[k] (List.getElem_mem hlt) hxpos
      obtain ⟨lab, hlab⟩ : ∃ lab, lab = T.kids[k].label := ⟨_, rfl⟩
      have hk0 : wr.cell? ⟨kb, ko + k * 4, none⟩ = some (.string lab) := by rw [hlab]; exact (HB1R.out.cell (p := ⟨kb, ko + k * 4, none⟩) hkb1).trans k0'
      have HSTEP := Sp.hid (hitsTo_succ (oneS false starB) T k hlt)
      have HGS := Sp.hid (good_star T.kids[k])
      have HGO := Sp.hid (good_own T.kids[k])
      have HOWN := Sp.hid (fun hg : goodKid (oneS false T.kids[k].label) T.kids[k] = true => hitsTo_at (oneS false T.kids[k].label) T k hlt hg)
      have HSTA := Sp.hid (fun hg : goodKid (oneS false starB) T.kids[k] = true => hitsTo_at (oneS false starB) T k hlt hg)
      rw [← hlab] at hlsz hlabn HGS HGO HOWN
      have HK0 := Sp.hid hk0
      have hkbr : kb < wr.heap.size := by omega
      have HLABN := Sp.hid hlabn
      clear k0' hkrep hlab hlabn
      cases hle : lab.toList.isEmpty
      rotate_left
      · have HS1 := Sp.hid (show hitsTo (oneS false starB) T (k + 1) = hitsTo (oneS false starB) T k by rw [HSTEP.out, HGS.out, hle]; simp)
        clear HOWN HSTA HSTEP
        go_wp2
        go_roundw
        case rel => exact ⟨k + 1, by omega, by go_num, by rw [HS1.out, ← HNN.out], HBR.out⟩
        case measure => simp [intOf]; omega
      · have hname : isName lab = true := HLABN.out hle
        have HNAME := Sp.hid hname
        have hgood : goodKid (oneS false starB) T.kids[k] = true := by rw [HGS.out, hle]; rfl
        have hgoodo : goodKid (oneS false lab) T.kids[k] = true := by rw [HGO.out, hle]; rfl
        have HGOOD := Sp.hid hgood
        have HGOODO := Sp.hid hgoodo
        obtain ⟨OL, hOL⟩ : ∃ OL, OL = leadM [oneS false lab] ([], T) := ⟨_, rfl⟩
        have HOL := Sp.hid hOL
        have HLSZ := Sp.hid hlsz
        clear hname hgood hgoodo hOL hlsz
        go_wp2
        refine Sp.wp_region_facts (by kernel_rfl) [some 76, some 77, some 78, some 79, some 80, some 81, some 82, some 83, some 84, some 85, some 86, some 75, some 87, some 88, some 11, some 12]
          [fun v _ => v = .agg #[.string T.label, .string T.text, .slice aa T.attrs.length ca, .slice (some ⟨kb, ko, none⟩) T.kids.length ck], fun v _ => v = .pointer (some ⟨w1.heap.size, 3, none⟩), fun v _ => v = .slice (some ⟨kb, ko, none⟩) T.kids.length ck, fun v _ => v = .int .i64 (k : Nat),
            fun v _ => v = .pointer (some ⟨kb, ko + k * 4, none⟩), fun v _ => v = .pointer (some ⟨kb, ko + k * 4, none⟩), fun v _ => v = .string lab, fun v _ => v = .agg #[.bool false, .string lab, .slice none 0 0],
            fun v x => ∃ g, v = .slice (some ⟨g, 0, none⟩) 1 1 ∧ x.heap[g]? = some (.cells #[.bool false, .string lab, .slice none 0 0] 58 (0, 0)),
            fun v x => ∃ g, v = .agg #[.slice (some ⟨g, 0, none⟩) 1 1] ∧ x.heap[g]? = some (.cells #[.bool false, .string lab, .slice none 0 0] 58 (0, 0)),
            fun v x => ∃ a c, v = .tuple #[.slice a OL.length c, .int .i64 0] ∧ Sl hitS (fun k => k < x.heap.size) x a OL,
            fun v x => ∃ a c, v = .tuple #[.slice a OL.length c, .int .i64 0] ∧ Sl hitS (fun k => k < x.heap.size) x a OL,
            fun v x => ∃ a c, v = .slice a OL.length c ∧ Sl hitS (fun k => k < x.heap.size) x a OL, fun v _ => v = .int .i64 0,
            fun v x => ∃ a c, v = .slice a OL.length c ∧ Sl hitS (fun k => k < x.heap.size) x a OL, fun v _ => v = .int .i64 0]
          (fun x => Below wr.heap.size wr x) (fun _ x y => Below x.heap.size x y) rfl (by kernel_rfl) (by kernel_rfl) (by kernel_rfl) ?fr ?hfr ?G0 ?GR ?FR ?step ?fin
        case hfr => intro u; simp only [Sp.fillFrom, Sp.idx_cons, Sp.idx_nil, Option.some.injEq, reduceCtorEq, reduceIte, Nat.reduceEqDiff, Nat.reduceAdd, Option.map_some, Option.map_none]; exact rfl
        case G0 => exact (Below.refl _ _).drew
        case GR => exact fun _ _ _ hG hR => hG.trans (hR.mono hG.size)
        case FR =>
          have sh : ∀ (x y : World), Below x.heap.size x y → ∀ (a : Option Addr) (l : List (List Int × ByteArray)), Sl hitS (fun k => k < x.heap.size) x a l → Sl hitS (fun k => k < y.heap.size) y a l := fun x y hb a l h => (h.frame fun b hb' => hb.block b hb').mono fun b hb' => by have : b < x.heap.size := hb'; have := hb.size; omega
          iterate 8 (refine ⟨fun _ _ _ _ _ _ _ h => h, ?_⟩)
          refine ⟨?_, ?_, ?_, ?_, ?_, fun _ _ _ _ _ _ _ h => h, ?_, fun _ _ _ _ _ _ _ h => h, trivial⟩
          · rintro i _ v x y _ hR ⟨g, e, h⟩; exact ⟨g, e, (hR.block g (Array.getElem?_eq_some_iff.1 h).1).trans h⟩
          · rintro i _ v x y _ hR ⟨g, e, h⟩; exact ⟨g, e, (hR.block g (Array.getElem?_eq_some_iff.1 h).1).trans h⟩
          · rintro i _ v x y _ hR ⟨a, c, e, h⟩; exact ⟨a, c, e, sh x y hR a OL h⟩
          · rintro i _ v x y _ hR ⟨a, c, e, h⟩; exact ⟨a, c, e, sh x y hR a OL h⟩
          · rintro i _ v x y _ hR ⟨a, c, e, h⟩; exact ⟨a, c, e, sh x y hR a OL h⟩
          · rintro i _ v x y _ hR ⟨a, c, e, h⟩; exact ⟨a, c, e, sh x y hR a OL h⟩
        case step =>
          refine ⟨?_, ?_, ?_, ?_, ?_, ?_, ?_, ?_, ?_, ?_, ?_, ?_, ?_, ?_, ?_, ?_, trivial⟩
          · intro u x hG hD
            simp only [Sp.DepsHold] at hD
            dsimp only
            have hGs := hG.size
            have c0 : x.cell? ⟨w1.heap.size, 0, none⟩ = _ := (hG.cell (p := ⟨w1.heap.size, 0, none⟩) hlr).trans HC0.out
            have c1 : x.cell? ⟨w1.heap.size, 1, none⟩ = _ := (hG.cell (p := ⟨w1.heap.size, 1, none⟩) hlr).trans HC1.out
            have c2 : x.cell? ⟨w1.heap.size, 2, none⟩ = _ := (hG.cell (p := ⟨w1.heap.size, 2, none⟩) hlr).trans HC2.out
            have c3 : x.cell? ⟨w1.heap.size, 3, none⟩ = _ := (hG.cell (p := ⟨w1.heap.size, 3, none⟩) hlr).trans HC3.out
            have k0 : x.cell? ⟨kb, ko + k * 4, none⟩ = _ := (hG.cell (p := ⟨kb, ko + k * 4, none⟩) hkbr).trans HK0.out
            clear hG
            repeat (obtain ⟨hE, hD⟩ := hD; (try rw [hE]); clear hE)
            try rw [hD]
            try clear hD
            go_wp2
            (with_reducible apply Sp.rd_close)
            · exact Below.refl _ _
            · exact rfl
            · exact rfl
          · intro u x hG hD
            simp only [Sp.DepsHold] at hD
            dsimp only
            have hGs := hG.size
            have c0 : x.cell? ⟨w1.heap.size, 0, none⟩ = _ := (hG.cell (p := ⟨w1.heap.size, 0, none⟩) hlr).trans HC0.out
            have c1 : x.cell? ⟨w1.heap.size, 1, none⟩ = _ := (hG.cell (p := ⟨w1.heap.size, 1, none⟩) hlr).trans HC1.out
            have c2 : x.cell? ⟨w1.heap.size, 2, none⟩ = _ := (hG.cell (p := ⟨w1.heap.size, 2, none⟩) hlr).trans HC2.out
            have c3 : x.cell? ⟨w1.heap.size, 3, none⟩ = _ := (hG.cell (p := ⟨w1.heap.size, 3, none⟩) hlr).trans HC3.out
            have k0 : x.cell? ⟨kb, ko + k * 4, none⟩ = _ := (hG.cell (p := ⟨kb, ko + k * 4, none⟩) hkbr).trans HK0.out
            clear hG
            repeat (obtain ⟨hE, hD⟩ := hD; (try rw [hE]); clear hE)
            try rw [hD]
            try clear hD
            go_wp2
            (with_reducible apply Sp.rd_close)
            · exact Below.refl _ _
            · exact rfl
            · exact rfl
          · intro u x hG hD
            simp only [Sp.DepsHold, Sp.factAt, Region.binds, List.getElem?_cons_zero, List.getElem?_cons_succ, Option.getD_some, and_true, true_implies] at hD
            dsimp only
            have hGs := hG.size
            have c0 : x.cell? ⟨w1.heap.size, 0, none⟩ = _ := (hG.cell (p := ⟨w1.heap.size, 0, none⟩) hlr).trans HC0.out
            have c1 : x.cell? ⟨w1.heap.size, 1, none⟩ = _ := (hG.cell (p := ⟨w1.heap.size, 1, none⟩) hlr).trans HC1.out
            have c2 : x.cell? ⟨w1.heap.size, 2, none⟩ = _ := (hG.cell (p := ⟨w1.heap.size, 2, none⟩) hlr).trans HC2.out
            have c3 : x.cell? ⟨w1.heap.size, 3, none⟩ = _ := (hG.cell (p := ⟨w1.heap.size, 3, none⟩) hlr).trans HC3.out
            have k0 : x.cell? ⟨kb, ko + k * 4, none⟩ = _ := (hG.cell (p := ⟨kb, ko + k * 4, none⟩) hkbr).trans HK0.out
            clear hG
            repeat (obtain ⟨hE, hD⟩ := hD; (try rw [hE]); clear hE)
            try rw [hD]
            try clear hD
            go_wp2
            (with_reducible apply Sp.rd_close)
            · exact Below.refl _ _
            · exact rfl
            · exact rfl
          · intro u x hG hD
            simp only [Sp.DepsHold] at hD
            dsimp only
            have hGs := hG.size
            have c0 : x.cell? ⟨w1.heap.size, 0, none⟩ = _ := (hG.cell (p := ⟨w1.heap.size, 0, none⟩) hlr).trans HC0.out
            have c1 : x.cell? ⟨w1.heap.size, 1, none⟩ = _ := (hG.cell (p := ⟨w1.heap.size, 1, none⟩) hlr).trans HC1.out
            have c2 : x.cell? ⟨w1.heap.size, 2, none⟩ = _ := (hG.cell (p := ⟨w1.heap.size, 2, none⟩) hlr).trans HC2.out
            have c3 : x.cell? ⟨w1.heap.size, 3, none⟩ = _ := (hG.cell (p := ⟨w1.heap.size, 3, none⟩) hlr).trans HC3.out
            have k0 : x.cell? ⟨kb, ko + k * 4, none⟩ = _ := (hG.cell (p := ⟨kb, ko + k * 4, none⟩) hkbr).trans HK0.out
            clear hG
            repeat (obtain ⟨hE, hD⟩ := hD; (try rw [hE]); clear hE)
            try rw [hD]
            try clear hD
            go_wp2
            (with_reducible apply Sp.rd_close)
            · exact Below.refl _ _
            · exact rfl
            · exact rfl
          · intro u x hG hD
            simp only [Sp.DepsHold, Sp.factAt, Region.binds, List.getElem?_cons_zero, List.getElem?_cons_succ, Option.getD_some, and_true, true_implies] at hD
            dsimp only
            have hGs := hG.size
            have c0 : x.cell? ⟨w1.heap.size, 0, none⟩ = _ := (hG.cell (p := ⟨w1.heap.size, 0, none⟩) hlr).trans HC0.out
            have c1 : x.cell? ⟨w1.heap.size, 1, none⟩ = _ := (hG.cell (p := ⟨w1.heap.size, 1, none⟩) hlr).trans HC1.out
            have c2 : x.cell? ⟨w1.heap.size, 2, none⟩ = _ := (hG.cell (p := ⟨w1.heap.size, 2, none⟩) hlr).trans HC2.out
            have c3 : x.cell? ⟨w1.heap.size, 3, none⟩ = _ := (hG.cell (p := ⟨w1.heap.size, 3, none⟩) hlr).trans HC3.out
            have k0 : x.cell? ⟨kb, ko + k * 4, none⟩ = _ := (hG.cell (p := ⟨kb, ko + k * 4, none⟩) hkbr).trans HK0.out
            clear hG
            repeat (obtain ⟨hE, hD⟩ := hD; (try rw [hE]); clear hE)
            try rw [hD]
            try clear hD
            go_wp2
            (with_reducible apply Sp.rd_close)
            · exact Below.refl _ _
            · exact rfl
            · exact rfl
          · intro u x hG hD
            simp only [Sp.DepsHold, Sp.factAt, Region.binds, List.getElem?_cons_zero, List.getElem?_cons_succ, Option.getD_some, and_true, true_implies] at hD
            dsimp only
            have hGs := hG.size
            have c0 : x.cell? ⟨w1.heap.size, 0, none⟩ = _ := (hG.cell (p := ⟨w1.heap.size, 0, none⟩) hlr).trans HC0.out
            have c1 : x.cell? ⟨w1.heap.size, 1, none⟩ = _ := (hG.cell (p := ⟨w1.heap.size, 1, none⟩) hlr).trans HC1.out
            have c2 : x.cell? ⟨w1.heap.size, 2, none⟩ = _ := (hG.cell (p := ⟨w1.heap.size, 2, none⟩) hlr).trans HC2.out
            have c3 : x.cell? ⟨w1.heap.size, 3, none⟩ = _ := (hG.cell (p := ⟨w1.heap.size, 3, none⟩) hlr).trans HC3.out
            have k0 : x.cell? ⟨kb, ko + k * 4, none⟩ = _ := (hG.cell (p := ⟨kb, ko + k * 4, none⟩) hkbr).trans HK0.out
            clear hG
            repeat (obtain ⟨hE, hD⟩ := hD; (try rw [hE]); clear hE)
            try rw [hD]
            try clear hD
            go_wp2
            (with_reducible apply Sp.rd_close)
            · exact Below.refl _ _
            · exact rfl
            · exact rfl
          · intro u x hG hD
            simp only [Sp.DepsHold, Sp.factAt, Region.binds, List.getElem?_cons_zero, List.getElem?_cons_succ, Option.getD_some, and_true, true_implies] at hD
            dsimp only
            have hGs := hG.size
            have c0 : x.cell? ⟨w1.heap.size, 0, none⟩ = _ := (hG.cell (p := ⟨w1.heap.size, 0, none⟩) hlr).trans HC0.out
            have c1 : x.cell? ⟨w1.heap.size, 1, none⟩ = _ := (hG.cell (p := ⟨w1.heap.size, 1, none⟩) hlr).trans HC1.out
            have c2 : x.cell? ⟨w1.heap.size, 2, none⟩ = _ := (hG.cell (p := ⟨w1.heap.size, 2, none⟩) hlr).trans HC2.out
            have c3 : x.cell? ⟨w1.heap.size, 3, none⟩ = _ := (hG.cell (p := ⟨w1.heap.size, 3, none⟩) hlr).trans HC3.out
            have k0 : x.cell? ⟨kb, ko + k * 4, none⟩ = _ := (hG.cell (p := ⟨kb, ko + k * 4, none⟩) hkbr).trans HK0.out
            clear hG
            repeat (obtain ⟨hE, hD⟩ := hD; (try rw [hE]); clear hE)
            try rw [hD]
            try clear hD
            go_wp2
            (with_reducible apply Sp.rd_close)
            · exact Below.refl _ _
            · exact rfl
            · exact rfl
          · intro u x hG hD
            simp only [Sp.DepsHold, Sp.factAt, Region.binds, List.getElem?_cons_zero, List.getElem?_cons_succ, Option.getD_some, and_true, true_implies] at hD
            dsimp only
            have hGs := hG.size
            have c0 : x.cell? ⟨w1.heap.size, 0, none⟩ = _ := (hG.cell (p := ⟨w1.heap.size, 0, none⟩) hlr).trans HC0.out
            have c1 : x.cell? ⟨w1.heap.size, 1, none⟩ = _ := (hG.cell (p := ⟨w1.heap.size, 1, none⟩) hlr).trans HC1.out
            have c2 : x.cell? ⟨w1.heap.size, 2, none⟩ = _ := (hG.cell (p := ⟨w1.heap.size, 2, none⟩) hlr).trans HC2.out
            have c3 : x.cell? ⟨w1.heap.size, 3, none⟩ = _ := (hG.cell (p := ⟨w1.heap.size, 3, none⟩) hlr).trans HC3.out
            have k0 : x.cell? ⟨kb, ko + k * 4, none⟩ = _ := (hG.cell (p := ⟨kb, ko + k * 4, none⟩) hkbr).trans HK0.out
            clear hG
            repeat (obtain ⟨hE, hD⟩ := hD; (try rw [hE]); clear hE)
            try rw [hD]
            try clear hD
            go_wp2
            (with_reducible apply Sp.rd_close)
            · exact Below.refl _ _
            · exact rfl
            · exact rfl
          · intro u x hG hD
            simp only [Sp.DepsHold, Sp.factAt, Region.binds, List.getElem?_cons_zero, List.getElem?_cons_succ, Option.getD_some, and_true, true_implies] at hD
            dsimp only
            rw [hD]
            clear hG hD
            go_wp2
            (with_reducible apply Sp.rd_close)
            · exact (Below.refl _ _).alloc (Nat.le_refl _) _
            · exact rfl
            · exact ⟨x.heap.size, rfl, World.alloc_heap_new _ _⟩
          · intro u x hG hD
            simp only [Sp.DepsHold, Sp.factAt, Region.binds, List.getElem?_cons_zero, List.getElem?_cons_succ, Option.getD_some, and_true, true_implies] at hD
            dsimp only
            obtain ⟨g, hE, hg⟩ := hD
            rw [hE]
            have HGG := Sp.hid hg
            clear hG hE hg
            go_wp2
            (with_reducible apply Sp.rd_close)
            · exact Below.refl _ _
            · exact rfl
            · exact ⟨g, rfl, HGG.out⟩
          · intro u x hG hD
            simp only [Sp.DepsHold, Sp.factAt, Region.binds, List.getElem?_cons_zero, List.getElem?_cons_succ, Option.getD_some, and_true, true_implies] at hD
            dsimp only
            obtain ⟨hE0, g, hE, hg⟩ := hD
            rw [hE0, hE]
            have hGs := hG.size
            have HSE := Sp.hid (sel_one (b := false) hm (HNODE.out x (HB2R.out.trans (hG.mono (by omega)))) (by omega) HCK.out hg HLSZ.out (.inr HNAME.out) (HSPAN.out x (HB2R.out.trans (hG.mono (by omega)))))
            clear hG hE0 hE hg
            go_wp2_with (go_at_call 14; refine HSE.out.mono ?_; rintro e x2 ⟨hb2, sa2, sc2, rfl, hs2⟩; rw [← HOL.out] at hs2 ⊢; have HB := Sp.hid hb2; have HS := Sp.hid hs2; clear hb2 hs2)
            (with_reducible apply Sp.rd_close)
            · exact HB.out
            · exact rfl
            · exact ⟨sa2, sc2, rfl, HS.out⟩
          · intro u x hG hD
            simp only [Sp.DepsHold, Sp.factAt, Region.binds, List.getElem?_cons_zero, List.getElem?_cons_succ, Option.getD_some, and_true, true_implies] at hD
            dsimp only
            obtain ⟨sa2, sc2, hE, hs⟩ := hD
            rw [hE]
            have HS := Sp.hid hs
            clear hG hE hs
            go_wp2
            (with_reducible apply Sp.rd_close)
            · exact Below.refl _ _
            · exact rfl
            · exact ⟨sa2, sc2, rfl, HS.out⟩
          · intro u x hG hD
            simp only [Sp.DepsHold, Sp.factAt, Region.binds, List.getElem?_cons_zero, List.getElem?_cons_succ, Option.getD_some, and_true, true_implies] at hD
            dsimp only
            obtain ⟨sa2, sc2, hE, hs⟩ := hD
            rw [hE]
            have HS := Sp.hid hs
            clear hG hE hs
            go_wp2
            (with_reducible apply Sp.rd_close)
            · exact Below.refl _ _
            · exact rfl
            · exact ⟨sa2, sc2, rfl, HS.out⟩
          · intro u x hG hD
            simp only [Sp.DepsHold, Sp.any_gc, Bool.false_eq_true, false_implies, Sp.factAt, Region.binds, List.getElem?_cons_zero, List.getElem?_cons_succ, Option.getD_some, and_true, true_implies] at hD
            dsimp only
            obtain ⟨sa2, sc2, hE, hs⟩ := hD
            rw [hE]
            clear hG hE hs
            go_wp2
            (with_reducible apply Sp.rd_close)
            · exact Below.refl _ _
            · exact rfl
            · exact rfl
          · intro u x hG hD
            simp only [Sp.DepsHold, Sp.any_text, Bool.false_eq_true, false_implies, Sp.factAt, Region.binds, List.getElem?_cons_zero, List.getElem?_cons_succ, Option.getD_some, and_true, true_implies] at hD
            dsimp only
            obtain ⟨⟨sa2, sc2, hE, hs⟩, _⟩ := hD
            rw [hE]
            have HS := Sp.hid hs
            clear hG hE hs
            go_wp2
            (with_reducible apply Sp.rd_close)
            · exact Below.refl _ _
            · exact rfl
            · exact ⟨sa2, sc2, rfl, HS.out⟩
          · intro u x hG hD
            simp only [Sp.DepsHold, Sp.factAt, Region.binds, List.getElem?_cons_zero, List.getElem?_cons_succ, Option.getD_some, and_true, true_implies] at hD
            dsimp only
            obtain ⟨hE, _⟩ := hD
            rw [hE]
            clear hG hE
            go_wp2
            (with_reducible apply Sp.rd_close)
            · exact Below.refl _ _
            · exact rfl
            · exact rfl
        case fin =>
          intro u x hG hF
          simp only [Sp.AllF, and_true] at hF
          obtain ⟨e0, e1, e2, e3, e4, e5, e6, e7, ⟨g8, e8, _⟩, ⟨g9, e9, _⟩, ⟨a10, c10, e10, _⟩, ⟨a11, c11, e11, _⟩, ⟨a12, c12, e12, _⟩, e13, ⟨sa2, sc2, e14, hown⟩, e15⟩ := hF
          rw [e0, e1, e2, e3, e4, e5, e6, e7, e8, e9, e10, e11, e12, e13, e14, e15]
          clear e0 e1 e2 e3 e4 e5 e6 e7 e8 e9 e10 e11 e12 e13 e14 e15 u
          have HOL2 := Sp.hid (show OL = hitsTo (oneS false lab) T T.kids.length by rw [HOL.out]; exact lead_kids1 _ _)
          have hol : ∀ h ∈ OL, h.1.length ≤ 1 := fun h hh => hits_len (oneS false lab) T T.kids.length (Nat.le_refl _) h (by rw [← HOL2.out]; exact hh)
          have hown6 : OL.length ≤ 9223372036854775807 := by
            have h1 : OL.length ≤ T.kids.length := by rw [HOL2.out]; unfold hitsTo; rw [List.length_map]; exact kids0_length _ _ _ _
            omega
          have HOWNS := Sp.hid hown
          have HOLL := Sp.hid hol
          have HBX := Sp.hid (HBR.out.trans (hG.mono (by omega)))
          have HBX2 := Sp.hid (HB2R.out.trans (hG.mono (by omega)))
          have hsx := hG.size
          clear hown hol hG d0 d1 d2 d3 hk0
          go_wp2
          go_loopw [13, 14] (fun is t W => ∃ j : Nat, j ≤ OL.length ∧ t = .int .i64 j ∧ is = .bool ((OL.take j).any fun h => decide (h.1 = [(k : Int)])) ∧ Below x.heap.size x W) (fun _ t _ => OL.length - (intOf t).toNat)
          case atStart => exact ⟨0, Nat.zero_le _, rfl, rfl, Below.refl _ _⟩
          case round =>
            obtain ⟨j, hj, rfl, rfl, hbW⟩ := hrel
            obtain ⟨bj, hbj⟩ : ∃ bj, bj = (OL.take j).any fun h => decide (h.1 = [(k : Int)]) := ⟨_, rfl⟩
            rw [← hbj]
            have HBJ := Sp.hid hbj
            have HBW := Sp.hid hbW
            have hsW := hbW.size
            clear hbj hbW
            by_cases hlj : j < OL.length
            · obtain ⟨ob, oo, va, vc, rfl, fob, hvi, q0, _⟩ := hit_cells HOWNS.out j hlj
              have hvl := HOLL.out OL[j] (List.getElem_mem hlj)
              have HNXT := Sp.hid (show (OL.take (j + 1)).any (fun h => decide (h.1 = [(k : Int)])) = (bj || decide (OL[j].1 = [(k : Int)])) by
                rw [List.take_succ_eq_append_getElem hlj, List.any_append, ← HBJ.out]; simp)
              obtain ⟨oi, hoi⟩ : ∃ oi, oi = OL[j].1 := ⟨_, rfl⟩
              rw [← hoi] at hvi q0 hvl HNXT
              have hob : ob < wr.heap.size := by have : ob < x.heap.size := fob; omega
              have o0 : wr.cell? ⟨ob, oo + j * 2, none⟩ = some (.slice va oi.length vc) := (HBW.out.cell (p := ⟨ob, oo + j * 2, none⟩) fob).trans q0
              cases bj
              · obtain ⟨wi, hwi⟩ : ∃ wi, wi = wr.alloc (.cells #[.int .i64 (k : Nat)] 3) := ⟨_, rfl⟩
                have hbi : Below wr.heap.size wr wi := by rw [hwi]; exact (Below.refl _ _).alloc (Nat.le_refl _) _
                have hni : wi.heap[wr.heap.size]? = some (.cells #[.int .i64 (k : Nat)] 3 (0, 0)) := by rw [hwi]; exact World.alloc_heap_new _ _
                have hsi : wr.heap.size + 1 ≤ wi.heap.size := by rw [hwi]; simp
                have hy : Sl (Shape.int .i64) (fun b => b < wi.heap.size) wi (some ⟨wr.heap.size, 0, none⟩) [(k : Int)] := fun i hi => by
                  obtain rfl : i = 0 := by simpa using hi
                  exact ⟨wr.heap.size, 0, [.int .i64 (k : Nat)], rfl, by omega, rfl, cellsAt_of hni fun j hj => by obtain rfl : j = 0 := (by simpa using hj); rfl⟩
                have hx11 : Sl (Shape.int .i64) (fun b => b < wi.heap.size) wi va oi := (hvi.frame fun b hb => ((HBW.out.trans (hbi.mono hsW)).block b hb)).mono fun b hb => by have : b < x.heap.size := hb; omega
                have HIN := Sp.hid (ints16_any (fun b => b < wi.heap.size) (fun b => b < wi.heap.size) va (some ⟨wr.heap.size, 0, none⟩) vc 1 oi [(k : Int)] wi hx11 hy (fun k h => h) (fun k h => h) (by omega) (by simp))
                have HWI := Sp.hid hwi
                have HBI := Sp.hid (HBW.out.trans (hbi.mono hsW))
                clear hwi hbi hni hy hx11 hvi q0 fob hoi hvl
                go_wp2_with fail
                rw [← HWI.out]
                refine HIN.out.mono ?_
                rintro e wj ⟨rfl, hbj⟩
                have HBJ2 := Sp.hid (HBI.out.trans (hbj.mono (by omega)))
                obtain ⟨dd, hdd⟩ : ∃ dd, dd = decide (oi = [(k : Int)]) := ⟨_, rfl⟩
                rw [← hdd]
                have HDD := Sp.hid hdd
                clear hbj HIN hdd
                go_wp2
                go_roundw
                case rel => exact ⟨j + 1, by omega, by go_num, by rw [HNXT.out, ← HDD.out]; rfl, HBJ2.out⟩
                case measure => simp [intOf]; omega
              · clear hvi q0 fob hoi hvl
                go_wp2
                go_roundw
                case rel => exact ⟨j + 1, by omega, by go_num, by rw [HNXT.out]; rfl, HBW.out⟩
                case measure => simp [intOf]; omega
            · obtain rfl : j = OL.length := by omega
              have hbt : bj = true := by
                rw [HBJ.out, List.take_length, HOL2.out]
                obtain ⟨r, hr⟩ := HOWN.out HGOODO.out
                rw [hr, List.any_append, List.any_cons]
                simp
              subst hbt
              obtain ⟨r, hr⟩ := HSTA.out HGOOD.out
              rw [← HAL.out] at hr
              obtain ⟨hn, hat⟩ := mid_at hr
              obtain ⟨NN', hNN'⟩ : ∃ NN', NN' = (hitsTo (oneS false starB) T k).length := ⟨_, rfl⟩
              obtain rfl : NN' = NN := by rw [hNN', HNN.out]
              have hn' : NN' < AL.length := by rw [hNN']; exact hn
              have hat' : AL[NN'] = ([(k : Int)], ⟨#[]⟩) := by
                have : AL[NN'] = AL[(hitsTo (oneS false starB) T k).length]'hn := by congr 1
                rw [this]; exact hat
              have hNb : AL.length ≤ 9223372036854775807 := by
                have h1 : AL.length ≤ T.kids.length := by rw [HAL.out]; unfold hitsTo; rw [List.length_map]; exact kids0_length _ _ _ _
                omega
              have HN1 := Sp.hid (show NN' + 1 = (hitsTo (oneS false starB) T (k + 1)).length by rw [HSTEP.out, if_pos HGOOD.out, List.length_append, ← hNN']; rfl)
              obtain ⟨ab, ao, va, vc, hsa, fab, hvi, q0, q1⟩ := hit_cells HALL6.out NN' hn'
              rw [hat'] at hvi q0 q1
              simp only [List.length_cons, List.length_nil, Nat.zero_add] at q0
              have hb6x : Below w6.heap.size w6 wr := HBX.out.trans (HBW.out.mono (by omega))
              have hab6 : ab < w6.heap.size := fab
              have hab : ab < wr.heap.size := by omega
              have o0 : wr.cell? ⟨ab, ao + NN' * 2, none⟩ = some (.slice va 1 vc) := (hb6x.cell (p := ⟨ab, ao + NN' * 2, none⟩) fab).trans q0
              have o1 : wr.cell? ⟨ab, ao + NN' * 2 + 1, none⟩ = some (.string ⟨#[]⟩) := (hb6x.cell (p := ⟨ab, ao + NN' * 2 + 1, none⟩) fab).trans q1
              obtain ⟨wi, hwi⟩ : ∃ wi, wi = wr.alloc (.cells #[.int .i64 (k : Nat)] 3) := ⟨_, rfl⟩
              have hbi : Below wr.heap.size wr wi := by rw [hwi]; exact (Below.refl _ _).alloc (Nat.le_refl _) _
              have hni : wi.heap[wr.heap.size]? = some (.cells #[.int .i64 (k : Nat)] 3 (0, 0)) := by rw [hwi]; exact World.alloc_heap_new _ _
              have hsi : wr.heap.size + 1 ≤ wi.heap.size := by rw [hwi]; simp
              have hy : Sl (Shape.int .i64) (fun b => b < wi.heap.size) wi (some ⟨wr.heap.size, 0, none⟩) [(k : Int)] := fun i hi => by
                obtain rfl : i = 0 := by simpa using hi
                exact ⟨wr.heap.size, 0, [.int .i64 (k : Nat)], rfl, by omega, rfl, cellsAt_of hni fun j hj => by obtain rfl : j = 0 := (by simpa using hj); rfl⟩
              have hx11 : Sl (Shape.int .i64) (fun b => b < wi.heap.size) wi va [(k : Int)] := (hvi.frame fun b hb => ((hb6x.trans (hbi.mono (by omega))).block b hb)).mono fun b hb => by have : b < w6.heap.size := hb; omega
              have hin : Calls Tryd.prog 16 #[.slice va 1 vc, .slice (some ⟨wr.heap.size, 0, none⟩) 1 1] wi fun e w' => e = .returned (.bool true) ∧ Below wi.heap.size wi w' :=
                (ints16_any (fun b => b < wi.heap.size) (fun b => b < wi.heap.size) va (some ⟨wr.heap.size, 0, none⟩) vc 1 [(k : Int)] [(k : Int)] wi hx11 hy (fun k h => h) (fun k h => h) (by simp) (by simp)).mono (by rintro e w' ⟨rfl, hb⟩; exact ⟨by simp, hb⟩)
              have HIN := Sp.hid hin
              have HWI := Sp.hid hwi
              have HBI := Sp.hid hbi
              have HB6X := Sp.hid hb6x
              have O1 := Sp.hid o1
              subst hsa
              clear hr hn hat hNN' hat' hvi q0 q1 fab hwi hbi hni hy hx11 hin hb6x
              go_wp2_with fail
              rw [← HWI.out]
              refine HIN.out.mono ?_
              rintro e wj ⟨rfl, hbj⟩
              have hsj := hbj.size
              have HBJ2 := Sp.hid (HB6X.out.trans ((HBI.out.trans (hbj.mono (by omega))).mono (by omega)))
              have p1 : wj.cell? ⟨ab, ao + NN' * 2 + 1, none⟩ = some (.string ⟨#[]⟩) := (((HBI.out.trans (hbj.mono (by omega))).cell (p := ⟨ab, ao + NN' * 2 + 1, none⟩) hab)).trans O1.out
              have habj : ab < wj.heap.size := by omega
              clear hbj HIN o0 o1
              go_wp2
              go_roundw
              case rel => exact ⟨k + 1, by omega, by go_num, by rw [← HN1.out]; go_num, HBJ2.out⟩
              case measure => simp [intOf]; omega
    · obtain rfl : k = T.kids.length := by omega
      have hNA : NN = AL.length := by rw [HNN.out, HAL.out]
      clear HNN
      subst hNA
      go_wp2
      go_loopw [15] (fun i W => ∃ q : Nat, q ≤ T.attrs.length ∧ i = .int .i64 q ∧ Below w6.heap.size w6 W) (fun i _ => T.attrs.length - (intOf i).toNat)
      case atStart => exact ⟨0, Nat.zero_le _, rfl, HBR.out⟩
      case round =>
        obtain ⟨q, hq, rfl, hbr2⟩ := hrel
        have hsr2 := hbr2.size
        have hb1r2 : Below w1.heap.size w1 wr := by
          have h12 : Below w1.heap.size w1 w2 := by rw [HW2.out]; exact (Below.refl _ _).alloc (Nat.le_refl _) _
          exact h12.trans ((HB26.out.trans (hbr2.mono (by omega))).mono (by omega))
        have hb2r2 : Below w2.heap.size w2 wr := HB26.out.trans (hbr2.mono (by omega))
        have hrr2 : wr.heap[w1.heap.size]? = _ := (hb2r2.block _ (by omega)).trans HR2.out
        have HE0 := Sp.hid (cell_at hrr2 0)
        have HE1 := Sp.hid (cell_at hrr2 1)
        have HE2 := Sp.hid (cell_at hrr2 2)
        have HE3 := Sp.hid (cell_at hrr2 3)
        have HBR2 := Sp.hid hbr2
        have HB1R2 := Sp.hid hb1r2
        have HB2R2 := Sp.hid hb2r2
        have hlr2 : w1.heap.size < wr.heap.size := by omega
        clear d0 d1 d2 d3 hbr2 hb1r2 hb2r2 hrr2
        have d0 : wr.cell? ⟨w1.heap.size, 0, none⟩ = _ := HE0.out
        have d1 : wr.cell? ⟨w1.heap.size, 1, none⟩ = _ := HE1.out
        have d2 : wr.cell? ⟨w1.heap.size, 2, none⟩ = _ := HE2.out
        have d3 : wr.cell? ⟨w1.heap.size, 3, none⟩ = _ := HE3.out
        by_cases hlq : q < T.attrs.length
        · obtain ⟨ab, ao, rfl, fab, hnsz, hvsz, a0, a1⟩ := attr_cells HAT.out q hlq
          have hab1 : ab < w1.heap.size := fab
          have habr : ab < wr.heap.size := by omega
          have hnm := HNAMES.out T.attrs[q] (List.getElem_mem hlq)
          have HVAL := Sp.hid (fun (x : World) (g : Nat) (hb : Below w2.heap.size w2 x) (hg : x.heap[g]? = some (.cells #[.bool true, .string T.attrs[q].1, .slice none 0 0] 58 (0, 0))) => val_one (g := g) q hlq hm (HNODE.out x hb) (by have := hb.size; omega) HCK.out HRISE.out hg hnsz hnm (HSPAN.out x hb))
          obtain ⟨hb_, ho_, va, vc, rfl, fhb, hvi, q0, q1⟩ := hit_cells HATT.out q (by rw [List.length_map]; exact hlq)
          simp only [List.getElem_map, List.length_nil] at q0 q1 hvi
          obtain ⟨nm, hnm'⟩ : ∃ nm, nm = T.attrs[q].1 := ⟨_, rfl⟩
          obtain ⟨vl, hvl⟩ : ∃ vl, vl = T.attrs[q].2 := ⟨_, rfl⟩
          rw [← hnm'] at HVAL a0 q1
          rw [← hvl] at HVAL a1
          have HA0 := Sp.hid ((HB1R2.out.cell (p := ⟨ab, ao + q * 2, none⟩) fab).trans a0)
          have HA1 := Sp.hid ((HB1R2.out.cell (p := ⟨ab, ao + q * 2 + 1, none⟩) fab).trans a1)
          have HQ0 := Sp.hid ((HBR2.out.cell (p := ⟨hb_, ho_ + q * 2, none⟩) fhb).trans q0)
          have HQ1 := Sp.hid ((HBR2.out.cell (p := ⟨hb_, ho_ + q * 2 + 1, none⟩) fhb).trans q1)
          have hhb6 : hb_ < w6.heap.size := fhb
          have hhbr : hb_ < wr.heap.size := by omega
          clear a0 a1 q0 q1 hvi fab fhb hnm' hvl hnm hnsz hvsz
          go_wp2
          refine Sp.wp_region_facts (by kernel_rfl) [some 146, some 147, some 148, some 149, some 150, some 151, some 152, some 153, some 154, some 155, some 156, some 145, some 157, some 158, some 16, some 17]
            [fun v _ => v = .agg #[.string T.label, .string T.text, .slice (some ⟨ab, ao, none⟩) T.attrs.length ca, .slice ka T.kids.length ck], fun v _ => v = .pointer (some ⟨w1.heap.size, 2, none⟩), fun v _ => v = .slice (some ⟨ab, ao, none⟩) T.attrs.length ca, fun v _ => v = .int .i64 (q : Nat),
              fun v _ => v = .pointer (some ⟨ab, ao + q * 2, none⟩), fun v _ => v = .pointer (some ⟨ab, ao + q * 2, none⟩), fun v _ => v = .string nm, fun v _ => v = .agg #[.bool true, .string nm, .slice none 0 0],
              fun v x => ∃ g, v = .slice (some ⟨g, 0, none⟩) 1 1 ∧ x.heap[g]? = some (.cells #[.bool true, .string nm, .slice none 0 0] 58 (0, 0)),
              fun v x => ∃ g, v = .agg #[.slice (some ⟨g, 0, none⟩) 1 1] ∧ x.heap[g]? = some (.cells #[.bool true, .string nm, .slice none 0 0] 58 (0, 0)),
              fun v x => ∃ g c, v = .tuple #[.slice (some ⟨g, 0, none⟩) 1 c, .int .i64 0] ∧ x.cell? ⟨g, 0, none⟩ = some (.string vl) ∧ g < x.heap.size,
              fun v x => ∃ g c, v = .tuple #[.slice (some ⟨g, 0, none⟩) 1 c, .int .i64 0] ∧ x.cell? ⟨g, 0, none⟩ = some (.string vl) ∧ g < x.heap.size,
              fun v x => ∃ g c, v = .slice (some ⟨g, 0, none⟩) 1 c ∧ x.cell? ⟨g, 0, none⟩ = some (.string vl) ∧ g < x.heap.size, fun v _ => v = .int .i64 0,
              fun v x => ∃ g c, v = .slice (some ⟨g, 0, none⟩) 1 c ∧ x.cell? ⟨g, 0, none⟩ = some (.string vl) ∧ g < x.heap.size, fun v _ => v = .int .i64 0]
            (fun x => Below wr.heap.size wr x) (fun _ x y => Below x.heap.size x y) rfl (by kernel_rfl) (by kernel_rfl) (by kernel_rfl) ?vfr ?vhfr ?vG0 ?vGR ?vFR ?vstep ?vfin
          case vhfr => intro u; simp only [Sp.fillFrom, Sp.idx_cons, Sp.idx_nil, Option.some.injEq, reduceCtorEq, reduceIte, Nat.reduceEqDiff, Nat.reduceAdd, Option.map_some, Option.map_none]; exact rfl
          case vG0 => exact (Below.refl _ _).drew
          case vGR => exact fun _ _ _ hG hR => hG.trans (hR.mono hG.size)
          case vFR =>
            have sh : ∀ (x y : World), Below x.heap.size x y → ∀ (g : Nat) (z : Value), x.cell? ⟨g, 0, none⟩ = some z ∧ g < x.heap.size → y.cell? ⟨g, 0, none⟩ = some z ∧ g < y.heap.size := fun x y hb g z h => ⟨(hb.cell (p := ⟨g, 0, none⟩) h.2).trans h.1, Nat.lt_of_lt_of_le h.2 hb.size⟩
            iterate 8 (refine ⟨fun _ _ _ _ _ _ _ h => h, ?_⟩)
            refine ⟨?_, ?_, ?_, ?_, ?_, fun _ _ _ _ _ _ _ h => h, ?_, fun _ _ _ _ _ _ _ h => h, trivial⟩
            · rintro i _ v x y _ hR ⟨g, e, h⟩; exact ⟨g, e, (hR.block g (Array.getElem?_eq_some_iff.1 h).1).trans h⟩
            · rintro i _ v x y _ hR ⟨g, e, h⟩; exact ⟨g, e, (hR.block g (Array.getElem?_eq_some_iff.1 h).1).trans h⟩
            · rintro i _ v x y _ hR ⟨a, c, e, h⟩; exact ⟨a, c, e, sh x y hR a _ h⟩
            · rintro i _ v x y _ hR ⟨a, c, e, h⟩; exact ⟨a, c, e, sh x y hR a _ h⟩
            · rintro i _ v x y _ hR ⟨a, c, e, h⟩; exact ⟨a, c, e, sh x y hR a _ h⟩
            · rintro i _ v x y _ hR ⟨a, c, e, h⟩; exact ⟨a, c, e, sh x y hR a _ h⟩
          case vstep =>
            refine ⟨?_, ?_, ?_, ?_, ?_, ?_, ?_, ?_, ?_, ?_, ?_, ?_, ?_, ?_, ?_, ?_, trivial⟩
            · intro u x hG hD
              simp only [Sp.DepsHold] at hD
              dsimp only
              have hGs := hG.size
              have c0 : x.cell? ⟨w1.heap.size, 0, none⟩ = _ := (hG.cell (p := ⟨w1.heap.size, 0, none⟩) hlr2).trans HE0.out
              have c1 : x.cell? ⟨w1.heap.size, 1, none⟩ = _ := (hG.cell (p := ⟨w1.heap.size, 1, none⟩) hlr2).trans HE1.out
              have c2 : x.cell? ⟨w1.heap.size, 2, none⟩ = _ := (hG.cell (p := ⟨w1.heap.size, 2, none⟩) hlr2).trans HE2.out
              have c3 : x.cell? ⟨w1.heap.size, 3, none⟩ = _ := (hG.cell (p := ⟨w1.heap.size, 3, none⟩) hlr2).trans HE3.out
              have k0 : x.cell? ⟨ab, ao + q * 2, none⟩ = _ := (hG.cell (p := ⟨ab, ao + q * 2, none⟩) habr).trans HA0.out
              clear hG
              repeat (obtain ⟨hE, hD⟩ := hD; (try rw [hE]); clear hE)
              try rw [hD]
              try clear hD
              go_wp2
              (with_reducible apply Sp.rd_close)
              · exact Below.refl _ _
              · exact rfl
              · exact rfl
            · intro u x hG hD
              simp only [Sp.DepsHold] at hD
              dsimp only
              have hGs := hG.size
              have c0 : x.cell? ⟨w1.heap.size, 0, none⟩ = _ := (hG.cell (p := ⟨w1.heap.size, 0, none⟩) hlr2).trans HE0.out
              have c1 : x.cell? ⟨w1.heap.size, 1, none⟩ = _ := (hG.cell (p := ⟨w1.heap.size, 1, none⟩) hlr2).trans HE1.out
              have c2 : x.cell? ⟨w1.heap.size, 2, none⟩ = _ := (hG.cell (p := ⟨w1.heap.size, 2, none⟩) hlr2).trans HE2.out
              have c3 : x.cell? ⟨w1.heap.size, 3, none⟩ = _ := (hG.cell (p := ⟨w1.heap.size, 3, none⟩) hlr2).trans HE3.out
              have k0 : x.cell? ⟨ab, ao + q * 2, none⟩ = _ := (hG.cell (p := ⟨ab, ao + q * 2, none⟩) habr).trans HA0.out
              clear hG
              repeat (obtain ⟨hE, hD⟩ := hD; (try rw [hE]); clear hE)
              try rw [hD]
              try clear hD
              go_wp2
              (with_reducible apply Sp.rd_close)
              · exact Below.refl _ _
              · exact rfl
              · exact rfl
            · intro u x hG hD
              simp only [Sp.DepsHold, Sp.factAt, Region.binds, List.getElem?_cons_zero, List.getElem?_cons_succ, Option.getD_some, and_true, true_implies] at hD
              dsimp only
              have hGs := hG.size
              have c0 : x.cell? ⟨w1.heap.size, 0, none⟩ = _ := (hG.cell (p := ⟨w1.heap.size, 0, none⟩) hlr2).trans HE0.out
              have c1 : x.cell? ⟨w1.heap.size, 1, none⟩ = _ := (hG.cell (p := ⟨w1.heap.size, 1, none⟩) hlr2).trans HE1.out
              have c2 : x.cell? ⟨w1.heap.size, 2, none⟩ = _ := (hG.cell (p := ⟨w1.heap.size, 2, none⟩) hlr2).trans HE2.out
              have c3 : x.cell? ⟨w1.heap.size, 3, none⟩ = _ := (hG.cell (p := ⟨w1.heap.size, 3, none⟩) hlr2).trans HE3.out
              have k0 : x.cell? ⟨ab, ao + q * 2, none⟩ = _ := (hG.cell (p := ⟨ab, ao + q * 2, none⟩) habr).trans HA0.out
              clear hG
              repeat (obtain ⟨hE, hD⟩ := hD; (try rw [hE]); clear hE)
              try rw [hD]
              try clear hD
              go_wp2
              (with_reducible apply Sp.rd_close)
              · exact Below.refl _ _
              · exact rfl
              · exact rfl
            · intro u x hG hD
              simp only [Sp.DepsHold] at hD
              dsimp only
              have hGs := hG.size
              have c0 : x.cell? ⟨w1.heap.size, 0, none⟩ = _ := (hG.cell (p := ⟨w1.heap.size, 0, none⟩) hlr2).trans HE0.out
              have c1 : x.cell? ⟨w1.heap.size, 1, none⟩ = _ := (hG.cell (p := ⟨w1.heap.size, 1, none⟩) hlr2).trans HE1.out
              have c2 : x.cell? ⟨w1.heap.size, 2, none⟩ = _ := (hG.cell (p := ⟨w1.heap.size, 2, none⟩) hlr2).trans HE2.out
              have c3 : x.cell? ⟨w1.heap.size, 3, none⟩ = _ := (hG.cell (p := ⟨w1.heap.size, 3, none⟩) hlr2).trans HE3.out
              have k0 : x.cell? ⟨ab, ao + q * 2, none⟩ = _ := (hG.cell (p := ⟨ab, ao + q * 2, none⟩) habr).trans HA0.out
              clear hG
              repeat (obtain ⟨hE, hD⟩ := hD; (try rw [hE]); clear hE)
              try rw [hD]
              try clear hD
              go_wp2
              (with_reducible apply Sp.rd_close)
              · exact Below.refl _ _
              · exact rfl
              · exact rfl
            · intro u x hG hD
              simp only [Sp.DepsHold, Sp.factAt, Region.binds, List.getElem?_cons_zero, List.getElem?_cons_succ, Option.getD_some, and_true, true_implies] at hD
              dsimp only
              have hGs := hG.size
              have c0 : x.cell? ⟨w1.heap.size, 0, none⟩ = _ := (hG.cell (p := ⟨w1.heap.size, 0, none⟩) hlr2).trans HE0.out
              have c1 : x.cell? ⟨w1.heap.size, 1, none⟩ = _ := (hG.cell (p := ⟨w1.heap.size, 1, none⟩) hlr2).trans HE1.out
              have c2 : x.cell? ⟨w1.heap.size, 2, none⟩ = _ := (hG.cell (p := ⟨w1.heap.size, 2, none⟩) hlr2).trans HE2.out
              have c3 : x.cell? ⟨w1.heap.size, 3, none⟩ = _ := (hG.cell (p := ⟨w1.heap.size, 3, none⟩) hlr2).trans HE3.out
              have k0 : x.cell? ⟨ab, ao + q * 2, none⟩ = _ := (hG.cell (p := ⟨ab, ao + q * 2, none⟩) habr).trans HA0.out
              clear hG
              repeat (obtain ⟨hE, hD⟩ := hD; (try rw [hE]); clear hE)
              try rw [hD]
              try clear hD
              go_wp2
              (with_reducible apply Sp.rd_close)
              · exact Below.refl _ _
              · exact rfl
              · exact rfl
            · intro u x hG hD
              simp only [Sp.DepsHold, Sp.factAt, Region.binds, List.getElem?_cons_zero, List.getElem?_cons_succ, Option.getD_some, and_true, true_implies] at hD
              dsimp only
              have hGs := hG.size
              have c0 : x.cell? ⟨w1.heap.size, 0, none⟩ = _ := (hG.cell (p := ⟨w1.heap.size, 0, none⟩) hlr2).trans HE0.out
              have c1 : x.cell? ⟨w1.heap.size, 1, none⟩ = _ := (hG.cell (p := ⟨w1.heap.size, 1, none⟩) hlr2).trans HE1.out
              have c2 : x.cell? ⟨w1.heap.size, 2, none⟩ = _ := (hG.cell (p := ⟨w1.heap.size, 2, none⟩) hlr2).trans HE2.out
              have c3 : x.cell? ⟨w1.heap.size, 3, none⟩ = _ := (hG.cell (p := ⟨w1.heap.size, 3, none⟩) hlr2).trans HE3.out
              have k0 : x.cell? ⟨ab, ao + q * 2, none⟩ = _ := (hG.cell (p := ⟨ab, ao + q * 2, none⟩) habr).trans HA0.out
              clear hG
              repeat (obtain ⟨hE, hD⟩ := hD; (try rw [hE]); clear hE)
              try rw [hD]
              try clear hD
              go_wp2
              (with_reducible apply Sp.rd_close)
              · exact Below.refl _ _
              · exact rfl
              · exact rfl
            · intro u x hG hD
              simp only [Sp.DepsHold, Sp.factAt, Region.binds, List.getElem?_cons_zero, List.getElem?_cons_succ, Option.getD_some, and_true, true_implies] at hD
              dsimp only
              have hGs := hG.size
              have c0 : x.cell? ⟨w1.heap.size, 0, none⟩ = _ := (hG.cell (p := ⟨w1.heap.size, 0, none⟩) hlr2).trans HE0.out
              have c1 : x.cell? ⟨w1.heap.size, 1, none⟩ = _ := (hG.cell (p := ⟨w1.heap.size, 1, none⟩) hlr2).trans HE1.out
              have c2 : x.cell? ⟨w1.heap.size, 2, none⟩ = _ := (hG.cell (p := ⟨w1.heap.size, 2, none⟩) hlr2).trans HE2.out
              have c3 : x.cell? ⟨w1.heap.size, 3, none⟩ = _ := (hG.cell (p := ⟨w1.heap.size, 3, none⟩) hlr2).trans HE3.out
              have k0 : x.cell? ⟨ab, ao + q * 2, none⟩ = _ := (hG.cell (p := ⟨ab, ao + q * 2, none⟩) habr).trans HA0.out
              clear hG
              repeat (obtain ⟨hE, hD⟩ := hD; (try rw [hE]); clear hE)
              try rw [hD]
              try clear hD
              go_wp2
              (with_reducible apply Sp.rd_close)
              · exact Below.refl _ _
              · exact rfl
              · exact rfl
            · intro u x hG hD
              simp only [Sp.DepsHold, Sp.factAt, Region.binds, List.getElem?_cons_zero, List.getElem?_cons_succ, Option.getD_some, and_true, true_implies] at hD
              dsimp only
              have hGs := hG.size
              have c0 : x.cell? ⟨w1.heap.size, 0, none⟩ = _ := (hG.cell (p := ⟨w1.heap.size, 0, none⟩) hlr2).trans HE0.out
              have c1 : x.cell? ⟨w1.heap.size, 1, none⟩ = _ := (hG.cell (p := ⟨w1.heap.size, 1, none⟩) hlr2).trans HE1.out
              have c2 : x.cell? ⟨w1.heap.size, 2, none⟩ = _ := (hG.cell (p := ⟨w1.heap.size, 2, none⟩) hlr2).trans HE2.out
              have c3 : x.cell? ⟨w1.heap.size, 3, none⟩ = _ := (hG.cell (p := ⟨w1.heap.size, 3, none⟩) hlr2).trans HE3.out
              have k0 : x.cell? ⟨ab, ao + q * 2, none⟩ = _ := (hG.cell (p := ⟨ab, ao + q * 2, none⟩) habr).trans HA0.out
              clear hG
              repeat (obtain ⟨hE, hD⟩ := hD; (try rw [hE]); clear hE)
              try rw [hD]
              try clear hD
              go_wp2
              (with_reducible apply Sp.rd_close)
              · exact Below.refl _ _
              · exact rfl
              · exact rfl
            · intro u x hG hD
              simp only [Sp.DepsHold, Sp.factAt, Region.binds, List.getElem?_cons_zero, List.getElem?_cons_succ, Option.getD_some, and_true, true_implies] at hD
              dsimp only
              rw [hD]
              clear hG hD
              go_wp2
              (with_reducible apply Sp.rd_close)
              · exact (Below.refl _ _).alloc (Nat.le_refl _) _
              · exact rfl
              · exact ⟨x.heap.size, rfl, World.alloc_heap_new _ _⟩
            · intro u x hG hD
              simp only [Sp.DepsHold, Sp.factAt, Region.binds, List.getElem?_cons_zero, List.getElem?_cons_succ, Option.getD_some, and_true, true_implies] at hD
              dsimp only
              obtain ⟨g, hE, hg⟩ := hD
              rw [hE]
              have HGG := Sp.hid hg
              clear hG hE hg
              go_wp2
              (with_reducible apply Sp.rd_close)
              · exact Below.refl _ _
              · exact rfl
              · exact ⟨g, rfl, HGG.out⟩
            · intro u x hG hD
              simp only [Sp.DepsHold, Sp.factAt, Region.binds, List.getElem?_cons_zero, List.getElem?_cons_succ, Option.getD_some, and_true, true_implies] at hD
              dsimp only
              obtain ⟨hE0, g, hE, hg⟩ := hD
              rw [hE0, hE]
              have hGs := hG.size
              have HSE := Sp.hid (HVAL.out x g (HB2R2.out.trans (hG.mono (by omega))) hg)
              clear hG hE0 hE hg
              go_wp2_with (go_at_call 18; refine HSE.out.mono ?_; rintro e x2 ⟨hb2, sa2, sc2, rfl, hs2⟩; have HB := Sp.hid hb2; have HS := Sp.hid hs2; clear hb2 hs2)
              (with_reducible apply Sp.rd_close)
              · exact HB.out
              · exact rfl
              · exact ⟨sa2, sc2, rfl, HS.out⟩
            · intro u x hG hD
              simp only [Sp.DepsHold, Sp.factAt, Region.binds, List.getElem?_cons_zero, List.getElem?_cons_succ, Option.getD_some, and_true, true_implies] at hD
              dsimp only
              obtain ⟨sa2, sc2, hE, hs⟩ := hD
              rw [hE]
              have HS := Sp.hid hs
              clear hG hE hs
              go_wp2
              (with_reducible apply Sp.rd_close)
              · exact Below.refl _ _
              · exact rfl
              · exact ⟨sa2, sc2, rfl, HS.out⟩
            · intro u x hG hD
              simp only [Sp.DepsHold, Sp.factAt, Region.binds, List.getElem?_cons_zero, List.getElem?_cons_succ, Option.getD_some, and_true, true_implies] at hD
              dsimp only
              obtain ⟨sa2, sc2, hE, hs⟩ := hD
              rw [hE]
              have HS := Sp.hid hs
              clear hG hE hs
              go_wp2
              (with_reducible apply Sp.rd_close)
              · exact Below.refl _ _
              · exact rfl
              · exact ⟨sa2, sc2, rfl, HS.out⟩
            · intro u x hG hD
              simp only [Sp.DepsHold, Sp.any_gc, Bool.false_eq_true, false_implies, Sp.factAt, Region.binds, List.getElem?_cons_zero, List.getElem?_cons_succ, Option.getD_some, and_true, true_implies] at hD
              dsimp only
              obtain ⟨sa2, sc2, hE, hs⟩ := hD
              rw [hE]
              clear hG hE hs
              go_wp2
              (with_reducible apply Sp.rd_close)
              · exact Below.refl _ _
              · exact rfl
              · exact rfl
            · intro u x hG hD
              simp only [Sp.DepsHold, Sp.any_text, Bool.false_eq_true, false_implies, Sp.factAt, Region.binds, List.getElem?_cons_zero, List.getElem?_cons_succ, Option.getD_some, and_true, true_implies] at hD
              dsimp only
              obtain ⟨⟨sa2, sc2, hE, hs⟩, _⟩ := hD
              rw [hE]
              have HS := Sp.hid hs
              clear hG hE hs
              go_wp2
              (with_reducible apply Sp.rd_close)
              · exact Below.refl _ _
              · exact rfl
              · exact ⟨sa2, sc2, rfl, HS.out⟩
            · intro u x hG hD
              simp only [Sp.DepsHold, Sp.factAt, Region.binds, List.getElem?_cons_zero, List.getElem?_cons_succ, Option.getD_some, and_true, true_implies] at hD
              dsimp only
              obtain ⟨hE, _⟩ := hD
              rw [hE]
              clear hG hE
              go_wp2
              (with_reducible apply Sp.rd_close)
              · exact Below.refl _ _
              · exact rfl
              · exact rfl
          case vfin =>
            intro u x hG hF
            simp only [Sp.AllF, and_true] at hF
            obtain ⟨e0, e1, e2, e3, e4, e5, e6, e7, ⟨g8, e8, _⟩, ⟨g9, e9, _⟩, ⟨a10, c10, e10, _⟩, ⟨a11, c11, e11, _⟩, ⟨a12, c12, e12, _⟩, e13, ⟨vg, vcap, e14, hvv, hvg⟩, e15⟩ := hF
            rw [e0, e1, e2, e3, e4, e5, e6, e7, e8, e9, e10, e11, e12, e13, e14, e15]
            clear e0 e1 e2 e3 e4 e5 e6 e7 e8 e9 e10 e11 e12 e13 e14 e15 u
            have hGs := hG.size
            have HGX := Sp.hid (HBR2.out.trans (hG.mono (by omega)))
            have HX0 := Sp.hid ((hG.cell (p := ⟨hb_, ho_ + q * 2, none⟩) hhbr).trans HQ0.out)
            have HX1 := Sp.hid ((hG.cell (p := ⟨hb_, ho_ + q * 2 + 1, none⟩) hhbr).trans HQ1.out)
            have HX2 := Sp.hid ((hG.cell (p := ⟨w1.heap.size, 2, none⟩) hlr2).trans HE2.out)
            have HX3 := Sp.hid ((hG.cell (p := ⟨ab, ao + q * 2, none⟩) habr).trans HA0.out)
            have HX4 := Sp.hid ((hG.cell (p := ⟨ab, ao + q * 2 + 1, none⟩) habr).trans HA1.out)
            have HX5 := Sp.hid hvv
            have hhx : hb_ < x.heap.size := by omega
            have hax : ab < x.heap.size := by omega
            have hwx : w1.heap.size < x.heap.size := by omega
            clear hG hvv d0 d1 d2 d3
            have HXX := Sp.hid (fun (y : World) (hG : Below x.heap.size x y) => And.intro ((hG.cell (p := ⟨hb_, ho_ + q * 2, none⟩) hhx).trans HX0.out) (And.intro ((hG.cell (p := ⟨hb_, ho_ + q * 2 + 1, none⟩) hhx).trans HX1.out) (And.intro ((hG.cell (p := ⟨w1.heap.size, 2, none⟩) hwx).trans HX2.out) (And.intro ((hG.cell (p := ⟨ab, ao + q * 2, none⟩) hax).trans HX3.out) (And.intro ((hG.cell (p := ⟨ab, ao + q * 2 + 1, none⟩) hax).trans HX4.out) ((hG.cell (p := ⟨vg, 0, none⟩) hvg).trans HX5.out))))))
            go_wp2
            refine Sp.wp_region_read (by kernel_rfl) [some 159, some 160, some 161, some 162, some 163, some 164, some 165, some 166, some 167, some 168, some 169, some 170, some 171, some 172, some 173, some 174, some 175, some 176, some 177, some 178, some 179, some 180, some 181, some 182, some 183, some 184, some 185, some 186, some 187, some 188, some 189, some 190, some 191, some 192, some 193, some 194, some 195, some 196, some 197, some 198, some 199, some 200] [?r1v0, ?r1v1, ?r1v2, ?r1v3, ?r1v4, ?r1v5, ?r1v6, ?r1v7, ?r1v8, ?r1v9, ?r1v10, ?r1v11, ?r1v12, ?r1v13, ?r1v14, ?r1v15, ?r1v16, ?r1v17, ?r1v18, ?r1v19, ?r1v20, ?r1v21, ?r1v22, ?r1v23, ?r1v24, ?r1v25, ?r1v26, ?r1v27, ?r1v28, ?r1v29, ?r1v30, ?r1v31, ?r1v32, ?r1v33, ?r1v34, ?r1v35, ?r1v36, ?r1v37, ?r1v38, ?r1v39, ?r1v40, ?r1v41] rfl (by kernel_rfl) (by kernel_rfl) (by kernel_rfl) ?r1fr ?r1hfr ?r1step ?r1fin
            case r1hfr => intro u; simp only [Sp.fillFrom, Sp.idx_cons, Sp.idx_nil, Option.some.injEq, reduceCtorEq, reduceIte, Nat.reduceEqDiff, Nat.reduceAdd, Option.map_some, Option.map_none]; exact rfl
            case r1step =>
              refine ⟨?_, ?_, ?_, ?_, ?_, ?_, ?_, ?_, ?_, ?_, ?_, ?_, ?_, ?_, ?_, ?_, ?_, ?_, ?_, ?_, ?_, ?_, ?_, ?_, ?_, ?_, ?_, ?_, ?_, ?_, ?_, ?_, ?_, ?_, ?_, ?_, ?_, ?_, ?_, ?_, ?_, ?_, trivial⟩
              all_goals
                intro u w1 hG hD; simp only [Sp.DepsHold, List.map_cons, List.map_nil, Sp.isV, Sp.factAt, Region.binds, List.getElem?_cons_zero, List.getElem?_cons_succ, Option.getD_some, and_true, true_implies] at hD; dsimp only
                obtain ⟨x0, x1_, x2, x3, x4, x5⟩ := HXX.out w1 hG
                clear hG
                repeat (obtain ⟨hE, hD⟩ := hD; (try rw [hE]); clear hE)
                try rw [hD]
                try clear hD
                go_wp2_with (fail)
                (with_reducible apply Sp.rd_close); (first | exact HB2.out | exact Below.refl _ _); exact rfl; refine Sp.isV_at ?_; exact rfl
            case r1fin => 
              intro w' hG; simp only [List.getElem?_cons_zero, List.getElem?_cons_succ, Option.getD_some]
              have HFIN := Sp.hid (HGX.out.trans (hG.mono (by omega)))
              clear hG
              go_wp2
              go_roundw
              case rel => exact ⟨q + 1, by omega, by go_num, HFIN.out⟩
              case measure => simp [intOf]; omega
        · obtain rfl : q = T.attrs.length := by omega
          have HAW := Sp.hid (awake16_any wr (HSPAN.out wr HB2R2.out))
          have HBF := Sp.hid (HB2.out.trans (HB2R2.out.mono (by omega)) : Below w.heap.size w wr)
          have hsf : w.heap.size ≤ wr.heap.size := by omega
          go_wp2_with fail
          refine HAW.out.mono ?_
          rintro e wz ⟨rfl, hbz⟩
          have HBZ := Sp.hid (HBF.out.trans (hbz.mono hsf))
          clear hbz HAW
          go_wp2
          go_ret
          exact ⟨rfl, HBZ.out⟩

end Go.Proofs.YtoknglpfchjbjaaDoor
