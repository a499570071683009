/- The walk of PathLeads: at every input the law returns true. Conditions: the table of spans as laid; fewer than 2^20 steps of a tree. -/
import Derived.Test.YtoknglpfchjbjaaGreatDoorRefCX
import Derived.Test.YtoknglpfchjbjaaGreatDoorRefPX
import Derived.Test.YtoknglpfchjbjaaGreatDoorRefVX
import Derived.Test.YtoknglpfchjbjaaGreatDoorAwakeX
import Derived.Test.YtoknglpfchjbjaaGreatDoorLawP
import Derived.Test.YtoknglpfchjbjaaGreatDoorLawT
import Derived.Test.YtoknglpfchjbjaaGreatDoorRawX
namespace Go.Proofs.YtoknglpfchjbjaaGreatDoor
open Go.RowKit Go.Sp Go.Maps


/-- What Values returns where the tree has a fault. -/
theorem val_bad {n : Nat} {T : TT} {steps : List StepM} {w w' : World} {e : Ending} (h0 : checkM n T ≠ 0) (h : ValPost n T steps w e w') : Below w.heap.size w w' ∧ e = .returned (.tuple #[.slice none 0 0, .int .i64 (checkM n T)]) := by
  obtain ⟨hb, ⟨-, h⟩ | ⟨h, -⟩ | ⟨h, -⟩⟩ := h
  · exact ⟨hb, h⟩
  · exact absurd h h0
  · exact absurd h h0
/-- .. where the path has one. -/
theorem val_badp {n : Nat} {T : TT} {steps : List StepM} {w w' : World} {e : Ending} (h0 : checkM n T = 0) (h1 : pcheckM steps ≠ 0) (h : ValPost n T steps w e w') : Below w.heap.size w w' ∧ e = .returned (.tuple #[.slice none 0 0, .int .i64 (pcheckM steps)]) := by
  obtain ⟨hb, ⟨h, -⟩ | ⟨-, -, h⟩ | ⟨-, h, -⟩⟩ := h
  · exact absurd h0 h
  · exact ⟨hb, h⟩
  · exact absurd h h1
theorem val_good {n : Nat} {T : TT} {steps : List StepM} {w w' : World} {e : Ending} (h0 : checkM n T = 0) (h1 : pcheckM steps = 0) (h : ValPost n T steps w e w') : Below w.heap.size w w' ∧ ∃ v, e = .returned (.tuple #[v, .int .i64 0]) ∧ w'.ownsRow w.heap.size 9 1 v (leadM steps ([], T)).length ((valuesM n T (leadM steps ([], T))).map Value.string) := by
  obtain ⟨hb, ⟨h, -⟩ | ⟨-, h, -⟩ | ⟨-, -, h⟩⟩ := h
  · exact absurd h0 h
  · exact absurd h1 h
  · exact ⟨hb, h⟩
/-- A row of texts, one by one. -/
theorem vals_src {base n : Nat} {w : World} {v : Value} {l : List ByteArray} (h : w.ownsRow base 9 1 v n (l.map Value.string)) (hn : n = l.length) : ∃ a c, v = .slice a n c ∧ ∀ i (hi : i < l.length), ∃ g, a = some ⟨g, 0, none⟩ ∧ g < w.heap.size ∧ w.cell? ⟨g, i, none⟩ = some (.string l[i]) := by
  rcases Joins.ownsRow_forms h with ⟨hv, hk0⟩ | ⟨g1, cap1, hv⟩
  · exact ⟨none, 0, by rw [hk0]; exact hv, fun i hi => absurd hi (by omega)⟩
  · refine ⟨some ⟨g1, 0, none⟩, cap1, hv, fun i hi => ⟨g1, rfl, (h.lt g1 (by rw [hv]; rfl)).2, ?_⟩⟩
    have hr := h
    rw [hv] at hr
    rw [hr.cellAt _ (by omega), List.getElem?_map, List.getElem?_eq_getElem hi]
    rfl
/-- The answer's hits, as a slice. -/
theorem hits_sl {n : Nat} {F : Nat → Prop} {base : Nat} {w : World} {v : Value} {L : List (List Value × RX)} (h : HitsR n F base w v L) (hF : ∀ b, F b → b < w.heap.size) : ∃ a c, v = .slice a (L.map (·.2)).length c ∧ Sl (rhitS n) (· < w.heap.size) w a (L.map (·.2)) := by
  obtain ⟨a, c, h1, h2⟩ := own_sl (S := rhitS n) (F := (· < w.heap.size)) h.row rfl (fun x hx => (rhitS n).mono (h.els x hx) (fun b hb => by
    rcases hb with hb | ⟨_, hb, _⟩
    · exact hF b hb
    · exact hb.lt)) (fun g hg => (h.row.lt g hg).2)
  exact ⟨a, c, by rw [List.length_map]; exact h1, h2⟩
theorem rhit_cells {n : Nat} {F : Nat → Prop} {w : World} {a : Option Addr} {xs : List RX} (h : Sl (rhitS n) F w a xs) (i : Nat) (hi : i < xs.length) :
    ∃ b o va vc aa ca ka ck, a = some ⟨b, o, none⟩ ∧ F b ∧ Sl (Shape.int .i64) F w va xs[i].1 ∧ (treeS n).rep F w [.string xs[i].2.1.label, .string xs[i].2.1.text, .slice aa xs[i].2.1.attrs.length ca, .slice ka xs[i].2.1.kids.length ck] xs[i].2.1 ∧
      w.cell? ⟨b, o + i * 6, none⟩ = some (.slice va xs[i].1.length vc) ∧ w.cell? ⟨b, o + i * 6 + 1, none⟩ = some (.string xs[i].2.1.label) ∧ w.cell? ⟨b, o + i * 6 + 2, none⟩ = some (.string xs[i].2.1.text) ∧ w.cell? ⟨b, o + i * 6 + 3, none⟩ = some (.slice aa xs[i].2.1.attrs.length ca) ∧
      w.cell? ⟨b, o + i * 6 + 4, none⟩ = some (.slice ka xs[i].2.1.kids.length ck) ∧ w.cell? ⟨b, o + i * 6 + 5, none⟩ = some (.string xs[i].2.2) := by
  obtain ⟨b, o, vs, h1, h2, h3, h4⟩ := h i hi
  obtain ⟨va, vc, aa, ca, ka, ck, rfl, q1, q2⟩ := rhit_parts h3
  exact ⟨b, o, va, vc, aa, ca, ka, ck, h1, h2, q1, q2, h4 0 (by simp), h4 1 (by simp), h4 2 (by simp), h4 3 (by simp), h4 4 (by simp), h4 5 (by simp)⟩
theorem rhits_grow {n : Nat} {x y : World} (hb : Below x.heap.size x y) {a : Option Addr} {l : List RX} (h : Sl (rhitS n) (fun k => k < x.heap.size) x a l) : Sl (rhitS n) (fun k => k < y.heap.size) y a l :=
  (h.frame fun b hb' => hb.block b hb').mono fun b hb' => by have : b < x.heap.size := hb'; have := hb.size; omega
theorem psteps_grow {x y : World} (hb : Below x.heap.size x y) {a : Option Addr} {l : List StepM} (h : Sl pstepS (fun k => k < x.heap.size) x a l) : Sl pstepS (fun k => k < y.heap.size) y a l :=
  (h.frame fun b hb' => hb.block b hb').mono fun b hb' => by have : b < x.heap.size := hb'; have := hb.size; omega
theorem hitsL_grow {x y : World} (hb : Below x.heap.size x y) {a : Option Addr} {l : List (List Int × ByteArray)} (h : Sl hitS (fun k => k < x.heap.size) x a l) : Sl hitS (fun k => k < y.heap.size) y a l :=
  (h.frame fun b hb' => hb.block b hb').mono fun b hb' => by have : b < x.heap.size := hb'; have := hb.size; omega

/- W: the world; h6: Below w6 W -/
/- ahead of the call of law16.Plain, at wq -/


set_option maxRecDepth 100000 in
set_option maxHeartbeats 16000000 in
theorem leads_walk (xs : List Stp) (a : Option Addr) (cap : Nat) (steps : List StepM) (sa : Option Addr) (sc : Nat) (w : World) (hxs : Sl stpS (· < w.heap.size) w a xs) (hxl : xs.length ≤ 1048576) (hsl : Sl pstepS (· < w.heap.size) w sa steps) (hst : steps.length ≤ 9223372036854775807) (hsc : steps.length ≤ sc) (hsp : SpansAt w) :
    Calls Tryz.prog 3 #[.slice a xs.length cap, .agg #[.slice sa steps.length sc]] w fun e w' => e = .returned (.bool true) ∧ Below w.heap.size w w' := by
  obtain ⟨wb, hwb⟩ : ∃ wb, wb = w.alloc (.cells #[.slice sa steps.length sc] 25) := ⟨_, rfl⟩
  have hs1 : w.heap.size + 1 ≤ wb.heap.size := by rw [hwb]; simp
  have hb1 : Below w.heap.size w wb := by rw [hwb]; exact (Below.refl _ _).alloc (Nat.le_refl _) _
  have ht1 : wb.heap[w.heap.size]? = some (.cells #[.slice sa steps.length sc] 25 (0, 0)) := by rw [hwb]; exact World.alloc_heap_new _ _
  have HSL := Sp.hid (fun W (hW : Below w.heap.size w W) => hsl.below (fun k h => h) hW)
  have HSP := Sp.hid (fun W (hW : Below w.heap.size w W) => hsp.below hW (Nat.le_refl _))
  have HXS := Sp.hid (fun W (hW : Below w.heap.size w W) => (hxs.below (fun k h => h) hW).mono (G := (· < W.heap.size)) fun k hk => by have : k < w.heap.size := hk; have := hW.size; show k < W.heap.size; omega)
  have HRAW := Sp.hid (lawRaw_any xs hxl a cap wb ((hxs.below (fun k h => h) hb1).mono fun k hk => by have : k < w.heap.size := hk; omega))
  have HWB := Sp.hid hwb
  have HB1 := Sp.hid hb1
  have HT1 := Sp.hid ht1
  clear hxs hsl hsp hwb hb1 ht1
  go_enter Tryz.func3, Tryz.ntmps3
  go_wp2_with fail
  rw [← HWB.out]
  refine HRAW.out.mono ?_
  rintro e w2 ⟨hb2, vs, is, htv, rfl, hraw⟩
  have hs2 := hb2.size
  have hbw2 : Below w.heap.size w w2 := HB1.out.trans (hb2.mono (by omega))
  have HT2 := Sp.hid ((hb2.block _ (by omega)).trans HT1.out)
  obtain ⟨l0, l1, aa, na, ca, ka, nk, ck, rfl⟩ := htv
  have HRW := Sp.hid hraw
  obtain ⟨w3, hw3⟩ : ∃ w3, w3 = w2.alloc (.cells #[.string l0, .string l1, .slice aa na ca, .slice ka nk ck] 29) := ⟨_, rfl⟩
  have hs3 : w2.heap.size + 1 ≤ w3.heap.size := by rw [hw3]; simp
  have hb3 : Below w2.heap.size w2 w3 := by rw [hw3]; exact (Below.refl _ _).alloc (Nat.le_refl _) _
  have hbw3 : Below w.heap.size w w3 := hbw2.trans (hb3.mono (by omega))
  have HT3 := Sp.hid ((hb3.block _ (by omega)).trans HT2.out)
  have HTR3 := Sp.hid (show w3.heap[w2.heap.size]? = some (.cells #[.string l0, .string l1, .slice aa na ca, .slice ka nk ck] 29 (0, 0)) by rw [hw3]; exact World.alloc_heap_new _ _)
  have HB23 := Sp.hid hb3
  have HB3 := Sp.hid hbw3
  have HFEW := Sp.hid (few_any (· < w3.heap.size) a cap xs w3 (HXS.out w3 hbw3) (by omega))
  have HW3 := Sp.hid hw3
  clear hb2 hbw2 hraw hw3 hb3 hbw3
  go_wp2_with fail
  rw [← HW3.out]
  refine HFEW.out.mono ?_
  rintro e w4 ⟨few, rfl, hfew, rfl⟩
  have HFEWF := Sp.hid hfew
  clear hfew
  have c0 : w3.cell? ⟨w.heap.size, 0, none⟩ = some (.slice sa steps.length sc) := cell_at HT3.out 0
  cases few
  · skip
    have HAW := Sp.hid (awake16_any w3 (HSP.out w3 HB3.out))
    have HBA := Sp.hid HB3.out
    go_wp2_with fail
    refine HAW.out.mono ?_
    rintro e wz ⟨rfl, hbz⟩
    have HBZ := Sp.hid (HBA.out.trans (hbz.mono HBA.out.size))
    clear hbz
    go_wp2
    go_ret
    exact ⟨rfl, HBZ.out⟩
  cases is
  · skip
    have HAW := Sp.hid (awake16_any w3 (HSP.out w3 HB3.out))
    have HBA := Sp.hid HB3.out
    go_wp2_with fail
    refine HAW.out.mono ?_
    rintro e wz ⟨rfl, hbz⟩
    have HBZ := Sp.hid (HBA.out.trans (hbz.mono HBA.out.size))
    clear hbz
    go_wp2
    go_ret
    exact ⟨rfl, HBZ.out⟩
  have HSML := Sp.hid (small2_any (· < w.heap.size) steps sa sc w3 (HSL.out w3 HB3.out) (fun k h => by have : k < w.heap.size := h; omega) hst)
  obtain ⟨hnames, T, ⟨hpar, hxpos⟩, hrep⟩ := HRW.out rfl
  obtain ⟨d, hd⟩ : ∃ d, xs.length = d + 1 := ⟨xs.length - 1, by omega⟩
  have hrep' := hrep
  rw [hd] at hrep'
  obtain ⟨-, aa', ca', ka', ck', hvs, -, -⟩ := tree_open hrep'
  simp only [List.cons.injEq, Value.string.injEq, Value.slice.injEq, and_true] at hvs
  obtain ⟨rfl, rfl, ⟨rfl, rfl, rfl⟩, rfl, rfl, rfl⟩ := hvs
  have HND := Sp.hid (fun W (hW : Below w3.heap.size w3 W) => (⟨aa, ca, ka, ck, rfl, (treeS _).mono ((treeS _).frame hrep fun b hb => (HB23.out.trans (hW.mono HB23.out.size)).block b hb.2) fun b hb => hb.2⟩ : NodeAt w2.heap.size xs.length W #[.string T.label, .string T.text, .slice aa T.attrs.length ca, .slice ka T.kids.length ck] T))
  have HTREP := Sp.hid (fun W (hW : Below w3.heap.size w3 W) => (treeS _).mono (G := (· < W.heap.size)) ((treeS _).frame (w' := W) hrep fun b hb => (HB23.out.trans (hW.mono HB23.out.size)).block b hb.2) fun b hb => by have := hb.2; have := hW.size; omega)
  have hthin := thin_rep hrep
  have HTHIN := Sp.hid hthin
  have HFW := Sp.hid (HFEWF.out rfl)
  obtain ⟨hform, hsteps⟩ := raw_tree hpar hnames
  have hrc : refCheckM xs = checkM xs.length T := by
    conv => lhs; rw [← hsteps]
    exact ref_check hform
  have htx : ∀ t ∈ nodesM xs.length T, t.text.size ≤ 100 := raw_texts hform (fun s hs => by rw [hsteps] at hs; exact (HFW.out.2 s hs).2)
  have HRC0 := Sp.hid hrc
  have HTX := Sp.hid htx
  clear hrep hrep' hd d HRW hpar hnames hform hsteps hrc htx hthin HFEWF
  go_wp2_with fail
  refine HSML.out.mono ?_
  rintro e w5 ⟨sm, rfl, hsm, hb5⟩
  clear c0
  have HSMF := Sp.hid hsm
  have hs5 := hb5.size
  have HB35 := Sp.hid hb5
  have hbw5 : Below w.heap.size w w5 := HB3.out.trans (hb5.mono (by omega))
  have HB5 := Sp.hid hbw5
  have HPB5 := Sp.hid ((hb5.block _ (by omega)).trans HT3.out)
  have c0 : w5.cell? ⟨w.heap.size, 0, none⟩ = some (.slice sa steps.length sc) := cell_at HPB5.out 0
  clear hb5 hbw5 hsm
  cases sm
  · skip
    have HAW := Sp.hid (awake16_any w5 (HSP.out w5 HB5.out))
    have HBA := Sp.hid HB5.out
    go_wp2_with fail
    refine HAW.out.mono ?_
    rintro e wz ⟨rfl, hbz⟩
    have HBZ := Sp.hid (HBA.out.trans (hbz.mono HBA.out.size))
    clear hbz
    go_wp2
    go_ret
    exact ⟨rfl, HBZ.out⟩
  have HSM := Sp.hid (HSMF.out rfl)
  clear HSMF
  have HTR5 := Sp.hid ((HB35.out.block _ (by omega)).trans HTR3.out)
  obtain ⟨t0, t1, t2, t3⟩ := cells4_at HTR5.out
  have HSEL := Sp.hid (select_any xs.length (by omega) w2.heap.size _ T steps sa sc w5 (HND.out w5 HB35.out) ((HSL.out w5 HB5.out).mono fun k hk => by have : k < w.heap.size := hk; show k < w2.heap.size; omega) (by omega) hsc hst (HSP.out w5 HB5.out))
  go_wp2_with fail
  refine HSEL.out.mono ?_
  rintro e w6 ⟨hb6, hpost⟩
  clear c0 t0 t1 t2 t3
  have hs6 := hb6.size
  have HB56 := Sp.hid hb6
  have HB6 := Sp.hid (HB5.out.trans (hb6.mono HB5.out.size) : Below w.heap.size w w6)
  have HB36 := Sp.hid (HB35.out.trans (hb6.mono HB35.out.size) : Below w3.heap.size w3 w6)
  have HPB6 := Sp.hid ((hb6.block _ (by omega)).trans HPB5.out)
  have HTR6 := Sp.hid ((hb6.block _ (by omega)).trans HTR5.out)
  have HVALS := Sp.hid (values_any xs.length (by omega) w2.heap.size _ T steps sa sc w6 (HND.out w6 HB36.out) ((HSL.out w6 HB6.out).mono fun k hk => by have : k < w.heap.size := hk; show k < w2.heap.size; omega) (by omega) hsc hst (HSP.out w6 HB6.out) (fun _ t ht => by have := HTX.out t ht; omega))
  have c0 : w6.cell? ⟨w.heap.size, 0, none⟩ = some (.slice sa steps.length sc) := cell_at HPB6.out 0
  obtain ⟨t0, t1, t2, t3⟩ := cells4_at HTR6.out
  have HXPOS := Sp.hid hxpos
  clear hb6 HSEL
  rcases hpost with ⟨h0, rfl⟩ | ⟨h0, h1, rfl⟩ | ⟨h0, h1, ha, hc, rfl, hsA⟩
  · obtain ⟨ct, hct⟩ : ∃ ct, ct = checkM xs.length T := ⟨_, rfl⟩
    have HH0 := Sp.hid h0
    have HRC := Sp.hid (HRC0.out.trans hct.symm)
    have HCT := Sp.hid hct
    rw [← hct] at h0 ⊢
    have h0' : (ct != 0) = true := by simpa using h0
    have h0'' : (ct == 0) = false := by simpa using h0
    clear hct h0
    go_wp2_with fail
    refine HVALS.out.mono ?_
    intro e w7 hpost
    obtain ⟨hb7, rfl⟩ := val_bad HH0.out hpost
    rw [← HCT.out]
    clear hpost c0 t0 t1 t2 t3
    have HB67 := Sp.hid hb7
    clear hb7
    have HBL := Sp.hid (HB67.out : Below w6.heap.size w6 w7)
    have HPL := Sp.hid (law4Plain_any (· < w7.heap.size) xs a cap w7 (HXS.out w7 (HB6.out.trans (HBL.out.mono HB6.out.size))) (fun k h => h) hxl)
    go_wp2_with fail
    refine HPL.out.mono ?_
    rintro e wp ⟨hbp, pb, pd, rfl, hps⟩
    have HBP := Sp.hid (HBL.out.trans (hbp.mono HBL.out.size))
    have HPW := Sp.hid hbp
    have HCK := Sp.hid (refCheck_any _ xs hxl hxpos pb pd wp hps (fun k h => h.2) (fun s hs => by have := (HFW.out.2 s hs).2; omega))
    rw [HRC.out] at HCK
    clear hbp hps
    go_wp2_with fail
    refine HCK.out.mono ?_
    rintro e wq ⟨rfl, hbq⟩
    have HBQ := Sp.hid (HBP.out.trans (hbq.mono HBP.out.size))
    have HQW := Sp.hid (HPW.out.trans (hbq.mono HPW.out.size))
    clear hbq HPL HCK
    have HAW := Sp.hid (awake16_any wq (HSP.out wq (HB6.out.trans (HBQ.out.mono HB6.out.size))))
    have HBA := Sp.hid (HB6.out.trans (HBQ.out.mono HB6.out.size))
    go_wp2_with fail
    refine HAW.out.mono ?_
    rintro e wz ⟨rfl, hbz⟩
    have HBZ := Sp.hid (HBA.out.trans (hbz.mono HBA.out.size))
    clear hbz
    go_wp2
    go_ret
    exact ⟨rfl, HBZ.out⟩
  · obtain ⟨cp, hcp⟩ : ∃ cp, cp = pcheckM steps := ⟨_, rfl⟩
    have HH0 := Sp.hid h0
    have HH1 := Sp.hid h1
    have HRC := Sp.hid (HRC0.out.trans h0)
    have HRP := Sp.hid hcp.symm
    rw [← hcp] at h1 ⊢
    have h1' : (cp != 0) = true := by simpa using h1
    have h1'' : (cp == 0) = false := by simpa using h1
    clear hcp h0 h1
    go_wp2_with fail
    refine HVALS.out.mono ?_
    intro e w7 hpost
    obtain ⟨hb7, rfl⟩ := val_badp HH0.out HH1.out hpost
    rw [HRP.out]
    clear hpost c0 t0 t1 t2 t3
    have HB67 := Sp.hid hb7
    clear hb7
    have HBL := Sp.hid (HB67.out : Below w6.heap.size w6 w7)
    have HPL := Sp.hid (law4Plain_any (· < w7.heap.size) xs a cap w7 (HXS.out w7 (HB6.out.trans (HBL.out.mono HB6.out.size))) (fun k h => h) hxl)
    go_wp2_with fail
    refine HPL.out.mono ?_
    rintro e wp ⟨hbp, pb, pd, rfl, hps⟩
    have HBP := Sp.hid (HBL.out.trans (hbp.mono HBL.out.size))
    have HPW := Sp.hid hbp
    have HCK := Sp.hid (refCheck_any _ xs hxl hxpos pb pd wp hps (fun k h => h.2) (fun s hs => by have := (HFW.out.2 s hs).2; omega))
    rw [HRC.out] at HCK
    clear hbp hps
    go_wp2_with fail
    refine HCK.out.mono ?_
    rintro e wq ⟨rfl, hbq⟩
    have HBQ := Sp.hid (HBP.out.trans (hbq.mono HBP.out.size))
    have HQW := Sp.hid (HPW.out.trans (hbq.mono HPW.out.size))
    clear hbq HPL HCK
    have hq6 := HBQ.out.size
    have c0 : wq.cell? ⟨w.heap.size, 0, none⟩ = some (.slice sa steps.length sc) := cell_at ((HBQ.out.block _ (by omega)).trans HPB6.out) 0
    have HPL2 := Sp.hid (plain_any (· < w.heap.size) steps sa sc wq (HSL.out wq (HB6.out.trans (HBQ.out.mono HB6.out.size))) (fun k h => by have : k < w.heap.size := h; omega) (by have := HSM.out.1; omega) (fun s hs => by have := (HSM.out.2 s hs).1; omega))
    go_wp2_with fail
    refine HPL2.out.mono ?_
    rintro e wp2 ⟨hbp, pb2, pd2, rfl, hps⟩
    clear c0
    have HBP2 := Sp.hid (HBQ.out.trans (hbp.mono HBQ.out.size))
    have HPW2 := Sp.hid hbp
    have HCK2 := Sp.hid (refPCheck_any _ steps pb2 pd2 wp2 hps (fun k h => h.2) (by have := HSM.out.1; omega) (fun s hs => by have := (HSM.out.2 s hs).1; omega) (fun s hs q hq => by have := (HSM.out.2 s hs).2 q hq; omega))
    rw [HRP.out] at HCK2
    clear hbp hps
    go_wp2_with fail
    refine HCK2.out.mono ?_
    rintro e wq2 ⟨rfl, hbq⟩
    have HBQ2 := Sp.hid (HBP2.out.trans (hbq.mono HBP2.out.size))
    have HQW2 := Sp.hid (HPW2.out.trans (hbq.mono HPW2.out.size))
    clear hbq HPL2 HCK2
    have HAW := Sp.hid (awake16_any wq2 (HSP.out wq2 (HB6.out.trans (HBQ2.out.mono HB6.out.size))))
    have HBA := Sp.hid (HB6.out.trans (HBQ2.out.mono HB6.out.size))
    go_wp2_with fail
    refine HAW.out.mono ?_
    rintro e wz ⟨rfl, hbz⟩
    have HBZ := Sp.hid (HBA.out.trans (hbz.mono HBA.out.size))
    clear hbz
    go_wp2
    go_ret
    exact ⟨rfl, HBZ.out⟩
  · have HH0 := Sp.hid h0
    have HH1 := Sp.hid h1
    have HRC := Sp.hid (HRC0.out.trans h0)
    have HRP := Sp.hid h1
    obtain ⟨R, hR⟩ : ∃ R, R = selM steps [([], T, (⟨#[]⟩ : ByteArray))] := ⟨_, rfl⟩
    have hlead : leadM steps ([], T) = R.map projR := by
      rw [hR]
      have h := sel_lead h1 T steps.length (Nat.le_refl _)
      rw [List.take_length] at h
      exact h.symm
    have hvals : valuesM xs.length T (leadM steps ([], T)) = R.map (fun x => rvalM xs.length x.2.1 x.2.2) := by
      rw [hlead]
      unfold valuesM
      rw [List.map_map]
      refine List.map_congr_left fun x hx => ?_
      rw [hR] at hx
      exact (sel_vals h1 h0 HTHIN.out HTX.out x hx).1
    have hrtx : ∀ x ∈ R, (rtextM xs.length x.2.1).length ≤ 1048576 := fun x hx => by
      rw [hR] at hx
      exact (sel_vals h1 h0 HTHIN.out HTX.out x hx).2
    have hal32 : ∀ x ∈ R, x.1.length ≤ 32 := fun x hx => by
      have hm : projR x ∈ R.map projR := List.mem_map_of_mem hx
      rw [← hlead] at hm
      obtain ⟨_, _, hl⟩ := lead_at steps (T := T) (T0 := T) (ats := []) rfl _ hm
      have := pcheckM_zero h1
      simp at hl
      have h2 : (projR x).1.length = x.1.length := rfl
      omega
    have hll : R.length ≤ 4294967296 := by
      have h := leadM_length rfl steps xs.length [] T HTHIN.out
      rw [hlead, List.length_map] at h
      exact Nat.le_trans h (Nat.mul_le_mul_right 1048576 (checkM_nodes h0))
    have HR := Sp.hid hR
    have HVAL := Sp.hid hvals
    have HRTX := Sp.hid hrtx
    have HAL := Sp.hid hal32
    have HLEAD := Sp.hid hlead
    rw [hlead] at hsA ⊢
    rw [List.length_map]
    have HSA := Sp.hid hsA
    clear h0 h1 hR hlead hvals hrtx hal32 hsA
    go_wp2_with fail
    refine HVALS.out.mono ?_
    intro e w7 hpost
    obtain ⟨hb7, v9, rfl, hown9⟩ := val_good HH0.out HH1.out hpost
    rw [HVAL.out, HLEAD.out, List.length_map] at hown9
    obtain ⟨va, vc, rfl, hvsrc⟩ := vals_src hown9 (by rw [List.length_map])
    have HVS := Sp.hid hvsrc
    have HB67 := Sp.hid hb7
    clear hpost hown9 hvsrc c0 t0 t1 t2 t3 hb7
    have HBL := Sp.hid (HB67.out : Below w6.heap.size w6 w7)
    have HPL := Sp.hid (law4Plain_any (· < w7.heap.size) xs a cap w7 (HXS.out w7 (HB6.out.trans (HBL.out.mono HB6.out.size))) (fun k h => h) hxl)
    go_wp2_with fail
    refine HPL.out.mono ?_
    rintro e wp ⟨hbp, pb, pd, rfl, hps⟩
    have HBP := Sp.hid (HBL.out.trans (hbp.mono HBL.out.size))
    have HPW := Sp.hid hbp
    have HCK := Sp.hid (refCheck_any _ xs hxl hxpos pb pd wp hps (fun k h => h.2) (fun s hs => by have := (HFW.out.2 s hs).2; omega))
    rw [HRC.out] at HCK
    clear hbp hps
    go_wp2_with fail
    refine HCK.out.mono ?_
    rintro e wq ⟨rfl, hbq⟩
    have HBQ := Sp.hid (HBP.out.trans (hbq.mono HBP.out.size))
    have HQW := Sp.hid (HPW.out.trans (hbq.mono HPW.out.size))
    clear hbq HPL HCK
    have hq6 := HBQ.out.size
    have c0 : wq.cell? ⟨w.heap.size, 0, none⟩ = some (.slice sa steps.length sc) := cell_at ((HBQ.out.block _ (by omega)).trans HPB6.out) 0
    have HPL2 := Sp.hid (plain_any (· < w.heap.size) steps sa sc wq (HSL.out wq (HB6.out.trans (HBQ.out.mono HB6.out.size))) (fun k h => by have : k < w.heap.size := h; omega) (by have := HSM.out.1; omega) (fun s hs => by have := (HSM.out.2 s hs).1; omega))
    go_wp2_with fail
    refine HPL2.out.mono ?_
    rintro e wp2 ⟨hbp, pb2, pd2, rfl, hps⟩
    clear c0
    have HBP2 := Sp.hid (HBQ.out.trans (hbp.mono HBQ.out.size))
    have HPW2 := Sp.hid hbp
    have HCK2 := Sp.hid (refPCheck_any _ steps pb2 pd2 wp2 hps (fun k h => h.2) (by have := HSM.out.1; omega) (fun s hs => by have := (HSM.out.2 s hs).1; omega) (fun s hs q hq => by have := (HSM.out.2 s hs).2 q hq; omega))
    rw [HRP.out] at HCK2
    clear hbp hps
    go_wp2_with fail
    refine HCK2.out.mono ?_
    rintro e wq2 ⟨rfl, hbq⟩
    have HBQ2 := Sp.hid (HBP2.out.trans (hbq.mono HBP2.out.size))
    have HQW2 := Sp.hid (HPW2.out.trans (hbq.mono HPW2.out.size))
    clear hbq HPL2 HCK2
    have hq26 := HBQ2.out.size
    have HB72 := Sp.hid (HQW.out.trans (HQW2.out.mono HQW.out.size) : Below w7.heap.size w7 wq2)
    have HCL := Sp.hid (fun Y (hY : Below wq2.heap.size wq2 Y) => And.intro (cell_at (((HBQ2.out.trans (hY.mono hq26)).block _ (by omega)).trans HPB6.out) 0 : Y.cell? ⟨w.heap.size, 0, none⟩ = some (.slice sa steps.length sc)) (cells4_at (((HBQ2.out.trans (hY.mono hq26)).block _ (by omega)).trans HTR6.out)))
    have HPLY := Sp.hid (fun Y (hY : Below wq2.heap.size wq2 Y) => plain_any (· < w.heap.size) steps sa sc Y (HSL.out Y (HB6.out.trans ((HBQ2.out.trans (hY.mono hq26)).mono HB6.out.size))) (fun k h => by have : k < w.heap.size := h; have := hY.size; omega) (by have := HSM.out.1; omega) (fun s hs => by have := (HSM.out.2 s hs).1; omega))
    have HSELY := Sp.hid (fun Y (hY : Below wq2.heap.size wq2 Y) a2 c2 (hs2 : Sl pstepS (· < Y.heap.size) Y a2 steps) => rselect_any xs.length (· < Y.heap.size) T aa ka ca ck steps a2 c2 Y (HTREP.out Y (HB36.out.trans ((HBQ2.out.trans (hY.mono hq26)).mono HB36.out.size))) hs2 (fun b h => h) HH1.out (nodeOk_of HH0.out HTHIN.out))
    go_wp2
    refine Sp.wp_region_facts (by kernel_rfl) [some 75, some 76, some 77, some 78, some 12]
      [fun v _ => v = .agg #[.string T.label, .string T.text, .slice aa T.attrs.length ca, .slice ka T.kids.length ck], fun v _ => v = .agg #[.slice sa steps.length sc],
        fun v x => ∃ a c, v = .slice a steps.length c ∧ Sl pstepS (fun k => k < x.heap.size) x a steps,
        fun v x => ∃ a c, v = .slice a R.length c ∧ Sl (rhitS xs.length) (fun k => k < x.heap.size) x a R,
        fun v x => ∃ a c, v = .slice a R.length c ∧ Sl (rhitS xs.length) (fun k => k < x.heap.size) x a R]
      (fun x => Below wq2.heap.size wq2 x) (fun _ x y => Below x.heap.size x y) rfl (by kernel_rfl) (by kernel_rfl) (by kernel_rfl) ?fr ?hfr ?G0 ?GR ?FR ?step ?fin
    case hfr => intro u; simp only [Sp.fillFrom, Sp.idx_cons, Sp.idx_nil, Option.some.injEq, reduceCtorEq, reduceIte, Nat.reduceEqDiff, Nat.reduceAdd, Option.map_some, Option.map_none]; exact rfl
    case G0 => exact (Below.refl _ _).drew
    case GR => exact fun _ _ _ hG hR => hG.trans (hR.mono hG.size)
    case FR =>
      iterate 2 (refine ⟨fun _ _ _ _ _ _ _ h => h, ?_⟩)
      refine ⟨?_, ?_, ?_, trivial⟩
      · rintro i _ v x y _ hR ⟨a, c, e, h⟩; exact ⟨a, c, e, psteps_grow hR h⟩
      · rintro i _ v x y _ hR ⟨a, c, e, h⟩; exact ⟨a, c, e, rhits_grow hR h⟩
      · rintro i _ v x y _ hR ⟨a, c, e, h⟩; exact ⟨a, c, e, rhits_grow hR h⟩
    case step =>
      refine ⟨?_, ?_, ?_, ?_, ?_, trivial⟩
      · intro u x hG hD
        simp only [Sp.DepsHold, Sp.factAt, Region.binds, List.getElem?_cons_zero, List.getElem?_cons_succ, Option.getD_some, and_true, true_implies] at hD
        dsimp only
        obtain ⟨c0, t0, t1, t2, t3⟩ := HCL.out x hG
        clear hG
        repeat (obtain ⟨hE, hD⟩ := hD; (try rw [hE]); clear hE)
        try rw [hD]
        try clear hD
        go_wp2
        (with_reducible apply Sp.rd_close)
        · exact Below.refl _ _
        · exact rfl
        · exact rfl
      · intro u x hG hD
        simp only [Sp.DepsHold, Sp.factAt, Region.binds, List.getElem?_cons_zero, List.getElem?_cons_succ, Option.getD_some, and_true, true_implies] at hD
        dsimp only
        obtain ⟨c0, t0, t1, t2, t3⟩ := HCL.out x hG
        clear hG
        repeat (obtain ⟨hE, hD⟩ := hD; (try rw [hE]); clear hE)
        try rw [hD]
        try clear hD
        go_wp2
        (with_reducible apply Sp.rd_close)
        · exact Below.refl _ _
        · exact rfl
        · exact rfl
      · intro u x hG hD
        simp only [Sp.DepsHold, Sp.factAt, Region.binds, List.getElem?_cons_zero, List.getElem?_cons_succ, Option.getD_some, and_true, true_implies] at hD
        dsimp only
        rw [hD]
        have HP := Sp.hid (HPLY.out x hG)
        clear hG hD
        go_wp2_with fail
        refine HP.out.mono ?_
        rintro e x2 ⟨hb2, a2, c2, rfl, hs2⟩
        have HB := Sp.hid hb2
        have HS := Sp.hid (hs2.mono (G := (· < x2.heap.size)) fun k h => h.2)
        clear hb2 hs2
        go_wp2
        (with_reducible apply Sp.rd_close)
        · exact HB.out
        · exact rfl
        · exact ⟨a2, c2, rfl, HS.out⟩
      · intro u x hG hD
        simp only [Sp.DepsHold, Sp.any_text, Sp.any_gc, Bool.false_eq_true, false_implies, Sp.factAt, Region.binds, List.getElem?_cons_zero, List.getElem?_cons_succ, Option.getD_some, and_true, true_implies] at hD
        dsimp only
        obtain ⟨h0, ⟨a2, c2, hE, hs2⟩, -⟩ := hD
        rw [h0, hE]
        have HP := Sp.hid (HSELY.out x hG a2 c2 hs2)
        clear hG h0 hE hs2
        go_wp2_with fail
        refine HP.out.mono ?_
        rintro e x2 ⟨v', L, rfl, hL, hmap, hb2⟩
        obtain ⟨a3, c3, rfl, hs3⟩ := hits_sl hL (fun b hb => by have : b < x.heap.size := hb; have := hb2.size; omega)
        rw [hmap, ← HR.out] at hs3 ⊢
        have HB := Sp.hid hb2
        have HS := Sp.hid hs3
        clear hb2 hs3 hL hmap
        go_wp2
        (with_reducible apply Sp.rd_close)
        · exact HB.out
        · exact rfl
        · exact ⟨a3, c3, rfl, HS.out⟩
      · intro u x hG hD
        simp only [Sp.DepsHold, Sp.any_text, Sp.any_gc, Bool.false_eq_true, false_implies, Sp.factAt, Region.binds, List.getElem?_cons_zero, List.getElem?_cons_succ, Option.getD_some, and_true, true_implies] at hD
        dsimp only
        obtain ⟨⟨a2, c2, hE, hs2⟩, -⟩ := hD
        rw [hE]
        have HS := Sp.hid hs2
        clear hG hE hs2
        go_wp2
        (with_reducible apply Sp.rd_close)
        · exact Below.refl _ _
        · exact rfl
        · exact ⟨a2, c2, rfl, HS.out⟩
    case fin =>
      intro u w9 hG hF
      simp only [Sp.AllF, and_true] at hF; (try dsimp only); generalize u 0 = u0 at *; generalize u 1 = u1 at *; generalize u 2 = u2 at *; generalize u 3 = u3 at *; generalize u 4 = u4 at *; clear u
      obtain ⟨-, -, -, -, xa, xc, hE, hsX⟩ := hF
      rw [hE]
      have HB69 := Sp.hid (HBQ2.out.trans (hG.mono hq26) : Below w6.heap.size w6 w9)
      have HB79 := Sp.hid (HB72.out.trans (hG.mono HB72.out.size) : Below w7.heap.size w7 w9)
      have HX9 := Sp.hid hsX
      clear hG hsX hE HCL HPLY HSELY
      go_wp2
      go_loopw [13] (fun i wr => ∃ k : Nat, k ≤ R.length ∧ i = .int .i64 k ∧ Below w9.heap.size w9 wr) (fun i _ => R.length - (intOf i).toNat)
      case atStart => exact ⟨0, Nat.zero_le _, rfl, Below.refl _ _⟩
      case round =>
        obtain ⟨k, hk, rfl, hb⟩ := hrel
        have hsw := hb.size
        have HB9 := Sp.hid hb
        have hb6r := HB69.out.trans (hb.mono HB69.out.size)
        have hb7r := HB79.out.trans (hb.mono HB79.out.size)
        have HB6R := Sp.hid hb6r
        have HSLR := Sp.hid (HB6.out.trans (hb6r.mono HB6.out.size))
        by_cases hlt : k < R.length
        · have hltm : k < (R.map projR).length := by rw [List.length_map]; exact hlt
          have hltv : k < (R.map fun x => rvalM xs.length x.2.1 x.2.2).length := by rw [List.length_map]; exact hlt
          obtain ⟨hb0, ho0, hva, hvc, rfl, f0, hv0, a0, a1⟩ := hit_cells (HSA.out.frame (w' := wr) fun b hb' => hb6r.block b hb') k hltm
          obtain ⟨gv, rfl, hgv, v0⟩ := HVS.out k hltv
          obtain ⟨xb, xo, xva, xvc, xaa, xca, xka, xck, rfl, f1, hxv, hxt, x0, x1, x2, x3, x4, x5⟩ := rhit_cells (HX9.out.frame (w' := wr) fun b hb' => hb.block b hb') k hlt
          have v0r := (hb7r.cell (p := ⟨gv, k, none⟩) hgv).trans v0
          have hrt := HRTX.out _ (List.getElem_mem hlt)
          have hal := HAL.out _ (List.getElem_mem hlt)
          have hm1 : (R.map projR)[k] = (R[k].1, R[k].2.2) := by rw [List.getElem_map]; rfl
          have hm2 : (R.map fun x => rvalM xs.length x.2.1 x.2.2)[k] = rvalM xs.length R[k].2.1 R[k].2.2 := by rw [List.getElem_map]
          rw [hm1] at hv0 a0 a1
          rw [hm2] at v0r
          obtain ⟨x, hx⟩ : ∃ x, x = R[k] := ⟨_, rfl⟩
          rw [← hx] at hv0 a0 a1 v0r hxv hxt x0 x1 x2 x3 x4 x5 hrt hal
          obtain ⟨xat, xT, xn⟩ := x
          dsimp only at hv0 a0 a1 v0r hxv hxt x0 x1 x2 x3 x4 x5 hrt hal
          obtain ⟨rv, hrv⟩ : ∃ rv, rv = rvalM xs.length xT xn := ⟨_, rfl⟩
          rw [← hrv] at v0r
          have hbl0 := World.block_lt_of_cell? _ _ a0
          have hbl1 := World.block_lt_of_cell? _ _ v0r
          have hbl2 := World.block_lt_of_cell? _ _ x0
          dsimp only at hbl0 hbl1 hbl2
          have HC := Sp.hid (fun W (hG : Below wr.heap.size wr W) => And.intro (And.intro ((hG.cell (p := ⟨hb0, ho0 + k * 2, none⟩) hbl0).trans a0) (And.intro ((hG.cell (p := ⟨hb0, ho0 + k * 2 + 1, none⟩) hbl0).trans a1) ((hG.cell (p := ⟨gv, k, none⟩) hbl1).trans v0r))) (And.intro ((hG.cell (p := ⟨xb, xo + k * 6, none⟩) hbl2).trans x0) (And.intro ((hG.cell (p := ⟨xb, xo + k * 6 + 1, none⟩) hbl2).trans x1) (And.intro ((hG.cell (p := ⟨xb, xo + k * 6 + 2, none⟩) hbl2).trans x2) (And.intro ((hG.cell (p := ⟨xb, xo + k * 6 + 3, none⟩) hbl2).trans x3) (And.intro ((hG.cell (p := ⟨xb, xo + k * 6 + 4, none⟩) hbl2).trans x4) ((hG.cell (p := ⟨xb, xo + k * 6 + 5, none⟩) hbl2).trans x5)))))))
          have HIN := Sp.hid (fun W (hG : Below wr.heap.size wr W) => ints16_any (· < w6.heap.size) (· < w9.heap.size) hva xva hvc xvc xat xat W (hv0.frame fun b hb' => hG.block b (by have := hb6r.size; omega)) (hxv.frame fun b hb' => hG.block b (by omega)) (fun k h => by have : k < w6.heap.size := h; have := hG.size; have := hb6r.size; omega) (fun k h => by have : k < w9.heap.size := h; have := hG.size; omega) (by omega) (by omega))
          simp only [decide_true] at HIN
          have HVL := Sp.hid (fun W (hG : Below wr.heap.size wr W) => rvalue_any xs.length (· < w9.heap.size) xT xn xva xat.length xvc xaa xka xca xck W ((treeS _).frame hxt fun b hb' => hG.block b (by omega)) (fun k h => by have : k < w9.heap.size := h; have := hG.size; omega) hrt)
          rw [← hrv] at HVL
          have n1 : (xn.toList != xn.toList) = false := by simp
          have n2 : (rv.toList != rv.toList) = false := by simp
          clear f0 f1 hv0 hxv hxt a0 a1 v0 v0r x0 x1 x2 x3 x4 x5 hrt hal hm1 hm2 hx hrv hb hb6r hb7r hltm hltv hgv
          go_wp2
          refine Sp.wp_region_read (by kernel_rfl) [some 105, some 106, some 107, some 108, some 109, some 110, some 111, some 112, some 113, some 114, some 115, some 116, some 117, some 118, some 119, some 120, some 121, some 122, some 123, some 124, some 125, some 126, some 127, some 128, some 129, some 130, some 131, some 132, some 133, some 134, some 135, some 136, some 137, some 138, some 139, some 140, some 141] [?r1v0, ?r1v1, ?r1v2, ?r1v3, ?r1v4, ?r1v5, ?r1v6, ?r1v7, ?r1v8, ?r1v9, ?r1v10, ?r1v11, ?r1v12, ?r1v13, ?r1v14, ?r1v15, ?r1v16, ?r1v17, ?r1v18, ?r1v19, ?r1v20, ?r1v21, ?r1v22, ?r1v23, ?r1v24, ?r1v25, ?r1v26, ?r1v27, ?r1v28, ?r1v29, ?r1v30, ?r1v31, ?r1v32, ?r1v33, ?r1v34, ?r1v35, ?r1v36] rfl (by kernel_rfl) (by kernel_rfl) (by kernel_rfl) ?r1fr ?r1hfr ?r1step ?r1fin
          case r1hfr => intro u; simp only [Sp.fillFrom, Sp.idx_cons, Sp.idx_nil, Option.some.injEq, reduceCtorEq, reduceIte, Nat.reduceEqDiff, Nat.reduceAdd, Option.map_some, Option.map_none]; exact rfl
          case r1step =>
            refine ⟨?_, ?_, ?_, ?_, ?_, ?_, ?_, ?_, ?_, ?_, ?_, ?_, ?_, ?_, ?_, ?_, ?_, ?_, ?_, ?_, ?_, ?_, ?_, ?_, ?_, ?_, ?_, ?_, ?_, ?_, ?_, ?_, ?_, ?_, ?_, ?_, ?_, trivial⟩
            all_goals
              intro u w1 hG hD; simp only [Sp.DepsHold, List.map_cons, List.map_nil, Sp.isV, Sp.any_text, Sp.any_gc, Bool.false_eq_true, false_implies, Sp.factAt, Region.binds, List.getElem?_cons_zero, List.getElem?_cons_succ, List.getElem?_nil, Option.getD_some, Option.getD_none, and_true, true_and, true_implies, implies_true] at hD; dsimp only
              have HG1 := Sp.hid hG; obtain ⟨⟨a0, a1, v0⟩, x0, x1, x2, x3, x4, x5⟩ := HC.out w1 hG
              clear hG
              repeat (obtain ⟨hE, hD⟩ := hD; (try rw [hE]); clear hE)
              try rw [hD]
              try clear hD
              go_wp2_with (first | (go_at_call 16; refine (HIN.out _ HG1.out).mono ?_; rintro e w2 ⟨rfl, hb2⟩; have HB2 := Sp.hid hb2; clear hb2) | (go_at_call 17; refine (HVL.out _ HG1.out).mono ?_; rintro e w2 ⟨rfl, hb2⟩; have HB2 := Sp.hid hb2; clear hb2))
              (with_reducible apply Sp.rd_close); (first | exact HB2.out | exact Below.refl _ _); exact rfl; refine Sp.isV_at ?_; exact rfl
          case r1fin => 
            intro w' hG; simp only [List.getElem?_cons_zero, List.getElem?_cons_succ, Option.getD_some]
            have HG2 := Sp.hid (HB9.out.trans (hG.mono hsw))
            clear hG
            go_wp2
            go_roundw
            case rel => exact ⟨k + 1, by omega, by go_num, HG2.out⟩
            case measure => simp [intOf]; omega
        · obtain rfl : k = R.length := by omega
          clear hb hb6r hb7r
          have HAW := Sp.hid (awake16_any wr (HSP.out wr HSLR.out))
          have HBA := Sp.hid HSLR.out
          go_wp2_with fail
          refine HAW.out.mono ?_
          rintro e wz ⟨rfl, hbz⟩
          have HBZ := Sp.hid (HBA.out.trans (hbz.mono HBA.out.size))
          clear hbz
          go_wp2
          go_ret
          exact ⟨rfl, HBZ.out⟩

end Go.Proofs.YtoknglpfchjbjaaGreatDoor
