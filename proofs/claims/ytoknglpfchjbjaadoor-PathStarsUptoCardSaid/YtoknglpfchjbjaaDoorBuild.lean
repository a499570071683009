/- tree.Build: it ends; where it tells no error the tree is whole and nothing is wrong with it. Conditions: no more than 10^6 steps, the table of spans as laid. -/
import Derived.Test.YtoknglpfchjbjaaDoorStack
import Derived.Test.YtoknglpfchjbjaaDoorFit
import Derived.Test.YtoknglpfchjbjaaDoorCheck
import Derived.Test.YtoknglpfchjbjaaDoorAppAt
namespace Go.Proofs.YtoknglpfchjbjaaDoor
open Go.RowKit Go.Sp Go.Maps

abbrev z4a : Array Value := #[.string ⟨#[]⟩, .string ⟨#[]⟩, .slice none 0 0, .slice none 0 0]
/-- What a call of Build leaves. -/
def BuildPost (n : Nat) (w : World) (e : Ending) (w' : World) : Prop :=
  Below w.heap.size w w' ∧ ((∃ c : Int, c ≠ 0 ∧ e = .returned (.tuple #[.agg z4a, .int .i64 c])) ∨ ∃ vs T, e = .returned (.tuple #[.agg vs, .int .i64 0]) ∧ NodeAt w'.heap.size (n + 1) w' vs T ∧ checkM (n + 1) T = 0)

theorem infoAttr : (Tryd.prog.info? 36).map (fun i => (i.zero, i.size, i.bytes)) = some (some (.agg #[.string ⟨#[]⟩, .string ⟨#[]⟩]), 2, 32) := by kernel_rfl

theorem news2' (w : World) (a b : Value) (z : Nat) (h0 : w.cell? ⟨z, 0, none⟩ = some a) (h1 : w.cell? ⟨z, 1, none⟩ = some b) : ∀ j u, [a, b][j]? = some u → w.cell? ((⟨z, 0, none⟩ : Addr).add j) = some u := by
  intro j u hj
  have hadd : (⟨z, 0, none⟩ : Addr).add j = ⟨z, j, none⟩ := by unfold Addr.add; split <;> simp_all
  rw [hadd]
  match j with
  | 0 => simp at hj; rw [h0, hj]
  | 1 => simp at hj; rw [h1, hj]
  | j + 2 => simp at hj

theorem news4 (w : World) (a b c d : Value) (t : TypeId) : ∀ j u, [a, b, c, d][j]? = some u → (w.alloc (.cells #[a, b, c, d] t)).cell? ((⟨w.heap.size, 0, none⟩ : Addr).add j) = some u := by
  intro j u hj
  have hadd : (⟨w.heap.size, 0, none⟩ : Addr).add j = ⟨w.heap.size, j, none⟩ := by unfold Addr.add; split <;> simp_all
  rw [hadd, World.cell?_alloc_new]
  simpa using hj

set_option maxRecDepth 100000 in
set_option maxHeartbeats 32000000 in
theorem build_any (F : Nat → Prop) (a : Option Addr) (cap : Nat) (xs : List Stp) (w : World) (hxs : Sl stpS F w a xs) (hF : ∀ k, F k → k < w.heap.size) (hlen : xs.length ≤ 1048576) (hsp : SpansAt w) :
    Calls Tryd.prog 7 #[.slice a xs.length cap] w (BuildPost xs.length w) := by
  have HX := Sp.hid hxs
  have HF := Sp.hid hF
  have HSP := Sp.hid hsp
  clear hxs hF hsp
  obtain ⟨w1, hw1⟩ : ∃ w1, w1 = w.alloc (.cells z4a 27) := ⟨_, rfl⟩
  have hs1 : w.heap.size + 1 ≤ w1.heap.size := by rw [hw1]; simp
  have hb1 : Below w.heap.size w w1 := by rw [hw1]; exact (Below.refl _ _).alloc (Nat.le_refl _) _
  have hr1 : w1.heap[w.heap.size]? = some (.cells z4a 27 (0, 0)) := by rw [hw1]; exact heap_alloc_new _ _
  have HB1 := Sp.hid hb1
  have HR1 := Sp.hid hr1
  have HW1 := Sp.hid hw1
  clear hb1 hr1 hw1
  go_enter Tryd.func7, Tryd.ntmps7
  go_wp2
  rw [← HW1.out]
  go_loopw [4, 13] (fun vo i wr => ∃ (k : Nat) (es : List Nd), k ≤ xs.length ∧ i = .int .i64 k ∧ Stk w1.heap.size k wr vo es ∧ Below w1.heap.size w1 wr) (fun _ i _ => xs.length - (intOf i).toNat)
  case atStart => exact ⟨0, [], Nat.zero_le _, rfl, Stk.start _ _, Below.refl _ _⟩
  case round =>
    obtain ⟨k, es, hk, rfl, hstk, hb⟩ := hrel
    have hsw := hb.size
    have HSTK := Sp.hid hstk
    have HB := Sp.hid hb
    by_cases hlt : k < xs.length
    · obtain ⟨b, o, rfl, fb, sn, st, e1, e2, e3⟩ := stp_cells HX.out k hlt
      have hbw : b < w.heap.size := HF.out b fb
      have hbw1 : Below w.heap.size w wr := HB1.out.trans (hb.mono (by omega))
      rw [← hbw1.cell (p := ⟨b, _, none⟩) hbw] at e1 e2 e3
      obtain ⟨s, hs⟩ : ∃ s, s = xs[k] := ⟨_, rfl⟩
      rw [← hs] at e1 e2 e3 sn st
      obtain ⟨w2, hw2⟩ : ∃ w2, w2 = (wr.alloc (.cells #[.int .i64 s.kind, .string s.name, .string s.text] 64)).alloc (.cells z4a 27) := ⟨_, rfl⟩
      have hb2 : Below wr.heap.size wr w2 := by rw [hw2]; exact ((Below.refl _ _).alloc (Nat.le_refl _) _).alloc (by simp) _
      have hs2 : wr.heap.size + 2 ≤ w2.heap.size := by rw [hw2]; simp
      have hS2 : w2.heap[wr.heap.size]? = some (.cells #[.int .i64 s.kind, .string s.name, .string s.text] 64 (0, 0)) := by rw [hw2]; exact (Below.heap_alloc _ _ _ (by simp)).trans (heap_alloc_new _ _)
      have hD2 : w2.heap[wr.heap.size + 1]? = some (.cells z4a 27 (0, 0)) := by
        rw [hw2]; have := heap_alloc_new (wr.alloc (.cells #[.int .i64 s.kind, .string s.name, .string s.text] 64)) (.cells z4a 27); simpa using this
      have HB2 := Sp.hid hb2
      have HS2 := Sp.hid hS2
      have HD2 := Sp.hid hD2
      have HW2 := Sp.hid hw2
      have HSN := Sp.hid sn
      have HST := Sp.hid st
      clear hb2 hS2 hD2 hw2 hs hb hstk hbw1 sn st
      go_wp2_with fail
      rw [← HW2.out]
      refine (fit_any _ _ _ _).mono ?_
      rintro e w3 ⟨rfl, hb3⟩
      rename_i K3 h3 K2 h2 K1 h1 K0 h0
      have TAIL : ∀ (v3 v6 v8 v9 v10 v14 v15 v16 v17 v18 v19 v20 v21 v22 v23 v24 v25 v26 v27 v28 v29 v30 v31 v32 v33 v34 v35 v36 v37 v38 v39 v40 v41 v42 v43 v44 v45 v46 v47 v48 v49 v50 v51 v52 v53 v54 v55 v56 v57 v58 v59 v60 v61 v62 v63 v64 v65 v66 v67 v68 v69 v70 v71 v72 v73 v74 v75 v76 v77 v78 v79 v80 v81 v82 v83 v84 v85 v86 v87 v88 v89 v90 v91 v92 v93 v94 v95 v96 v97 v98 v99 v100 v101 v102 v103 v104 v105 v106 v107 v108 v109 v110 v111 v112 v113 v114 v115 v116 v117 v118 vo' : Value) (es' : List Nd) (T : TT) (aa ka : Option Addr) (ca ck : Nat) (W : World), Stk w1.heap.size k W vo' es' →
          (treeS (k + 1)).rep (Dead w1.heap.size W (live vo' es')) W [.string T.label, .string T.text, .slice aa T.attrs.length ca, .slice ka T.kids.length ck] T → W.heap[wr.heap.size + 1]? = some (.cells #[.string T.label, .string T.text, .slice aa T.attrs.length ca, .slice ka T.kids.length ck] 27 (0, 0)) → wr.heap.size + 1 ∉ live vo' es' → Below wr.heap.size wr W →
          K2 ⟨#[.slice (some ⟨b, o, none⟩) xs.length cap, undef, .pointer (some ⟨w.heap.size, 0, none⟩), v3, vo', .int .i64 (k : Nat), v6, .pointer (some ⟨wr.heap.size + 1, 0, none⟩), v8, v9, v10, .slice (some ⟨b, o, none⟩) xs.length cap, .int .i64 (xs.length : Nat), .int .i64 (k : Nat), v14, v15, v16, v17, v18, v19, v20, v21, v22, v23, v24, v25, v26, v27, v28, v29, v30, v31, v32, v33, v34, v35, v36, v37, v38, v39, v40, v41, v42, v43, v44, v45, v46, v47, v48, v49, v50, v51, v52, v53, v54, v55, v56, v57, v58, v59, v60, v61, v62, v63, v64, v65, v66, v67, v68, v69, v70, v71, v72, v73, v74, v75, v76, v77, v78, v79, v80, v81, v82, v83, v84, v85, v86, v87, v88, v89, v90, v91, v92, v93, v94, v95, v96, v97, v98, v99, v100, v101, v102, v103, v104, v105, v106, v107, v108, v109, v110, v111, v112, v113, v114, v115, v116, v117, v118, undef], []⟩ W := by
        intro v3 v6 v8 v9 v10 v14 v15 v16 v17 v18 v19 v20 v21 v22 v23 v24 v25 v26 v27 v28 v29 v30 v31 v32 v33 v34 v35 v36 v37 v38 v39 v40 v41 v42 v43 v44 v45 v46 v47 v48 v49 v50 v51 v52 v53 v54 v55 v56 v57 v58 v59 v60 v61 v62 v63 v64 v65 v66 v67 v68 v69 v70 v71 v72 v73 v74 v75 v76 v77 v78 v79 v80 v81 v82 v83 v84 v85 v86 v87 v88 v89 v90 v91 v92 v93 v94 v95 v96 v97 v98 v99 v100 v101 v102 v103 v104 v105 v106 v107 v108 v109 v110 v111 v112 v113 v114 v115 v116 v117 v118 vo' es' T aa ka ca ck W hstk hrep hD hDl hbW
        have hsW := hbW.size
        have hRW : W.heap[w.heap.size]? = some (.cells z4a 27 (0, 0)) := (hbW.block _ (by omega)).trans ((HB.out.block _ (by omega)).trans HR1.out)
        have HSTK' := Sp.hid hstk
        have HREP := Sp.hid hrep
        have HDW := Sp.hid hD
        have HDL := Sp.hid hDl
        have HBW := Sp.hid hbW
        have HRW := Sp.hid hRW
        have HBE := Sp.hid (HB1.out.trans ((HB.out.mono (by omega)).trans (hbW.mono (by omega : w.heap.size ≤ wr.heap.size))) : Below w.heap.size w W)
        clear hrep hD hDl hbW hRW HSTK HX HF HB1 HB2 HS2 HD2 HW2 HSN HST h0 h1 e1 e2 e3 hb3
        refine h2 _ _ ?_
        clear h2
        cases es' with
        | nil =>
          have hform : (∃ g c, vo' = .slice g 0 c) := by
            rcases Joins.ownsRow_forms hstk.row with ⟨h, _⟩ | ⟨g, c, h⟩
            · exact ⟨_, _, h⟩
            · exact ⟨_, _, h⟩
          obtain ⟨g, c, hvo⟩ := hform
          rw [hvo]
          clear hvo hstk HSTK'
          have f0 : W.frozen? ⟨w.heap.size, 0, none⟩ = false := by simp [World.frozen?, HRW.out]
          have f1 : W.frozen? ⟨w.heap.size, 1, none⟩ = false := by simp [World.frozen?, HRW.out]
          have f2 : W.frozen? ⟨w.heap.size, 2, none⟩ = false := by simp [World.frozen?, HRW.out]
          have f3 : W.frozen? ⟨w.heap.size, 3, none⟩ = false := by simp [World.frozen?, HRW.out]
          have r0 : W.cell? ⟨w.heap.size, 0, none⟩ = some (.string ⟨#[]⟩) := by simp [World.cell?, HRW.out]
          have r1 : W.cell? ⟨w.heap.size, 1, none⟩ = some (.string ⟨#[]⟩) := by simp [World.cell?, HRW.out]
          have r2 : W.cell? ⟨w.heap.size, 2, none⟩ = some (.slice none 0 0) := by simp [World.cell?, HRW.out]
          have r3 : W.cell? ⟨w.heap.size, 3, none⟩ = some (.slice none 0 0) := by simp [World.cell?, HRW.out]
          by_cases hl : (k : Int) < (xs.length : Int) - 1
          · go_wp2
            refine bodyPost_ret (v := .tuple #[.agg z4a, .int .i64 12]) (by simp [results, Tryd.f7, go_sem, r0, r1, r2, r3]) rfl ⟨?_, .inl ⟨12, by decide, rfl⟩⟩
            exact (((HBE.out.setCell (Nat.le_refl _) _).setCell (Nat.le_refl _) _).setCell (Nat.le_refl _) _).setCell (Nat.le_refl _) _
          · have hrep' := treeS_le (show k + 1 ≤ xs.length + 1 by omega) HREP.out
            have hnode : NodeAt W.heap.size (xs.length + 1) W #[.string T.label, .string T.text, .slice aa T.attrs.length ca, .slice ka T.kids.length ck] T := ⟨_, _, _, _, rfl, (treeS _).mono hrep' (fun b hb => hb.2.1)⟩
            have HCHK := Sp.hid (check_tree (xs.length + 1) (by omega) W.heap.size _ T W hnode (Nat.le_refl _) (HSP.out.below HBE.out (Nat.le_refl _)))
            have d0 : W.cell? ⟨wr.heap.size + 1, 0, none⟩ = some (.string T.label) := by simp [World.cell?, HDW.out]
            have d1 : W.cell? ⟨wr.heap.size + 1, 1, none⟩ = some (.string T.text) := by simp [World.cell?, HDW.out]
            have d2 : W.cell? ⟨wr.heap.size + 1, 2, none⟩ = some (.slice aa T.attrs.length ca) := by simp [World.cell?, HDW.out]
            have d3 : W.cell? ⟨wr.heap.size + 1, 3, none⟩ = some (.slice ka T.kids.length ck) := by simp [World.cell?, HDW.out]
            have HNODE := Sp.hid hnode
            obtain ⟨cc, hcc⟩ : ∃ cc, cc = checkM (xs.length + 1) T := ⟨_, rfl⟩
            rw [← hcc] at HCHK
            have HCC := Sp.hid hcc
            clear hrep' hnode hcc f0 f1 f2 f3 r0 r1 r2 r3
            go_wp2_with fail
            refine HCHK.out.mono ?_
            rintro e W5 ⟨rfl, hb5⟩
            have hs5 := hb5.size
            have hR5 : W5.heap[w.heap.size]? = some (.cells z4a 27 (0, 0)) := (hb5.block _ (by omega)).trans HRW.out
            have f0 : W5.frozen? ⟨w.heap.size, 0, none⟩ = false := by simp [World.frozen?, hR5]
            have f1 : W5.frozen? ⟨w.heap.size, 1, none⟩ = false := by simp [World.frozen?, hR5]
            have f2 : W5.frozen? ⟨w.heap.size, 2, none⟩ = false := by simp [World.frozen?, hR5]
            have f3 : W5.frozen? ⟨w.heap.size, 3, none⟩ = false := by simp [World.frozen?, hR5]
            have r0 : W5.cell? ⟨w.heap.size, 0, none⟩ = some (.string ⟨#[]⟩) := by simp [World.cell?, hR5]
            have r1 : W5.cell? ⟨w.heap.size, 1, none⟩ = some (.string ⟨#[]⟩) := by simp [World.cell?, hR5]
            have r2 : W5.cell? ⟨w.heap.size, 2, none⟩ = some (.slice none 0 0) := by simp [World.cell?, hR5]
            have r3 : W5.cell? ⟨w.heap.size, 3, none⟩ = some (.slice none 0 0) := by simp [World.cell?, hR5]
            have HB5 := Sp.hid hb5
            clear d0 d1 d2 d3 hR5
            by_cases hc0 : cc = 0
            · rw [hc0] at HCC
              rw [hc0]
              clear hc0
              have hD5 : W5.heap[wr.heap.size + 1]? = some (.cells #[.string T.label, .string T.text, .slice aa T.attrs.length ca, .slice ka T.kids.length ck] 27 (0, 0)) := (hb5.block _ (Array.getElem?_eq_some_iff.1 HDW.out).1).trans HDW.out
              have d0 : W5.cell? ⟨wr.heap.size + 1, 0, none⟩ = some (.string T.label) := by simp [World.cell?, hD5]
              have d1 : W5.cell? ⟨wr.heap.size + 1, 1, none⟩ = some (.string T.text) := by simp [World.cell?, hD5]
              have d2 : W5.cell? ⟨wr.heap.size + 1, 2, none⟩ = some (.slice aa T.attrs.length ca) := by simp [World.cell?, hD5]
              have d3 : W5.cell? ⟨wr.heap.size + 1, 3, none⟩ = some (.slice ka T.kids.length ck) := by simp [World.cell?, hD5]
              clear hb5 hD5
              go_wp2
              refine bodyPost_ret (v := .tuple #[.agg #[.string T.label, .string T.text, .slice aa T.attrs.length ca, .slice ka T.kids.length ck], .int .i64 0]) (by simp [results, Tryd.f7, go_sem, r0, r1, r2, r3]) rfl ⟨?_, .inr ⟨_, T, rfl, ?_, HCC.out.symm⟩⟩
              · exact ((((HBE.out.trans (HB5.out.mono (by omega))).setCell (Nat.le_refl _) _).setCell (Nat.le_refl _) _).setCell (Nat.le_refl _) _).setCell (Nat.le_refl _) _
              · have hrep5 := (treeS (xs.length + 1)).frame (treeS_le (show k + 1 ≤ xs.length + 1 by omega) HREP.out) (w' := (((W5.setCell ⟨w.heap.size, 0, none⟩ (.string T.label)).setCell ⟨w.heap.size, 1, none⟩ (.string T.text)).setCell ⟨w.heap.size, 2, none⟩ (.slice aa T.attrs.length ca)).setCell ⟨w.heap.size, 3, none⟩ (.slice ka T.kids.length ck)) (fun j hj => by
                  have h1 := hj.1
                  rw [Below.heap_setCell _ _ _ _ (by show j ≠ w.heap.size; omega), Below.heap_setCell _ _ _ _ (by show j ≠ w.heap.size; omega), Below.heap_setCell _ _ _ _ (by show j ≠ w.heap.size; omega), Below.heap_setCell _ _ _ _ (by show j ≠ w.heap.size; omega)]
                  exact HB5.out.block j hj.2.1)
                exact ⟨_, _, _, _, rfl, (treeS _).mono hrep5 (fun j hj => by simp only [World.size_setCell]; have := hj.2.1; omega)⟩
            · have hc1 : (cc == 0) = false := by simpa using hc0
              clear hb5
              go_wp2
              refine bodyPost_ret (v := .tuple #[.agg z4a, .int .i64 cc]) (by simp [results, Tryd.f7, go_sem, r0, r1, r2, r3]) rfl ⟨?_, .inl ⟨cc, hc0, rfl⟩⟩
              exact ((((HBE.out.trans (HB5.out.mono (by omega))).setCell (Nat.le_refl _) _).setCell (Nat.le_refl _) _).setCell (Nat.le_refl _) _).setCell (Nat.le_refl _) _
        | cons e es' =>
          obtain ⟨g, c, hvo⟩ := Joins.ownsRow_form hstk.row (Nat.succ_pos _)
          rw [List.length_cons] at hvo
          rw [hvo] at hstk HREP HDL HSTK' ⊢
          clear hvo
          obtain ⟨cur, hcur, hbg⟩ := hstk.block
          have hk0 := hstk.cells 0 (by decide)
          have hk1 := hstk.cells 1 (by decide)
          have hk2 := hstk.cells 2 (by decide)
          have hk3 := hstk.cells 3 (by decide)
          have hok := hstk.ok e (by simp)
          have hfew := hstk.few
          simp only [List.length_cons] at hfew
          obtain ⟨m, hm⟩ : ∃ m, m = es'.length := ⟨_, rfl⟩
          rw [← hm] at hstk hk0 hk1 hk2 hk3 hfew HREP HDL HSTK' ⊢
          have hgW : g < W.heap.size := (Array.getElem?_eq_some_iff.1 hcur).1
          have hdl := HDL.out
          have hgD : wr.heap.size + 1 ≠ g := fun e1 => hdl (by rw [e1]; simp [live, Value.ownBlock])
          have hrD : some (wr.heap.size + 1) ≠ e.vk.ownBlock := fun e1 => hdl (by simp [live, Nd.live, ← e1])
          have hvg : e.vk.ownBlock ≠ some g := fun e1 => by
            have hnd := hstk.nodup
            simp only [live, List.flatMap_cons, Value.ownBlock, Option.toList_some, List.singleton_append, List.nodup_cons] at hnd
            exact hnd.1 (by simp [Nd.live, e1])
          have hkl : e.kids.length ≤ k := hok.sizes.2.2.2
          have HOWN := Sp.hid hok.krow
          obtain ⟨kn, hkn⟩ : ∃ kn, kn = e.kids.length := ⟨_, rfl⟩
          obtain ⟨kxs, hkxs⟩ : ∃ kxs, kxs = e.kids.flatMap (·.1) := ⟨_, rfl⟩
          obtain ⟨v0, hv0⟩ : ∃ v0, v0 = e.vk := ⟨_, rfl⟩
          rw [← hkn] at hkl HOWN
          rw [← hkxs] at HOWN
          rw [← hv0] at HOWN hvg hrD
          have hkxl : kxs.length = kn * 4 := HOWN.out.1
          simp [Nd.cells] at hk3
          rw [← hv0] at hk3
          have d0 : W.cell? ⟨wr.heap.size + 1, 0, none⟩ = some (.string T.label) := by simp [World.cell?, HDW.out]
          have d1 : W.cell? ⟨wr.heap.size + 1, 1, none⟩ = some (.string T.text) := by simp [World.cell?, HDW.out]
          have d2 : W.cell? ⟨wr.heap.size + 1, 2, none⟩ = some (.slice aa T.attrs.length ca) := by simp [World.cell?, HDW.out]
          have d3 : W.cell? ⟨wr.heap.size + 1, 3, none⟩ = some (.slice ka T.kids.length ck) := by simp [World.cell?, HDW.out]
          have hDW : wr.heap.size + 1 < W.heap.size := (Array.getElem?_eq_some_iff.1 HDW.out).1
          have HD0 := Sp.hid d0
          have HD1 := Sp.hid d1
          have HD2 := Sp.hid d2
          have HD3 := Sp.hid d3
          have HK3 := Sp.hid hk3
          have HCUR := Sp.hid hcur
          have HVG := Sp.hid hvg
          have HRD := Sp.hid hrD
          have HM := Sp.hid hm
          have HKN := Sp.hid hkn
          have HKXS := Sp.hid hkxs
          have HV0 := Sp.hid hv0
          have HGD := Sp.hid hgD
          have HKXL := Sp.hid hkxl
          have hm1 : (0 : Int) < (m : Int) + 1 := by omega
          clear hstk hok hk0 hk1 hk2 hk3 hcur hvg hrD hm hkn hkxs hv0 hgD hdl hkxl d0 d1 d2 d3
          go_wp2
          refine wp_region_inv (by kernel_rfl) [some 94, some 95, some 96, some 97, some 98, some 99, some 100, some 101, some 102, none, some 103, some 104, none] rfl (by kernel_rfl) (by kernel_rfl) ?fr ?hfr
            (Inv13 (.pointer (some ⟨g, m * 4, none⟩)) (.pointer (some ⟨g, m * 4 + 3, none⟩)) (AppInv W g (m * 4 + 3) cur 27 w1.heap.size v0 kn kxs [.string T.label, .string T.text, .slice aa T.attrs.length ca, .slice ka T.kids.length ck])) (fun u => ⟨app_start, by simp, by simp, by simp, by simp, by simp⟩) ?step ?fin
          case hfr => intro u; simp only [Sp.fillFrom, Sp.idx_cons, Sp.idx_nil, Option.some.injEq, reduceCtorEq, reduceIte, Nat.reduceEqDiff, Nat.reduceAdd, Option.map_some, Option.map_none]; exact rfl
          case step =>
            refine ⟨?_, ?_, ?_, ?_, ?_, ?_, ?_, ?_, ?_, ?_, ?_, ?_, ?_, trivial⟩
            · intro L u w1 hL hD hI
              have HI' := Sp.hid (inv13_p 0 (by omega) hI)
              clear hL hD hI
              dsimp only
              go_wp2
              exact ⟨_, rfl, HI'.out⟩
            · intro L u w1 hL hD hI
              simp only [DepsDone, Region.binds, and_true, true_implies] at hD
              have h0 := hI.2.1 hD
              have HI' := Sp.hid (inv13_p 1 (by omega) hI)
              clear hL hD hI
              dsimp only
              rw [h0]
              clear h0
              go_wp2
              exact ⟨_, rfl, HI'.out⟩
            · intro L u w1 hL hD hI
              simp only [DepsDone, Region.binds, and_true, true_implies] at hD
              have h0 := hI.2.2.1 hD
              have HI' := Sp.hid (inv13_q 2 (by omega) hI)
              clear hL hD hI
              dsimp only
              rw [h0]
              clear h0
              go_wp2
              exact ⟨_, rfl, HI'.out⟩
            · intro L u w1' hL hD hI
              simp only [DepsDone, Region.binds, and_true, true_implies] at hD
              have h0 := hI.2.2.2.1 hD
              obtain ⟨hb, hA⟩ := app_0 hL hI.1
              have c := (hb.cell (p := ⟨g, m * 4 + 3, none⟩) hgW).trans HK3.out
              have HI' := Sp.hid (inv13_app 0 hI hA)
              clear hL hD hI hb hA
              dsimp only
              rw [h0]
              clear h0
              go_wp2
              exact ⟨_, rfl, HI'.out⟩
            · intro L u w1' hL hD hI
              have hA := app_1 hL hI.1
              have hblk := hI.1.1.block (wr.heap.size + 1) hDW HGD.out HRD.out
              have c0 := (World.cell?_of_block (a := ⟨wr.heap.size + 1, 0, none⟩) hblk).trans HD0.out
              have c1 := (World.cell?_of_block (a := ⟨wr.heap.size + 1, 1, none⟩) hblk).trans HD1.out
              have c2 := (World.cell?_of_block (a := ⟨wr.heap.size + 1, 2, none⟩) hblk).trans HD2.out
              have c3 := (World.cell?_of_block (a := ⟨wr.heap.size + 1, 3, none⟩) hblk).trans HD3.out
              have HI' := Sp.hid (inv13_app 1 hI hA)
              clear hL hD hI hblk hA
              dsimp only
              go_wp2
              exact ⟨_, rfl, HI'.out⟩
            · intro L u w1' hL hD hI
              simp only [DepsDone, Region.binds, and_true, true_implies] at hD
              have hA := app_2 hL hI.1
              have h0 : u 3 = v0 := hI.1.2.1 hD
              have HI' := Sp.hid (inv13_app 2 hI hA)
              clear hL hD hI hA
              dsimp only
              rw [h0]
              clear h0
              obtain ⟨a1, c1, hv⟩ : ∃ a1 c1, v0 = .slice a1 kn c1 := by
                rcases Joins.ownsRow_forms HOWN.out with ⟨hv, hk0⟩ | ⟨g1, cap1, hv⟩
                · exact ⟨_, _, by rw [hk0]; exact hv⟩
                · exact ⟨_, _, hv⟩
              subst hv
              go_wp2
              exact ⟨_, rfl, HI'.out⟩
            · intro L u w1' hL hD hI
              obtain ⟨_, hA⟩ := app_3 hL hI.1
              have HI' := Sp.hid (fun z w' h1 h2 => inv13_app 3 hI (hA z w' h1 h2))
              clear hL hD hI hA
              dsimp only
              go_wp2
              exact ⟨_, rfl, HI'.out _ _ ((Below.refl _ _).alloc (Nat.le_refl _) _) (z4_new _ _)⟩
            · intro L u w1' hL hD hI
              simp only [DepsDone, Region.binds, and_true, true_implies] at hD
              obtain ⟨h0, hb, ⟨z, h3', hz⟩, hA⟩ := app_4 hgW HVG.out HCUR.out hL hD.1 hD.2.1 hI.1
              have hown1 := ownsRow_below' HOWN.out hb
              have hs1' := hb.size
              have h0' : u 3 = v0 := h0
              have h3'' : u 6 = .slice (some ⟨z, 0, none⟩) 1 1 := h3'
              have HI' := Sp.hid (fun v' w' r1 r2 r4 => inv13_app 4 hI (hA v' w' r1 r2 r4))
              clear hL hD hI hA h0 h3'
              dsimp only
              rw [h0', h3'']
              obtain ⟨i0, hi0, hz0, hz1, hz2⟩ := info_parts infoTree
              refine wpList_append_own_at _ rfl _ _ 25 rfl w1.heap.size 27 i0 _ 4 80 Tryd.underlying25 hi0 hz0 hz1 hz2 rfl (by decide) v0 kn kxs rfl hown1 ⟨z, 0, none⟩ 1 1 z4 rfl rfl hz (by decide) (by unfold maxLen; omega) (by omega) (by omega) ?_
              intro v' w' r1 r2 _ r4
              exact ⟨_, rfl, HI'.out v' w' r1 r2 r4⟩
            · intro L u w1' hL hD hI
              simp only [DepsDone, Region.binds, and_true, true_implies] at hD
              obtain ⟨h2', g1, cap1, h4', hA⟩ := app_5 hD.1 hD.2.1 hL hI.1
              have h2'' : u 5 = .int .i64 (kn : Nat) := h2'
              have h4'' : u 7 = .slice (some ⟨g1, 0, none⟩) (kn + 1) cap1 := h4'
              have HI' := Sp.hid (inv13_app 5 hI hA)
              clear hL hD hI hA h2' h4'
              dsimp only
              rw [h2'', h4'']
              go_wp2
              exact ⟨_, rfl, HI'.out⟩
            · intro L u w1' hL hD hI
              simp only [DepsDone, Region.binds, and_true, true_implies] at hD
              obtain ⟨g1, cap1, h1', h5', hrw, hA⟩ := app_6 (by simp) HKXL.out hgW hD.1 hD.2.1 hL hI.1
              have h1'' : u 4 = .agg #[.string T.label, .string T.text, .slice aa T.attrs.length ca, .slice ka T.kids.length ck] := h1'
              have h5'' : u 8 = .pointer (some ⟨g1, kn * 4, none⟩) := h5'
              have HI' := Sp.hid (fun w' r1 r2 v => inv13_app 6 hI (hA w' r1 r2 v))
              have HRW' := Sp.hid hrw
              have c0 := row_cell0 HKXL.out hrw
              have c1 := row_cell1 HKXL.out hrw
              have c2 := row_cell2 HKXL.out hrw
              have c3 := row_cell3 HKXL.out hrw
              have f0 := hrw.frozenAt (kn * 4)
              have f1 := hrw.frozenAt (kn * 4 + 1)
              have f2 := hrw.frozenAt (kn * 4 + 2)
              have f3 := hrw.frozenAt (kn * 4 + 3)
              clear hL hD hI hA hrw h1' h5'
              dsimp only
              rw [h1'', h5'']
              clear h1'' h5''
              go_wp2
              obtain ⟨r1, r2⟩ := own_store4 HKXL.out HRW'.out
              exact ⟨undef, rfl, HI'.out _ (r1 _ _ _ _) (r2 _ _ _ _) _⟩
            · intro L u w1 hL hD hI
              simp only [DepsDone, Region.binds, and_true, true_implies] at hD
              have h0 := hI.2.1 hD.1
              have HI' := Sp.hid (inv13_p 10 (by omega) hI)
              clear hL hD hI
              dsimp only
              rw [h0]
              clear h0
              go_wp2
              exact ⟨_, rfl, HI'.out⟩
            · intro L u w1 hL hD hI
              simp only [DepsDone, Region.binds, and_true, true_implies] at hD
              have h0 := hI.2.2.2.2.1 hD.1
              have HI' := Sp.hid (inv13_q 11 (by omega) hI)
              clear hL hD hI
              dsimp only
              rw [h0]
              clear h0
              go_wp2
              exact ⟨_, rfl, HI'.out⟩
            · intro L u w1' hL hD hI
              simp only [DepsDone, Region.binds, and_true, true_implies] at hD
              have h0 := hI.2.2.2.2.2 hD.1
              obtain ⟨g1, cap1, h4', hnbc, hA⟩ := app_7 hD.2.1 hL hI.1
              have c : w1'.cell? ⟨g, m * 4 + 3, none⟩ = some v0 := by rw [← HK3.out]; simp [World.cell?, hnbc, HCUR.out]
              have f : w1'.frozen? ⟨g, m * 4 + 3, none⟩ = false := by simp [World.frozen?, hnbc]
              have h4'' : u 7 = .slice (some ⟨g1, 0, none⟩) (kn + 1) cap1 := h4'
              rw [h4'] at hA
              have HI' := Sp.hid (fun v => inv13_app 7 hI (hA v))
              clear hL hD hI hA hnbc h4'
              dsimp only
              rw [h0, h4'']
              go_wp2
              exact ⟨undef, rfl, HI'.out _⟩
          case fin =>
            intro L u w1' hall hI
            obtain ⟨g1, cap1, h4', hgd, hgo, hr, hdb, hrest⟩ := app_fin (fun i hi => hall (sig i) (sig_lt hi)) hI.1
            have hst := HSTK'.out
            rw [HM.out] at hst hdb
            have hown1 : Value.ownBlock (.slice (some ⟨g1, 0, none⟩) (kn + 1) cap1) = some g1 := rfl
            have hkid := hst.kid HCUR.out (x := ([.string T.label, .string T.text, .slice aa T.attrs.length ca, .slice ka T.kids.length ck], T)) (by have := HREP.out; rw [HM.out] at this; exact this) (w' := w1') (vk' := .slice (some ⟨g1, 0, none⟩) (kn + 1) cap1)
              (by rw [← HKN.out, ← HKXS.out]; exact hr) hdb (fun b h1 h2 h3 => hrest.block b h1 h2 (by rw [HV0.out]; exact h3)) hrest.size (by
                rw [← HV0.out]
                rcases hgo with h | h
                · exact .inl (hown1.trans h.symm)
                · exact .inr ⟨g1, rfl, h⟩)
            rw [← HM.out] at hkid
            have hbelow : Below w1.heap.size w1 w1' := (HB.out.trans (HBW.out.mono hsw)).trans ⟨hrest.os, hrest.tape, hrest.output, hrest.size, fun b h1 => hrest.block b (by omega) (by omega) (fun e1 => by have := (HOWN.out.lt b e1.symm).1; omega)⟩
            have HKID := Sp.hid hkid
            have HBL := Sp.hid hbelow
            clear hall hI h4' hgo hr hdb hrest hst hkid hbelow
            go_wp2
            go_roundw
            case rel => first | exact ⟨k + 1, _, by omega, by go_num, HKID.out, HBL.out⟩ | ((repeat apply Exists.intro); refine ⟨⟨k + 1, _, by omega, by go_num, HKID.out, HBL.out⟩, ?_⟩; rw [show ((k + 1 : Nat) : Int) = (k : Int) + 1 from rfl])
            case measure => simp [intOf]; omega
      clear h2
      have hs3 := hb3.size
      have hbw3 : Below wr.heap.size wr w3 := HB2.out.trans (hb3.mono (by omega))
      have hS3 : w3.heap[wr.heap.size]? = some (.cells #[.int .i64 s.kind, .string s.name, .string s.text] 64 (0, 0)) := (hb3.block _ (by omega)).trans HS2.out
      have hD3 : w3.heap[wr.heap.size + 1]? = some (.cells z4a 27 (0, 0)) := (hb3.block _ (by omega)).trans HD2.out
      have hR3 : w3.heap[w.heap.size]? = some (.cells z4a 27 (0, 0)) := (hbw3.block _ (by omega)).trans ((HB.out.block _ (by omega)).trans HR1.out)
      have HBW3 := Sp.hid hbw3
      have HS3 := Sp.hid hS3
      have HD3 := Sp.hid hD3
      have HR3 := Sp.hid hR3
      have HSTK3 := Sp.hid (HSTK.out.keep hbw3 (Nat.le_refl _))
      have HBE3 := Sp.hid (HB1.out.trans ((HB.out.mono (by omega)).trans (hbw3.mono (by omega : w.heap.size ≤ wr.heap.size))) : Below w.heap.size w w3)
      have hLT := HSTK.out.lt
      have HLT := Sp.hid hLT
      have HTAIL := Sp.hid TAIL
      have f0 : w3.frozen? ⟨w.heap.size, 0, none⟩ = false := by simp [World.frozen?, hR3]
      have f1 : w3.frozen? ⟨w.heap.size, 1, none⟩ = false := by simp [World.frozen?, hR3]
      have f2 : w3.frozen? ⟨w.heap.size, 2, none⟩ = false := by simp [World.frozen?, hR3]
      have f3 : w3.frozen? ⟨w.heap.size, 3, none⟩ = false := by simp [World.frozen?, hR3]
      have r0 : w3.cell? ⟨w.heap.size, 0, none⟩ = some (.string ⟨#[]⟩) := by simp [World.cell?, hR3]
      have r1 : w3.cell? ⟨w.heap.size, 1, none⟩ = some (.string ⟨#[]⟩) := by simp [World.cell?, hR3]
      have r2 : w3.cell? ⟨w.heap.size, 2, none⟩ = some (.slice none 0 0) := by simp [World.cell?, hR3]
      have r3 : w3.cell? ⟨w.heap.size, 3, none⟩ = some (.slice none 0 0) := by simp [World.cell?, hR3]
      have s0 : w3.cell? ⟨wr.heap.size, 0, none⟩ = some (.int .i64 s.kind) := by simp [World.cell?, hS3]
      have s1 : w3.cell? ⟨wr.heap.size, 1, none⟩ = some (.string s.name) := by simp [World.cell?, hS3]
      have s2 : w3.cell? ⟨wr.heap.size, 2, none⟩ = some (.string s.text) := by simp [World.cell?, hS3]
      have g0 : w3.frozen? ⟨wr.heap.size + 1, 0, none⟩ = false := by simp [World.frozen?, hD3]
      have g1 : w3.frozen? ⟨wr.heap.size + 1, 1, none⟩ = false := by simp [World.frozen?, hD3]
      have g2 : w3.frozen? ⟨wr.heap.size + 1, 2, none⟩ = false := by simp [World.frozen?, hD3]
      have g3 : w3.frozen? ⟨wr.heap.size + 1, 3, none⟩ = false := by simp [World.frozen?, hD3]
      have q0 : w3.cell? ⟨wr.heap.size + 1, 0, none⟩ = some (.string ⟨#[]⟩) := by simp [World.cell?, hD3]
      have q1 : w3.cell? ⟨wr.heap.size + 1, 1, none⟩ = some (.string ⟨#[]⟩) := by simp [World.cell?, hD3]
      have q2 : w3.cell? ⟨wr.heap.size + 1, 2, none⟩ = some (.slice none 0 0) := by simp [World.cell?, hD3]
      have q3 : w3.cell? ⟨wr.heap.size + 1, 3, none⟩ = some (.slice none 0 0) := by simp [World.cell?, hD3]
      have hRw3 : w.heap.size < w3.heap.size := by omega
      have hSw3 : wr.heap.size < w3.heap.size := by omega
      have hDw3 : wr.heap.size + 1 < w3.heap.size := by omega
      obtain ⟨q, hq⟩ : ∃ q, q = fitB s.kind s.name s.text := ⟨_, rfl⟩
      rw [← hq]
      clear hbw3 hS3 hD3 hR3 hLT TAIL hq hb3 HB2 HS2 HD2 HW2
      have RET : ∀ (W : World) (c : Int), c ≠ 0 → Below w.heap.size w W → BuildPost xs.length w (.returned (.tuple #[.agg z4a, .int .i64 c])) ((((W.setCell ⟨w.heap.size, 0, none⟩ (.string ⟨#[]⟩)).setCell ⟨w.heap.size, 1, none⟩ (.string ⟨#[]⟩)).setCell ⟨w.heap.size, 2, none⟩ (.slice none 0 0)).setCell ⟨w.heap.size, 3, none⟩ (.slice none 0 0)) :=
        fun W c hc hb => ⟨(((hb.setCell (Nat.le_refl _) _).setCell (Nat.le_refl _) _).setCell (Nat.le_refl _) _).setCell (Nat.le_refl _) _, .inl ⟨_, hc, rfl⟩⟩
      have HRET := Sp.hid RET
      clear RET
      cases q
      · go_wp2
        exact bodyPost_ret (v := .tuple #[.agg z4a, .int .i64 12]) (by simp [results, Tryd.f7, go_sem, r0, r1, r2, r3]) rfl (HRET.out _ _ (by decide) HBE3.out)
      cases hk1 : (s.kind == 1)
      · cases hk3 : (s.kind == 3)
        · cases es with
          | nil =>
            have hform : (∃ g c, u4 = .slice g 0 c) := by
              rcases Joins.ownsRow_forms HSTK3.out.row with ⟨h, _⟩ | ⟨g, c, h⟩
              · exact ⟨_, _, h⟩
              · exact ⟨_, _, h⟩
            obtain ⟨g, c, hvo⟩ := hform
            subst hvo
            go_wp2
            exact bodyPost_ret (v := .tuple #[.agg z4a, .int .i64 12]) (by simp [results, Tryd.f7, go_sem, r0, r1, r2, r3]) rfl (HRET.out _ _ (by decide) HBE3.out)
          | cons e es =>
            obtain ⟨g, c, hvo⟩ := Joins.ownsRow_form HSTK3.out.row (Nat.succ_pos _)
            rw [List.length_cons] at hvo
            subst hvo
            have hst := HSTK3.out
            obtain ⟨cur, hcur, hbg⟩ := hst.block
            have hk0 := hst.cells 0 (by decide)
            have hk1' := hst.cells 1 (by decide)
            have hk2 := hst.cells 2 (by decide)
            have hk3' := hst.cells 3 (by decide)
            have hok := hst.ok e (by simp)
            have hfew := hst.few
            have hcap : es.length + 1 ≤ c := by
              rcases hst.row.2 with ⟨h', _⟩ | ⟨_, _, _, h', _, _, h, _⟩
              · cases h'
              · cases h'; simpa using h
            simp only [List.length_cons] at hfew
            obtain ⟨m, hm⟩ : ∃ m, m = es.length := ⟨_, rfl⟩
            rw [← hm] at hk0 hk1' hk2 hk3' hfew hcap HSTK3 HSTK HLT
            rw [← hm]
            simp [Nd.cells] at hk0 hk1' hk2 hk3'
            have hgW : g < w3.heap.size := (Array.getElem?_eq_some_iff.1 hcur).1
            have HM := Sp.hid hm
            have HCUR := Sp.hid hcur
            have HOK := Sp.hid hok
            have hm1 : ¬ ((m : Int) + 1 = 0) := by omega
            have hm2 : ((m : Int) + 1 == 0) = false := by simpa using hm1
            clear hst hcur hok hm
            cases hk2' : (s.kind == 2)
            · obtain ⟨hpst, hprep, aa, ca, ak, ck, hva, hvk⟩ := (show Stk w1.heap.size k wr (.slice (some ⟨g, 0, none⟩) (es.length + 1) c) (e :: es) by rw [← HM.out]; exact HSTK.out).pop (by omega)
              rw [hva] at hk2
              rw [hvk] at hk3'
              rw [← HM.out] at hpst hprep
              have hkeep : Below wr.heap.size wr ((((w3.setCell ⟨wr.heap.size + 1, 0, none⟩ (.string e.label)).setCell ⟨wr.heap.size + 1, 1, none⟩ (.string ⟨#[]⟩)).setCell ⟨wr.heap.size + 1, 2, none⟩ (.slice aa e.attrs.length ca)).setCell ⟨wr.heap.size + 1, 3, none⟩ (.slice ak e.kids.length ck)) := (((HBW3.out.setCell (Nat.le_succ _) _).setCell (Nat.le_succ _) _).setCell (Nat.le_succ _) _).setCell (Nat.le_succ _) _
              have hcell := Joins.block_setCell (Joins.block_setCell (Joins.block_setCell (Joins.block_setCell HD3.out (.string e.label) (i := 0)) (.string ⟨#[]⟩) (i := 1)) (.slice aa e.attrs.length ca) (i := 2)) (.slice ak e.kids.length ck) (i := 3)
              have hsk := hkeep.size
              have hrep2 := (treeS (k + 1)).mono ((treeS (k + 1)).frame hprep (fun b hb => hkeep.block b hb.2.1)) (G := Dead w1.heap.size ((((w3.setCell ⟨wr.heap.size + 1, 0, none⟩ (.string e.label)).setCell ⟨wr.heap.size + 1, 1, none⟩ (.string ⟨#[]⟩)).setCell ⟨wr.heap.size + 1, 2, none⟩ (.slice aa e.attrs.length ca)).setCell ⟨wr.heap.size + 1, 3, none⟩ (.slice ak e.kids.length ck)) (live (.slice (some ⟨g, 0, none⟩) m c) es)) (fun b hb => ⟨hb.1, by have := hb.2.1; omega, hb.2.2⟩)
              unfold Nd.cells at hrep2
              rw [hva, hvk] at hrep2
              have hvk' : e.kids.length = e.tt.kids.length := by simp [Nd.tt, TT.kids]
              have HREP := Sp.hid hrep2
              have HCELL := Sp.hid hcell
              have HKEEP := Sp.hid hkeep
              have HPST := Sp.hid hpst
              have HVK := Sp.hid hvk'
              have HNL := Sp.hid (fun (h : wr.heap.size + 1 ∈ live (.slice (some ⟨g, 0, none⟩) m c) es) => by have := (hpst.lt _ h).2; omega : wr.heap.size + 1 ∉ live (.slice (some ⟨g, 0, none⟩) m c) es)
              have hmc : m ≤ c := by omega
              clear hpst hprep hva hvk hkeep hcell hrep2 hvk' hsk HOK HLT r0 r1 r2 r3 f0 f1 f2 f3
              go_wp2
              have hrep3 := HREP.out
              have hcell3 := HCELL.out
              rw [HVK.out] at hrep3 hcell3 ⊢
              exact HTAIL.out _ _ _ _ _ _ _ _ _ _ _ _ _ _ _ _ _ _ _ _ _ _ _ _ _ _ _ _ _ _ _ _ _ _ _ _ _ _ _ _ _ _ _ _ _ _ _ _ _ _ _ _ _ _ _ _ _ _ _ _ _ _ _ _ _ _ _ _ _ _ _ _ _ _ _ _ _ _ _ _ _ _ _ _ _ _ _ _ _ _ _ _ _ _ _ _ _ _ _ _ _ _ _ _ _ _ _ _ _ _ _ es e.tt aa ak ca ck _ (HPST.out.keep (by have := HKEEP.out; rw [HVK.out] at this; exact this) (Nat.le_refl _)) hrep3 hcell3 HNL.out (by have := HKEEP.out; rw [HVK.out] at this; exact this)
            · obtain ⟨i0, hi0, hz0, hz1, hz2⟩ := info_parts infoAttr
              obtain ⟨ak, ck, hvk⟩ : ∃ ak ck, e.vk = .slice ak e.kids.length ck := by
                rcases Joins.ownsRow_forms HOK.out.krow with ⟨hv, hk0⟩ | ⟨g1, cap1, hv⟩
                · exact ⟨_, _, by rw [hk0]; exact hv⟩
                · exact ⟨_, _, hv⟩
              rw [hvk] at hk3'
              clear hvk HTAIL
              by_cases hkp : 0 < e.kids.length
              · have hkp' : (0 : Int) < (e.kids.length : Int) := by omega
                clear hkp
                go_wp2
                exact bodyPost_ret (v := .tuple #[.agg z4a, .int .i64 12]) (by simp [results, Tryd.f7, go_sem, r0, r1, r2, r3]) rfl (HRET.out _ _ (by decide) HBE3.out)
              · have hkp' : ¬ (0 : Int) < (e.kids.length : Int) := by omega
                clear hkp r0 r1 r2 r3 f0 f1 f2 f3 g0 g1 g2 g3 q0 q1 q2 q3 HRET
                obtain ⟨v0, hv0⟩ : ∃ v0, v0 = e.va := ⟨_, rfl⟩
                obtain ⟨kn, hkn⟩ : ∃ kn, kn = e.attrs.length := ⟨_, rfl⟩
                obtain ⟨kxs, hkxs⟩ : ∃ kxs, kxs = acells e.attrs := ⟨_, rfl⟩
                have HOWN := Sp.hid HOK.out.arow
                have hkl : kn ≤ k := by rw [hkn]; exact HOK.out.sizes.2.2.1
                rw [← hv0] at hk2 HOWN
                rw [← hkn, ← hkxs] at HOWN
                have hlive : ∀ j, v0.ownBlock = some j → j ∈ live (.slice (some ⟨g, 0, none⟩) (m + 1) c) (e :: es) := fun j hj => by simp [live, Nd.live, ← hv0, hj]
                have hvg : some g ≠ v0.ownBlock := fun e1 => by
                  have hnd := HSTK3.out.nodup
                  simp only [live, List.flatMap_cons, Value.ownBlock, Option.toList_some, List.singleton_append, List.nodup_cons] at hnd
                  exact hnd.1 (by simp [Nd.live, ← hv0, ← e1])
                have hvS : some wr.heap.size ≠ v0.ownBlock := fun e1 => by have := (HLT.out _ (hlive _ e1.symm)).2; omega
                have HVG := Sp.hid hvg
                have HVS := Sp.hid hvS
                have HK2 := Sp.hid hk2
                have HS0 := Sp.hid s0
                have HS1 := Sp.hid s1
                have HS2 := Sp.hid s2
                have HV0 := Sp.hid hv0
                have HKN := Sp.hid hkn
                have HKXS := Sp.hid hkxs
                have hb1w : w1.heap.size ≤ w3.heap.size := by omega
                go_wp2
                clear hk0 hk1' hk2 hk3' s0 s1 s2 hlive hvg hvS hv0 hkn hkxs
                refine wp_region_two (by kernel_rfl) [some 72, some 73, some 74, some 75, some 76, some 77, some 78, some 79, some 80, some 81, some 82, some 83, some 84, some 85, none]
                  [fun v _ => v = .pointer (some ⟨g, m * 4, none⟩), fun v _ => v = .pointer (some ⟨g, m * 4, none⟩), fun v _ => v = .pointer (some ⟨g, m * 4, none⟩), fun v _ => v = .pointer (some ⟨g, m * 4 + 2, none⟩), fun v _ => v = v0,
                    fun v _ => v = .pointer (some ⟨wr.heap.size, 1, none⟩), fun v _ => v = .string s.name, fun v _ => v = .pointer (some ⟨wr.heap.size, 2, none⟩), fun v _ => v = .string s.text, fun v _ => v = .agg #[.string s.name, .string s.text],
                    fun v x => ∃ z, v = .slice (some ⟨z, 0, none⟩) 1 1 ∧ w3.heap.size ≤ z ∧ x.cell? ⟨z, 0, none⟩ = some (.string s.name) ∧ x.cell? ⟨z, 1, none⟩ = some (.string s.text),
                    fun v x => x.ownsRow w1.heap.size 36 2 v (kn + 1) (kxs ++ [.string s.name, .string s.text]) ∧ (v.ownBlock = v0.ownBlock ∨ ∃ z, v.ownBlock = some z ∧ w3.heap.size ≤ z),
                    fun v _ => v = .pointer (some ⟨g, m * 4, none⟩), fun v _ => v = .pointer (some ⟨g, m * 4 + 2, none⟩)]
                  11 [10, 9, 8, 6, 4, 3, 2, 1, 7, 5]
                  (fun b w' => w3.grownBy w' (if b then v0.ownBlock else none))
                  (fun i w w' => w.grownBy w' (if i = 11 then v0.ownBlock else none)) rfl (by kernel_rfl) (by kernel_rfl) (by kernel_rfl) (by kernel_rfl) (by kernel_rfl) ?fr2 ?hfr2 ?G02 ?GR2 ?FR2 ?step2 _ rfl ?fin2
                case hfr2 => intro u; simp only [Sp.fillFrom, Sp.idx_cons, Sp.idx_nil, Option.some.injEq, reduceCtorEq, reduceIte, Nat.reduceEqDiff, Nat.reduceAdd, Option.map_some, Option.map_none]; exact rfl
                case G02 => exact ⟨rfl, rfl, rfl, Nat.le_refl _, fun _ _ _ => rfl⟩
                case GR2 =>
                  intro i b w1 w2 hG hR
                  cases b
                  · by_cases hi : i = 11
                    · simp only [hi, if_true] at hR ⊢; exact grown_trans (grown_weak hG) hR
                    · simp only [if_neg hi] at hR; simp only [hi, decide_false, Bool.or_false]; exact grown_trans hG hR
                  · simp only [if_true, Bool.true_or] at hG ⊢
                    by_cases hi : i = 11
                    · simp only [hi, if_true] at hR; exact grown_trans hG hR
                    · simp only [if_neg hi] at hR; exact grown_trans hG (grown_weak hR)
                case FR2 =>
                  iterate 10 (refine ⟨fun _ _ _ _ _ _ _ h => h, ?_⟩)
                  refine ⟨?_, ?_, fun _ _ _ _ _ _ _ h => h, fun _ _ _ _ _ _ _ h => h, trivial⟩
                  · rintro i hi v x1 x2 _ hR ⟨z, rfl, hz, hc0, hc1⟩
                    have hne : some z ≠ (if i = 11 then v0.ownBlock else none) := by
                      split
                      · intro e1
                        have := (HOWN.out.lt z e1.symm).2
                        omega
                      · simp
                    exact ⟨z, rfl, hz, hR.cell hc0 hne, hR.cell hc1 hne⟩
                  · rintro i hi v x1 x2 _ hR ⟨hw, hl'⟩
                    rw [if_neg hi] at hR
                    exact ⟨hw.kept hR (by cases v.ownBlock <;> simp), hl'⟩
                case step2 =>
                  have hne : ∀ (b : Bool) j, some j ≠ v0.ownBlock → some j ≠ (if b then v0.ownBlock else none) := by
                    intro b j hj
                    cases b
                    · simp
                    · simpa using hj
                  have HNE := Sp.hid hne
                  clear hne
                  refine ⟨?_, ?_, ?_, ?_, ?_, ?_, ?_, ?_, ?_, ?_, ?_, ?_, ?_, ?_, trivial⟩
                  all_goals
                    intro u x1 b hb hG hD
                    simp only [Sp.DepsHold, Sp.factAt, Region.binds, List.getElem?_cons_zero, List.getElem?_cons_succ, List.getElem?_nil, Option.getD_some, Option.getD_none, and_true, true_and, true_implies, implies_true] at hD; dsimp only; generalize u 0 = u0 at *; generalize u 1 = u1 at *; generalize u 2 = u2 at *; generalize u 3 = u3 at *; generalize u 4 = u4 at *; generalize u 5 = u5 at *; generalize u 6 = u6 at *; generalize u 7 = u7 at *; generalize u 8 = u8 at *; generalize u 9 = u9 at *; generalize u 10 = u10 at *; generalize u 11 = u11 at *; generalize u 12 = u12 at *; generalize u 13 = u13 at *; clear u
                    have c2 : x1.cell? ⟨g, m * 4 + 2, none⟩ = some v0 := hG.cell (a := ⟨g, m * 4 + 2, none⟩) HK2.out (HNE.out b _ HVG.out)
                    have e1 : x1.cell? ⟨wr.heap.size, 1, none⟩ = some (.string s.name) := hG.cell (a := ⟨wr.heap.size, 1, none⟩) HS1.out (HNE.out b _ HVS.out)
                    have e2 : x1.cell? ⟨wr.heap.size, 2, none⟩ = some (.string s.text) := hG.cell (a := ⟨wr.heap.size, 2, none⟩) HS2.out (HNE.out b _ HVS.out)
                    have HG := Sp.hid hG
                    have HBB := Sp.hid hb
                    clear hG hb
                    try obtain rfl := hD
                    try obtain ⟨rfl, rfl⟩ := hD
                  all_goals first | (go_wp2; exact ⟨grown_refl _ _, _, rfl, rfl⟩) | skip
                  · go_wp2
                    exact ⟨World.grownBy_alloc _ _ _, _, rfl, _, rfl, by have := HG.out.size; omega, by simp, by simp⟩
                  · obtain ⟨h4, z, h10, hz, hc0, hc1⟩ := hD
                    obtain rfl := HBB.out (Or.inr rfl)
                    have hrow1 : x1.ownsRow w1.heap.size 36 2 v0 kn kxs := HOWN.out.kept HG.out (by cases v0.ownBlock <;> simp)
                    rw [h4, h10]
                    refine wpList_append_own_at _ rfl _ _ 24 rfl w1.heap.size 36 i0 _ 2 32 Tryd.underlying24 hi0 hz0 hz1 hz2 rfl (by decide) _ _ _ rfl hrow1 ⟨z, 0, none⟩ 1 1 [.string s.name, .string s.text] rfl rfl (news2' _ _ _ _ hc0 hc1) ?_ (by unfold maxLen; omega) (by omega) (by have := HG.out.size; omega) ?_
                    · intro u hu; simp at hu; rcases hu with rfl | rfl <;> rfl
                    intro v' x2 hown' hgrow _ hloc
                    refine wpList_nil ?_
                    refine ⟨hgrow, v', rfl, hown', ?_⟩
                    rcases hloc with h | h
                    · exact .inl h
                    · exact .inr ⟨_, h, by have := HG.out.size; omega⟩
                case fin2 =>
                  intro u x1 b hG hF
                  simp only [Sp.AllF, and_true] at hF; (try dsimp only); generalize u 0 = u0 at *; generalize u 1 = u1 at *; generalize u 2 = u2 at *; generalize u 3 = u3 at *; generalize u 4 = u4 at *; generalize u 5 = u5 at *; generalize u 6 = u6 at *; generalize u 7 = u7 at *; generalize u 8 = u8 at *; generalize u 9 = u9 at *; generalize u 10 = u10 at *; generalize u 11 = u11 at *; generalize u 12 = u12 at *; generalize u 13 = u13 at *; clear u
                  obtain ⟨h0, h1, h2, h3', h4, h5, h6, h7, h8, h9, -, ⟨hown, hloc⟩, h12, h13⟩ := hF
                  have hg1 : w3.grownBy x1 v0.ownBlock := by cases b; exact grown_weak hG; exact hG
                  obtain ⟨gr, cr, hv⟩ := Joins.ownsRow_form hown (Nat.succ_pos _)
                  rw [hv] at hown hloc ⊢
                  rw [h13]
                  have hgx : x1.heap[g]? = some (.cells cur 27 (0, 0)) := (hg1.block g hgW HVG.out).trans HCUR.out
                  have cg : x1.cell? ⟨g, m * 4 + 2, none⟩ = some v0 := by rw [← HK2.out]; simp [World.cell?, hgx, HCUR.out]
                  have fg : x1.frozen? ⟨g, m * 4 + 2, none⟩ = false := by simp [World.frozen?, hgx]
                  have hgl : g < x1.heap.size := by have := hg1.size; omega
                  have hgr : some gr = v0.ownBlock ∨ w3.heap.size ≤ gr := by
                    rcases hloc with h | ⟨z, h, hz⟩
                    · exact .inl h
                    · cases h; exact .inr hz
                  have hgg : g ≠ gr := fun e1 => by
                    rcases hgr with h | h
                    · exact HVG.out (by rw [e1]; exact h)
                    · omega
                  have hst := HSTK3.out
                  rw [HM.out] at hst
                  have hset : x1.grownBy (x1.setCell ⟨g, m * 4 + 2, none⟩ (.slice (some ⟨gr, 0, none⟩) (kn + 1) cr)) (some g) := ⟨rfl, rfl, rfl, by simp, fun j _ hj => heap_setCell_other x1 ⟨g, m * 4 + 2, none⟩ j _ (fun e1 => hj (by simp [e1]))⟩
                  have hcell := heap_setCell_same x1 g (m * 4 + 2) cur 27 (.slice (some ⟨gr, 0, none⟩) (kn + 1) cr) hgx
                  have hat := hst.attr HCUR.out (w' := x1.setCell ⟨g, m * 4 + 2, none⟩ (.slice (some ⟨gr, 0, none⟩) (kn + 1) cr)) (va' := .slice (some ⟨gr, 0, none⟩) (kn + 1) cr) (a := (s.name, s.text)) ⟨HSN.out, HST.out⟩
                    (by rw [← HKN.out, ← HKXS.out]; exact hown.kept hset (.inr (fun e1 => hgg (Option.some.inj e1).symm))) (by rw [← HM.out]; exact hcell)
                    (fun j j1 j2 j3 => (hset.block j (by have := hg1.size; omega) (fun e1 => j2 (Option.some.inj e1))).trans (hg1.block j j1 (by rw [HV0.out]; exact j3))) (by have := hg1.size; simp; omega)
                    (by rw [← HV0.out]; rcases hgr with h | h; exact .inl h; exact .inr ⟨gr, rfl, h⟩)
                  rw [← HM.out] at hat
                  have hbl : Below w1.heap.size w1 (x1.setCell ⟨g, m * 4 + 2, none⟩ (.slice (some ⟨gr, 0, none⟩) (kn + 1) cr)) := (((HB.out.trans (HBW3.out.mono hsw)).grown hg1 hb1w (fun j hj => (HOWN.out.lt j hj).1))).setCell (by show w1.heap.size ≤ g; exact hbg) _
                  have HAT := Sp.hid hat
                  have HBL := Sp.hid hbl
                  clear hG h0 h1 h2 h3' h4 h5 h6 h7 h8 h9 hown hloc h12 h13 hg1 hv hgx hgr hst hset hcell hat hbl
                  go_wp2
                  dsimp only [StepPost, normally]
                  go_wp2
                  go_roundw
                  case rel => first | exact ⟨k + 1, _, by omega, by go_num, HAT.out, HBL.out⟩ | ((repeat apply Exists.intro); refine ⟨⟨k + 1, _, by omega, by go_num, HAT.out, HBL.out⟩, ?_⟩; rw [show ((k + 1 : Nat) : Int) = (k : Int) + 1 from rfl])
                  case measure => simp [intOf]; omega
        · have hrep : (treeS (k + 1)).rep (Dead w1.heap.size ((((w3.setCell ⟨wr.heap.size + 1, 0, none⟩ (.string ⟨#[]⟩)).setCell ⟨wr.heap.size + 1, 1, none⟩ (.string s.text)).setCell ⟨wr.heap.size + 1, 2, none⟩ (.slice none 0 0)).setCell ⟨wr.heap.size + 1, 3, none⟩ (.slice none 0 0)) (live u4 es)) ((((w3.setCell ⟨wr.heap.size + 1, 0, none⟩ (.string ⟨#[]⟩)).setCell ⟨wr.heap.size + 1, 1, none⟩ (.string s.text)).setCell ⟨wr.heap.size + 1, 2, none⟩ (.slice none 0 0)).setCell ⟨wr.heap.size + 1, 3, none⟩ (.slice none 0 0))
              [.string (TT.mk ⟨#[]⟩ s.text [] []).label, .string (TT.mk ⟨#[]⟩ s.text [] []).text, .slice none (TT.mk ⟨#[]⟩ s.text [] []).attrs.length 0, .slice none (TT.mk ⟨#[]⟩ s.text [] []).kids.length 0] (TT.mk ⟨#[]⟩ s.text [] []) :=
            ⟨⟨Nat.zero_le _, HST.out, Nat.zero_le _, Nat.zero_le _⟩, none, 0, none, 0, rfl, Sl.nil, Sl.nil⟩
          have hcell := Joins.block_setCell (Joins.block_setCell (Joins.block_setCell (Joins.block_setCell HD3.out (.string ⟨#[]⟩) (i := 0)) (.string s.text) (i := 1)) (.slice none 0 0) (i := 2)) (.slice none 0 0) (i := 3)
          have hkeep : Below wr.heap.size wr ((((w3.setCell ⟨wr.heap.size + 1, 0, none⟩ (.string ⟨#[]⟩)).setCell ⟨wr.heap.size + 1, 1, none⟩ (.string s.text)).setCell ⟨wr.heap.size + 1, 2, none⟩ (.slice none 0 0)).setCell ⟨wr.heap.size + 1, 3, none⟩ (.slice none 0 0)) := (((HBW3.out.setCell (Nat.le_succ _) _).setCell (Nat.le_succ _) _).setCell (Nat.le_succ _) _).setCell (Nat.le_succ _) _
          have HREP := Sp.hid hrep
          have HCELL := Sp.hid hcell
          have HKEEP := Sp.hid hkeep
          clear hrep hcell hkeep
          go_wp2
          exact HTAIL.out _ _ _ _ _ _ _ _ _ _ _ _ _ _ _ _ _ _ _ _ _ _ _ _ _ _ _ _ _ _ _ _ _ _ _ _ _ _ _ _ _ _ _ _ _ _ _ _ _ _ _ _ _ _ _ _ _ _ _ _ _ _ _ _ _ _ _ _ _ _ _ _ _ _ _ _ _ _ _ _ _ _ _ _ _ _ _ _ _ _ _ _ _ _ _ _ _ _ _ _ _ _ _ _ _ _ _ _ _ _ _ es _ _ _ _ _ _ (HSTK.out.keep HKEEP.out (Nat.le_refl _)) HREP.out HCELL.out (fun h => by have := (HLT.out _ h).2; omega) HKEEP.out
      · clear r0 r1 r2 r3 f0 f1 f2 f3 g0 g1 g2 g3 q0 q1 q2 q3 HTAIL HRET
        obtain ⟨i0, hi0, hz0, hz1, hz2⟩ := info_parts infoTree
        have hfew := HSTK3.out.few
        go_wp2_with (at_builtin; refine wpList_append_own_at _ rfl _ _ 25 rfl w1.heap.size 27 i0 _ 4 80 Tryd.underlying25 hi0 hz0 hz1 hz2 rfl (by decide) _ _ _ rfl (HSTK3.out.row.alloc _) ⟨w3.heap.size, 0, none⟩ 1 1 [.string s.name, .string ⟨#[]⟩, .slice none 0 0, .slice none 0 0] rfl rfl ?c1 ?c2 ?c3 ?c4 ?c5 ?c6)
        case c1 => exact news4 _ _ _ _ _ _
        case c2 => intro u hu; simp at hu; rcases hu with rfl | rfl | rfl <;> rfl
        case c3 => unfold maxLen; omega
        case c4 => omega
        case c5 => simp; omega
        case c6 =>
          intro v' w4 hrow hgrow _ hloc
          have hsz := hgrow.size
          rw [World.size_alloc] at hsz
          have hp := HSTK3.out.push (w' := w4) (vo' := v') HSN.out hrow (fun b h1 h2 => (hgrow.block b (by simp; omega) h2).trans (Below.heap_alloc _ _ _ h1)) (by omega) (by
            rcases hloc with h | h
            · exact .inl h
            · exact .inr ⟨_, h, by simp⟩)
          have hb4 : Below w1.heap.size w1 w4 := ((HB.out.trans (HBW3.out.mono hsw)).alloc (by omega) _).grown hgrow (by simp; omega) (fun j hj => (HSTK3.out.row.lt j hj).1)
          have HP := Sp.hid hp
          have HB4 := Sp.hid hb4
          clear hrow hgrow hloc hsz hp hb4
          go_wp2
          go_roundw
          case rel => first | exact ⟨k + 1, _, by omega, by go_num, HP.out, HB4.out⟩ | ((repeat apply Exists.intro); refine ⟨⟨k + 1, _, by omega, by go_num, HP.out, HB4.out⟩, ?_⟩; rw [show ((k + 1 : Nat) : Int) = (k : Int) + 1 from rfl])
          case measure => simp [intOf]; omega
    · obtain rfl : k = xs.length := by omega
      have hb0 : Below w.heap.size w wr := HB1.out.trans (HB.out.mono (by omega))
      have hRr : wr.heap[w.heap.size]? = some (.cells z4a 27 (0, 0)) := (HB.out.block _ (by omega)).trans HR1.out
      have f0 : wr.frozen? ⟨w.heap.size, 0, none⟩ = false := by simp [World.frozen?, hRr]
      have f1 : wr.frozen? ⟨w.heap.size, 1, none⟩ = false := by simp [World.frozen?, hRr]
      have f2 : wr.frozen? ⟨w.heap.size, 2, none⟩ = false := by simp [World.frozen?, hRr]
      have f3 : wr.frozen? ⟨w.heap.size, 3, none⟩ = false := by simp [World.frozen?, hRr]
      have r0 : wr.cell? ⟨w.heap.size, 0, none⟩ = some (.string ⟨#[]⟩) := by simp [World.cell?, hRr]
      have r1 : wr.cell? ⟨w.heap.size, 1, none⟩ = some (.string ⟨#[]⟩) := by simp [World.cell?, hRr]
      have r2 : wr.cell? ⟨w.heap.size, 2, none⟩ = some (.slice none 0 0) := by simp [World.cell?, hRr]
      have r3 : wr.cell? ⟨w.heap.size, 3, none⟩ = some (.slice none 0 0) := by simp [World.cell?, hRr]
      have hRl : w.heap.size < wr.heap.size := by omega
      have HB0 := Sp.hid hb0
      clear hb0 hRr hb hstk
      go_wp2
      refine bodyPost_ret (v := .tuple #[.agg z4a, .int .i64 12]) (by simp [results, Tryd.f7, go_sem, r0, r1, r2, r3]) rfl ⟨?_, .inl ⟨12, by decide, rfl⟩⟩
      exact (((HB0.out.setCell (Nat.le_refl _) _).setCell (Nat.le_refl _) _).setCell (Nat.le_refl _) _).setCell (Nat.le_refl _) _

end Go.Proofs.YtoknglpfchjbjaaDoor
