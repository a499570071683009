/- PathLeads, where what it reads is of bulk at most 1048576: the law returns true, and its arguments read afterwards as it read before; the table of spans tied to the program's text. Conditions: none beyond the statement's own. -/
import Derived.Test.YtoknglpfchjbjaaGreatDoorLeadsWalk
import Derived.Test.YtoknglpfchjbjaaGreatDoorOpenX
import Derived.ProofKit
import Derived.LaidMore
import Derived.OpenShut
import Derived.Stop.Joined
import Derived.Test.YtoknglpfchjbjaaGreatDoorCards
import Derived.Test.YtoknglpfchjbjaaGreatDoorTie
import Derived.SevenTiedAt
import Derived.Deep.DeepHandedRow
import Derived.Deep.DeepWitnessRowRef
namespace Go.Proofs.YtoknglpfchjbjaaGreatDoor
open Go.ChangeShapes Go.WideShapes Go.ChangeAt Go.RowKit Go.Sp Go.Deep

set_option maxRecDepth 100000 in
theorem ownKnobK : ownKnob Tryz.prog.godebug = none := by kernel_rfl
set_option maxRecDepth 100000 in
theorem gSpans : Tryz.prog.globalNamed "spyglass/utf.spans" = some 1 := by kernel_rfl
set_option maxRecDepth 100000 in
theorem tSpans : (Tryz.prog.globals[1]?).map (·.type) = some 177 := by kernel_rfl

abbrev laidS : List (String × DataW Unit) := [("spyglass/utf.spans", Rows.laid_spyglass_utf_spans)]

set_option maxRecDepth 100000 in
theorem span_cells {H : Type} {enc : TypeId × Value → H} {w : World} {base : Nat} {spare : Nat → Bool} {held : Bool} {fuel : Nat} {cs : List Value} {x : DataW H × List MemPlace} {a b : Int}
    (h : DataW.trod enc Tryz.prog w base spare held fuel 175 cs = some x) (hx : x.1 = .agg [.lit (.int .i32 a), .lit (.int .i32 b)]) : cs = [.int .i32 a, .int .i32 b] := by
  obtain ⟨y0, y1, n, rfl, hl, h0, h1⟩ := trod_struct2 Tryz.underlying175 h
  obtain ⟨p, e0, rfl, _⟩ := DataW.trod_int Tryz.underlying21 h0
  obtain ⟨q, e1, rfl, _⟩ := DataW.trod_int Tryz.underlying21 h1
  have c53 : Tryz.prog.cellsOf 175 = 2 := by kernel_rfl
  have c21 : Tryz.prog.cellsOf 21 = 1 := by kernel_rfl
  rw [c53] at hl
  rw [c21] at e0 e1
  simp only [DataW.agg.injEq, List.cons.injEq, DataW.lit.injEq, Lit.int.injEq, true_and, and_true] at hx
  obtain ⟨rfl, rfl⟩ := hx
  match cs, hl with
  | [c0, c1], _ =>
    simp at e0 e1
    rw [e0, e1]

set_option maxRecDepth 100000 in
theorem of_laid {W : World} (h : laidMetH Tryz.prog laidS W) : SpansAt W := by
  rw [MakeChecks.laidMetH_plain _ _ _ (by kernel_rfl)] at h
  obtain ⟨ps, ⟨g0, t0, cs0, f0, p0, q0, hg0, ht0, hv0, hd0, _, _⟩, _, _⟩ := h
  obtain rfl := Option.some.inj (gSpans.symm.trans hg0)
  obtain rfl := Option.some.inj (tSpans.symm.trans ht0)
  obtain ⟨xs, m, rfl, hx, hlen, hn5, hel⟩ := DataW.trod_array Tryz.underlying177 hd0
  have c55 : Tryz.prog.cellsOf 177 = 10 := by kernel_rfl
  have c53 : Tryz.prog.cellsOf 175 = 2 := by kernel_rfl
  rw [c55] at hlen
  rw [c53] at hel
  obtain ⟨l0⟩ := cs0
  have hcell : ∀ i, W.cell? ⟨1, i, none⟩ = l0[i]? := fun i => by
    have := World.var?_cell hg0 hv0 i
    simpa using this
  have h0 := hel 0 (by decide)
  have h1 := hel 1 (by decide)
  have h2 := hel 2 (by decide)
  have h3 := hel 3 (by decide)
  have h4 := hel 4 (by decide)
  clear hel hd0 hv0
  simp only [Prod.mk.injEq, Rows.laid_spyglass_utf_spans, DataW.agg.injEq] at hx
  match xs, hn5, l0, hlen with
  | [x0, x1, x2, x3, x4], _, [a0, a1, a2, a3, a4, a5, a6, a7, a8, a9], _ =>
    simp only [List.map_cons, List.map_nil, List.cons.injEq, and_true] at hx
    obtain ⟨⟨k0, k1, k2, k3, k4⟩, _⟩ := hx
    have r0 := span_cells h0 k0.symm
    have r1 := span_cells h1 k1.symm
    have r2 := span_cells h2 k2.symm
    have r3 := span_cells h3 k3.symm
    have r4 := span_cells h4 k4.symm
    simp at r0 r1 r2 r3 r4
    obtain ⟨rfl, rfl⟩ := r0
    obtain ⟨rfl, rfl⟩ := r1
    obtain ⟨rfl, rfl⟩ := r2
    obtain ⟨rfl, rfl⟩ := r3
    obtain ⟨rfl, rfl⟩ := r4
    intro i hi
    rw [Nat.zero_add, hcell i]
    exact List.getElem?_eq_getElem hi

/-- A path that came in has room for its steps. -/
theorem path_cap {H : Type} {enc : TypeId × Value → H} {W : World} {spare : Nat → Bool} {held : Bool} {fuel : Nat} {cs : List Value} {x : DataW H × List MemPlace} (h : DataW.trod enc Tryz.prog W 0 spare held fuel 25 cs = some x) :
    ∀ a n c, cs = [Value.slice a n c] → n ≤ c := by
  intro a n c hcs
  obtain ⟨y0, n', _, hl, h0⟩ := trod_struct1 Tryz.underlying25 h
  rcases open_slice Tryz.underlying23 h0 with ⟨h1, _⟩ | ⟨_, _, _, _, _, _, _, h1, _, hc, _⟩
  · simp [hcs, pcellsQ] at h1
    omega
  · simp [hcs, pcellsQ] at h1
    omega

set_option maxRecDepth 100000 in
theorem leads_reads (os : Os) {H : Type} (enc : TypeId × Value → H) : ∃ places, DataW.whole enc Tryz.prog ((World.doorLaid Tryz.prog 34 os).forCall (fun _ _ => 0) ⟨#[], #[.slice none 0 0, .agg #[.slice none 0 0]], []⟩).memory Tryz.f3.params.toList Rows.pathLeadsSpec.vars false #[Value.slice none 0 0, .agg #[.slice none 0 0]].toList 8 = some ([.nil, .agg [.nil]], [], places) :=
  ⟨[], by kernel_rfl⟩

set_option maxRecDepth 100000 in
theorem leads_lifted (os : Os) (started : os.Started) (H : Type) (enc : TypeId × Value → H) (F : Stop.Interp) :
    ReturnsInHanded {} Tryz.checked os 3 .any ((Rows.OpenSpec.upto Rows.pathLeadsSpec).preRow enc Tryz.prog Tryz.f3 Rows.pathLeadsUptoRow.domain false Rows.pathLeadsUptoRow.laid) (((Rows.OpenSpec.upto Rows.pathLeadsSpec).at F).post enc Tryz.prog Tryz.f3 false true false false) := by
  obtain ⟨places, hx⟩ := leads_reads os enc
  refine returnsInHanded_of_row (C := Tryz.checked) (s := Rows.OpenSpec.upto Rows.pathLeadsSpec) ownKnobK started (by kernel_rfl) Tryz.func3
    (witness_row_atRef (enc := enc) (C := Tryz.checked) false (World.doorLaid Tryz.prog 34 os) #[.slice none 0 0, .agg #[.slice none 0 0]] rfl (by kernel_rfl) (by kernel_rfl) (by kernel_rfl)
      (OpenSpec.preRow_of_cond 8 hx (by kernel_rfl) (fun k hk => by cases hk; kernel_rfl) (by kernel_rfl) (laidMet_of_run' 8 (by kernel_rfl) (by kernel_rfl)))) ?_
  intro W base args ds gs before hval0 hW _ hcond _ hL _ _
  have hval : ∀ (j : Nat) t v, Tryz.f3.params[j]? = some t → args[j]? = some v → Value.okWide Tryz.prog W .any base t v := hval0
  have hW' := hW
  obtain ⟨p, q, hA0, hV, rfl, hfz, hnd⟩ := hW
  have hA : DataW.TrodAll enc Tryz.prog W 0 (fun _ => true) true Tryz.f3.params.toList args.toList ds p := hA0
  rw [Tryz.params3] at hA hval
  obtain ⟨v0, vs0, d0, ds0, p0, q0, hargs, rfl, rfl, h0, r0⟩ := trodAll_cons hA
  obtain ⟨v1, vs1, d1, ds1, p1, q1, hargs1, rfl, rfl, h1, r1⟩ := trodAll_cons r0
  obtain ⟨rfl, rfl, rfl⟩ := trodAll_nil r1
  subst hargs1
  obtain rfl : args = #[v0, v1] := by cases args; simp_all
  obtain ⟨rfl, rfl⟩ := trodVars_none hV
  obtain ⟨a0, len0, cap0, rfl⟩ := okWide_slice Tryz.underlying22 (hval 0 22 v0 rfl rfl)
  obtain ⟨cs1, rfl, hz1⟩ := okWide_struct Tryz.underlying25 (hval 1 25 v1 rfl rfl)
  clear hA0 hval0
  have hsp := of_laid hL
  simp only [List.append_nil] at hW'
  have hlt : ∀ x ∈ p0 ++ p1, x.block < W.heap.size := fun x hx => by simpa using hW'.lt x (by simpa using hx)
  have k0 := h0
  have k1 := h1
  obtain ⟨fu0, f0⟩ := h0
  obtain ⟨fu1, f1⟩ := h1
  have hbk : len0 ≤ 1048576 := by
    have h1 := bulk_slice (a := a0) (len := len0) (cap := cap0) Tryz.underlying22 (by simpa [Value.cells] using f0)
    have h2 := bulk_bound (hcond _ rfl)
    have h3 := bulk_mem (d := d0) (l := [d0, d1] ++ []) (by simp)
    exact Nat.le_trans h1 (Nat.le_trans h3 h2)
  obtain ⟨b0, l0, c0, es0, e0, m0, n0, s0⟩ := open_stps f0
  simp [Value.cells] at e0
  obtain ⟨rfl, rfl, rfl⟩ := e0
  subst n0
  have hcp := path_cap f1
  obtain ⟨b1, c1, xs, e1, m1, s1⟩ := open_path f1
  obtain rfl : cs1 = #[.slice b1 xs.length c1] := by
    obtain ⟨l⟩ := cs1
    simp [Value.cells] at e1
    rw [e1]
  have hcc := hcp b1 xs.length c1 rfl
  unfold maxLen at m1
  refine (leads_walk es0 a0 cap0 xs b1 c1 W s0 hbk s1 m1 hcc hsp).mono ?_
  rintro e W' ⟨rfl, hnx⟩
  have hr0 := Below.trod laidOutK (by kernel_rfl) (of_decide_eq_true (by kernel_rfl)) k0 hnx (fun x hx => hlt x (by simp [hx]))
  have hr1 := Below.trod laidOutK (by kernel_rfl) (of_decide_eq_true (by kernel_rfl)) k1 hnx (fun x hx => hlt x (by simp [hx]))
  refine ⟨_, rfl, _, _, _, [], p0 ++ p1, [], hW', ?_, ?_, rfl, hnx.frame _, fun h => by cases h⟩
  · exact trodAll_mk1 (shut_bool Tryz.underlying4 true)
  · exact trodAll_mk2 hr0 hr1

theorem leads_row : Rows.PathLeadsUptoSaid :=
  OpenClaim.holds_of_cond 3 Tryz.f3 rfl rfl rfl rfl rfl rfl rfl ⟨rfl, rfl, rfl, rfl, rfl⟩ rfl rfl rfl rfl rfl (by kernel_rfl) Tryz.func3 (by kernel_rfl)
    (of_decide_eq_true (by kernel_rfl)) (by unfold Func.isWrapper; rw [if_neg (of_decide_eq_false (by kernel_rfl))]; exact ⟨rfl, rfl⟩)
    (fun os started H enc _ F => by rw [OpenClaim.pre_eq_preRow]; exact leads_lifted os started H enc F)

theorem leads_holds : Rows.PathLeadsUptoCardSaid :=
  Claim7.holds_tied_plain_at .later [] _ _ _ _
    leads_row (fun _ h => by cases h) (by kernel_rfl) (fun _ h => by cases h) pathLeadsUpto_row_tie rfl ⟨rfl, rfl⟩ (by kernel_rfl) rfl
    (fun f fn hf hfn => by
      obtain rfl : f = 3 := Option.some.inj ((show Tryz.prog.funcNamed "spyglass/spyglasslaw16.PathLeads" = some 3 by kernel_rfl).symm.trans hf) |>.symm
      obtain rfl : fn = Tryz.f3 := (Option.some.inj (Tryz.func3.symm.trans hfn)).symm
      exact ⟨by kernel_rfl, fun j t ht => by
        rw [Tryz.params3] at ht
        have hm : t ∈ [22, 25] := by simpa using Array.mem_of_getElem? ht
        have hall : ([22, 25].all fun u => !Tryz.prog.wantsStandIn u) = true := by kernel_rfl
        exact (show Tryz.prog.wantsStandIn t = false by simpa using List.all_eq_true.1 hall t hm)⟩)
    (by kernel_rfl)

#print axioms leads_holds

end Go.Proofs.YtoknglpfchjbjaaGreatDoor
