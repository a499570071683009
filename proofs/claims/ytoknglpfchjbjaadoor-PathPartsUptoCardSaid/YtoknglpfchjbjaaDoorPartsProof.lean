/- PathParts, where what it reads is of bulk at most 1048576: the law returns true, and its argument reads afterwards as it read before; the table of spans tied to the program's text. Conditions: none beyond the statement's own. -/
import Derived.Test.YtoknglpfchjbjaaDoorPartsWalk
import Derived.Test.YtoknglpfchjbjaaDoorOpenX
import Derived.Test.YtoknglpfchjbjaaDoorUtfDoor
import Derived.Test.YtoknglpfchjbjaaDoorCards
import Derived.Test.YtoknglpfchjbjaaDoorTie
import Derived.SevenTiedAt
import Derived.Deep.DeepHandedRow
import Derived.Deep.DeepWitnessRowRef
namespace Go.Proofs.YtoknglpfchjbjaaDoor
open Go.ChangeShapes Go.WideShapes Go.ChangeAt Go.RowKit Go.Sp Go.Deep

/-- A path that came in has room for its steps. -/
theorem path_cap {H : Type} {enc : TypeId × Value → H} {W : World} {spare : Nat → Bool} {held : Bool} {fuel : Nat} {cs : List Value} {x : DataW H × List MemPlace} (h : DataW.trod enc Tryd.prog W 0 spare held fuel 42 cs = some x) :
    ∀ a n c, cs = [Value.slice a n c] → n ≤ c := by
  intro a n c hcs
  obtain ⟨y0, n', _, hl, h0⟩ := trod_struct1 Tryd.underlying42 h
  rcases open_slice Tryd.underlying40 h0 with ⟨h1, _⟩ | ⟨_, _, _, _, _, _, _, h1, _, hc, _⟩
  · simp [hcs, pcellsQ] at h1
    omega
  · simp [hcs, pcellsQ] at h1
    omega

set_option maxRecDepth 100000 in
theorem parts_reads (os : Os) {H : Type} (enc : TypeId × Value → H) : ∃ places, DataW.whole enc Tryd.prog ((World.doorLaid Tryd.prog 19 os).forCall (fun _ _ => 0) ⟨#[], #[.slice none 0 0, .agg #[.slice none 0 0], .int .i64 0], []⟩).memory Tryd.f4.params.toList Rows.pathPartsSpec.vars false #[Value.slice none 0 0, .agg #[.slice none 0 0], .int .i64 0].toList 8 = some ([.nil, .agg [.nil], .lit (.int .i64 0)], [], places) :=
  ⟨[], by kernel_rfl⟩

set_option maxRecDepth 100000 in
theorem parts_lifted (os : Os) (started : os.Started) (H : Type) (enc : TypeId × Value → H) (F : Stop.Interp) :
    ReturnsInHanded {} Tryd.checked os 4 .any ((Rows.OpenSpec.upto Rows.pathPartsSpec).preRow enc Tryd.prog Tryd.f4 Rows.pathPartsUptoRow.domain false Rows.pathPartsUptoRow.laid) (((Rows.OpenSpec.upto Rows.pathPartsSpec).at F).post enc Tryd.prog Tryd.f4 false true false false) := by
  obtain ⟨places, hx⟩ := parts_reads os enc
  refine returnsInHanded_of_row (C := Tryd.checked) (s := Rows.OpenSpec.upto Rows.pathPartsSpec) ownKnobK started (by kernel_rfl) Tryd.func4
    (witness_row_atRef (enc := enc) (C := Tryd.checked) false (World.doorLaid Tryd.prog 19 os) #[.slice none 0 0, .agg #[.slice none 0 0], .int .i64 0] rfl (by kernel_rfl) (by kernel_rfl) (by kernel_rfl)
      (OpenSpec.preRow_of_cond 8 hx (by kernel_rfl) (fun k hk => by cases hk; kernel_rfl) (by kernel_rfl) (laidMet_of_run' 8 (by kernel_rfl) (by kernel_rfl)))) ?_
  intro W base args ds gs before hval0 hW _ hcond _ hL _ _
  have hval : ∀ (j : Nat) t v, Tryd.f4.params[j]? = some t → args[j]? = some v → Value.okWide Tryd.prog W .any base t v := hval0
  have hW' := hW
  obtain ⟨p, q, hA0, hV, rfl, hfz, hnd⟩ := hW
  have hA : DataW.TrodAll enc Tryd.prog W 0 (fun _ => true) true Tryd.f4.params.toList args.toList ds p := hA0
  rw [Tryd.params4] at hA hval
  obtain ⟨v0, v1, v2, d0, d1, d2, p0, p1, p2, rfl, rfl, rfl, h0, h1, h2⟩ := trodAll_three hA
  obtain ⟨rfl, rfl⟩ := trodVars_none hV
  obtain ⟨a0, len0, cap0, rfl⟩ := okWide_slice Tryd.underlying22 (hval 0 22 v0 rfl rfl)
  obtain ⟨cs1, rfl, hz1⟩ := okWide_struct Tryd.underlying42 (hval 1 42 v1 rfl rfl)
  obtain ⟨n2, rfl⟩ := okWide_int Tryd.underlying3 (hval 2 3 v2 rfl rfl)
  clear hA0 hval0
  have hsp := of_laid hL
  simp only [List.append_nil] at hW'
  have hlt : ∀ x ∈ p0 ++ (p1 ++ p2), x.block < W.heap.size := fun x hx => by simpa using hW'.lt x (by simpa using hx)
  have k0 := h0
  have k1 := h1
  obtain ⟨fu0, f0⟩ := h0
  obtain ⟨fu1, f1⟩ := h1
  have hbk : len0 ≤ 1048576 := by
    have h1 := bulk_slice (a := a0) (len := len0) (cap := cap0) Tryd.underlying22 (by simpa [Value.cells] using f0)
    have h2 := bulk_bound (hcond _ rfl)
    have h3 := bulk_mem (d := d0) (l := [d0, d1, d2] ++ []) (by simp)
    exact Nat.le_trans h1 (Nat.le_trans h3 h2)
  obtain ⟨b0, l0, c0, es0, e0, m0, n0, s0⟩ := open_stps f0
  simp [Value.cells] at e0
  obtain ⟨rfl, rfl, rfl⟩ := e0
  subst n0
  have hcp := path_cap f1
  obtain ⟨b1, c1, xs, e1, m1, s1⟩ := open_path f1
  obtain rfl : cs1 = #[.slice b1 xs.length c1] := by
    obtain ⟨l⟩ := cs1
    simp [Value.cells] at e1
    rw [e1]
  have hcc := hcp b1 xs.length c1 rfl
  unfold maxLen at m1
  refine (parts_walk es0 a0 cap0 xs b1 c1 n2 W s0 hbk s1 m1 hcc hsp).mono ?_
  rintro e W' ⟨rfl, hnx⟩
  have hr0 := Below.trod laidOutK (by kernel_rfl) (of_decide_eq_true (by kernel_rfl)) k0 hnx (fun x hx => hlt x (by simp [hx]))
  have hr1 := Below.trod laidOutK (by kernel_rfl) (of_decide_eq_true (by kernel_rfl)) k1 hnx (fun x hx => hlt x (by simp [hx]))
  have hr2 := Below.trod laidOutK (by kernel_rfl) (of_decide_eq_true (by kernel_rfl)) h2 hnx (fun x hx => hlt x (by simp [hx]))
  refine ⟨_, rfl, _, _, _, [], p0 ++ (p1 ++ p2), [], hW', ?_, ?_, rfl, hnx.frame _, fun h => by cases h⟩
  · exact trodAll_mk1 (shut_bool Tryd.underlying4 true)
  · exact trodAll_mk3 hr0 hr1 hr2

theorem parts_row : Rows.PathPartsUptoSaid :=
  OpenClaim.holds_of_cond 4 Tryd.f4 rfl rfl rfl rfl rfl rfl rfl ⟨rfl, rfl, rfl, rfl, rfl⟩ rfl rfl rfl rfl rfl (by kernel_rfl) Tryd.func4 (by kernel_rfl)
    (of_decide_eq_true (by kernel_rfl)) (by unfold Func.isWrapper; rw [if_neg (of_decide_eq_false (by kernel_rfl))]; exact ⟨rfl, rfl⟩)
    (fun os started H enc _ F => by rw [OpenClaim.pre_eq_preRow]; exact parts_lifted os started H enc F)

theorem parts_holds : Rows.PathPartsUptoCardSaid :=
  Claim7.holds_tied_plain_at .later [] _ _ _ _
    parts_row (fun _ h => by cases h) (by kernel_rfl) (fun _ h => by cases h) pathPartsUpto_row_tie rfl ⟨rfl, rfl⟩ (by kernel_rfl) rfl
    (fun f fn hf hfn => by
      obtain rfl : f = 4 := Option.some.inj ((show Tryd.prog.funcNamed "spyglass/spyglasslaw16.PathParts" = some 4 by kernel_rfl).symm.trans hf) |>.symm
      obtain rfl : fn = Tryd.f4 := (Option.some.inj (Tryd.func4.symm.trans hfn)).symm
      exact ⟨by kernel_rfl, fun j t ht => by
        rw [Tryd.params4] at ht
        have hm : t ∈ [22, 42, 3] := by simpa using Array.mem_of_getElem? ht
        have hall : ([22, 42, 3].all fun u => !Tryd.prog.wantsStandIn u) = true := by kernel_rfl
        exact (show Tryd.prog.wantsStandIn t = false by simpa using List.all_eq_true.1 hall t hm)⟩)
    (by kernel_rfl)

#print axioms parts_holds

end Go.Proofs.YtoknglpfchjbjaaDoor
