/- KeysJoins: for every input the law returns true, and each argument reads afterwards as it read before. Conditions: none. -/
import Derived.Test.YtbhdkionphemdaaKeysJoinsWalk
import Derived.Test.YtbhdkionphemdaaKeysTurnsProof
namespace Go.Proofs.Ytbhdkionphemdaa
open Go.ChangeShapes Go.WideShapes Go.ChangeAt Go.RowKit Go.Sp Go.Deep

theorem open_nil {H : Type} {enc : TypeId × Value → H} {P : Program} {W : World} {spare : Nat → Bool} {held : Bool} {t e : TypeId} {fuel : Nat} {cs : List Value} {x : DataW H × List MemPlace} (ht : P.underlying t = some (.slice e))
    (h : DataW.trod enc P W 0 spare held fuel t cs = some x) (len cap : Nat) (hc : cs = [.slice none len cap]) : cap = 0 := by
  rcases open_slice ht h with ⟨rfl, _⟩ | ⟨a, len', cap', m, n, D, Pl, rfl, _⟩
  · simp at hc; exact hc.2.symm
  · simp at hc

theorem cellsSl : Try.prog.cellsOf 22 = 1 := by kernel_rfl

theorem open_two {H : Type} {enc : TypeId × Value → H} {W : World} {spare : Nat → Bool} {held : Bool} {r : Reach} {b0 : Nat} {v : Value} {d : DataW H} {p : List MemPlace} (hv : Value.okWide Try.prog W r b0 41 v)
    (h : DataW.Trod enc Try.prog W 0 spare held 41 v d p) : ∃ a0 a1 c0 c1, ∃ v0 v1 : List Ent, v = .agg #[.slice a0 v0.length c0, .slice a1 v1.length c1] ∧
      Sl entS (fun b => b < W.heap.size) W a0 v0 ∧ Sl entS (fun b => b < W.heap.size) W a1 v1 ∧ (a0 = none → c0 = 0) ∧ (a1 = none → c1 = 0) ∧ v0.length ≤ maxLen ∧ v1.length ≤ maxLen := by
  have hc2 : Try.prog.cellsOf 41 = 2 := by kernel_rfl
  unfold Value.okWide at hv
  rw [Try.underlying41] at hv
  obtain ⟨cs, rfl, hsz, _⟩ := hv
  rw [hc2] at hsz
  obtain ⟨x0, x1, rfl⟩ := Joins.array2 hsz
  obtain ⟨fuel, hf⟩ := h
  obtain ⟨xs, m, _, _, _, hl, hel⟩ := DataW.trod_array Try.underlying41 hf
  have h0 := hel 0 (by omega)
  have h1 := hel 1 (by omega)
  simp [Value.cells, cellsSl] at h0 h1
  rw [List.getElem?_eq_getElem (by omega)] at h0 h1
  obtain ⟨a0, l0, c0, v0, e0, m0, n0, s0⟩ := open_entries h0
  obtain ⟨a1, l1, c1, v1, e1, m1, n1, s1⟩ := open_entries h1
  have z0 := open_nil Try.underlying22 h0
  have z1 := open_nil Try.underlying22 h1
  simp at e0 e1
  subst e0 e1 n0 n1
  exact ⟨a0, a1, c0, c1, v0, v1, rfl, s0, s1, fun h => z0 _ _ (by rw [h]), fun h => z1 _ _ (by rw [h]), m0, m1⟩

set_option maxRecDepth 100000 in
theorem joins_lifted (os : Os) (started : os.Started) (H : Type) (enc : TypeId × Value → H) :
    ReturnsInHanded {} Try.checked os 6 .any (Rows.keysJoinsSpec.pre6 enc Try.prog Try.f6 Rows.keysJoinsRow.domain false) (Rows.keysJoinsSpec.post enc Try.prog Try.f6 false true false false) := by
  refine returnsInHanded_of_change (C := Try.checked) ownKnobK started (by kernel_rfl) Try.func6
    (ChangeSpec.witness6 (enc := enc) (C := Try.checked) false ⟨#[], #[.agg #[.slice none 0 0, .slice none 0 0], .slice none 0 0], []⟩ 8 (by kernel_rfl) (by kernel_rfl) (by kernel_rfl) (by kernel_rfl)) ?_
  intro W base args ds gs before hval0 hW _ _
  have hval : ∀ (j : Nat) t v, Try.f6.params[j]? = some t → args[j]? = some v → Value.okWide Try.prog W .any base t v := hval0
  have hW' := hW
  obtain ⟨p, q, hA0, hV, rfl, hfz, hnd⟩ := hW
  have hA : DataW.TrodAll enc Try.prog W 0 (fun _ => true) true Try.f6.params.toList args.toList ds p := hA0
  rw [Try.params6] at hA hval
  obtain ⟨v0, v1, d0, d1, p0, p1, rfl, rfl, rfl, h0, h1⟩ := trodAll_two hA
  obtain ⟨rfl, rfl⟩ := trodVars_none hV
  obtain ⟨a0, a1, c0, c1, x0, x1, rfl, s0, s1, z0, z1, m0, m1⟩ := open_two (hval 0 41 v0 rfl rfl) h0
  obtain ⟨a2, len2, cap2, rfl⟩ := okWide_slice Try.underlying22 (hval 1 22 v1 rfl rfl)
  clear hA0 hval0
  simp only [List.append_nil] at hW'
  have hlt : ∀ x ∈ p0 ++ p1, x.block < W.heap.size := fun x hx => by simpa using hW'.lt x (by simpa using hx)
  have k1 := h1
  obtain ⟨fu1, f1⟩ := h1
  obtain ⟨b1, l1, e1c, es1, e1, m2, n1, s2⟩ := open_entries f1
  simp [Value.cells] at e1
  obtain ⟨rfl, rfl, rfl⟩ := e1
  subst n1
  unfold maxLen at m0 m1 m2
  refine (joins_walk a0 a1 a2 c0 c1 cap2 x0 x1 es1 W s0 s1 s2 z0 z1 m0 m1 m2).mono ?_
  rintro e W' ⟨rfl, hnx⟩
  have hr0 := Below.trod laidOutK (by kernel_rfl) (of_decide_eq_true (by kernel_rfl)) h0 hnx (fun x hx => hlt x (by simp [hx]))
  have hr1 := Below.trod laidOutK (by kernel_rfl) (of_decide_eq_true (by kernel_rfl)) k1 hnx (fun x hx => hlt x (by simp [hx]))
  refine ⟨_, rfl, _, _, _, [], p0 ++ p1, [], hW', ?_, ?_, rfl, hnx.frame _, fun h => by cases h⟩
  · exact trodAll_mk1 (shut_bool Try.underlying4 true)
  · exact trodAll_mk2 hr0 hr1

theorem joins_holds : Rows.KeysJoinsSaid :=
  OpenClaim.holds_of_wide 6 Try.f6 rfl rfl rfl rfl rfl rfl rfl ⟨rfl, rfl, rfl, rfl, rfl⟩ rfl rfl rfl rfl rfl (by kernel_rfl) Try.func6 (by kernel_rfl)
    (of_decide_eq_true (by kernel_rfl)) (by unfold Func.isWrapper; rw [if_neg (of_decide_eq_false (by kernel_rfl))]; exact ⟨rfl, rfl⟩)
    (fun os started H enc _ => joins_lifted os started H enc)

#print axioms joins_holds

end Go.Proofs.Ytbhdkionphemdaa
