/- A region that draws its order by an invariant that knows which operations have been. General: no program in sight. Conditions: none. -/
import Derived.Test.YtoknglpfchjbjaaDoorRegionInv
namespace Go.Sp
open Go.RowKit

section
variable {P : Program} {ops : Array Oper} {Q : Exit → Act → World → Prop}

/-- One goal an operation. -/
def StepInvO (P : Program) (ops : Array Oper) (Inv : (Nat → Bool) → (Nat → Value) → World → Prop) (df : List Deferred) (fr : (Nat → Value) → Array Value) : Nat → List Oper → Prop
  | _, [] => True
  | i, o :: r => (∀ L u w, L i = false → DepsDone L o.after.toList → Inv L u w → wpList P ops (StepPost fun a' w' => ∃ v, a' = Act.put ⟨fr u, df⟩ o.dst v ∧ Inv (updB L i) (updU u i v) w') [o] ⟨fr u, df⟩ w) ∧ StepInvO P ops Inv df fr (i + 1) r

theorem StepInvO.get {Inv : (Nat → Bool) → (Nat → Value) → World → Prop} {df : List Deferred} {fr : (Nat → Value) → Array Value} : ∀ {l : List Oper} {k : Nat}, StepInvO P ops Inv df fr k l → ∀ {i : Nat} {o : Oper}, l[i]? = some o →
    ∀ L u w, L (k + i) = false → DepsDone L o.after.toList → Inv L u w → wpList P ops (StepPost fun a' w' => ∃ v, a' = Act.put ⟨fr u, df⟩ o.dst v ∧ Inv (updB L (k + i)) (updU u (k + i) v) w') [o] ⟨fr u, df⟩ w
  | [], _, _, i, o, hi => by simp at hi
  | x :: l, k, h, 0, o, hi => by simp at hi; subst hi; exact h.1
  | x :: l, k, h, i + 1, o, hi => by
    have := StepInvO.get h.2 (i := i) (o := o) (by simpa using hi)
    rw [show k + (i + 1) = k + 1 + i from by omega]
    exact this

theorem wp_region_inv {l : List Oper} {id : Nat} {base : List Value} {df : List Deferred} {w : World} (hm : P.follows .mixedOrders = true)
    (slots : List (Option Nat)) (hsl : l.map (·.dst) = slots) (hok : slotsOk slots = true) (hd : edgesDown l = true)
    (fr : (Nat → Value) → Array Value) (hfr : ∀ u, (fillFrom slots u 0 base).toArray = fr u)
    (Inv : (Nat → Bool) → (Nat → Value) → World → Prop) (h0 : ∀ u, Inv (fun _ => false) u w.drew)
    (step : StepInvO P l.toArray Inv df fr 0 l)
    (fin : ∀ L u w', (∀ i, i < l.length → L i = true) → Inv L u w' → Q .normal ⟨fr u, df⟩ w') :
    (Code.region id l.toArray true).wp P Q ⟨base.toArray, df⟩ w := by
  subst hsl
  refine wp_region_any hm ?_
  have main : ∀ (fuel : Nat) (L : Array Bool) (u : Nat → Value) (w' : World), L.size = l.length → (L.toList.filter (! ·)).length ≤ fuel → Inv (fun i => L.getD i false) u w' →
      wpAny P .any l.toArray Q fuel L ⟨fr u, df⟩ w' := by
    intro fuel
    induction fuel with
    | zero =>
      intro L u w' hs hc hI
      have hnil : L.toList.filter (! ·) = [] := List.length_eq_zero_iff.1 (by omega)
      have hall : ∀ i, i < l.length → L.getD i false = true := by
        intro i hi
        have hLs : i < L.size := by omega
        have : L[i] ∈ L.toList := by simp
        have h2 := List.filter_eq_nil_iff.1 hnil _ this
        simp only [Array.getD, dif_pos hLs]
        simpa using h2
      exact ⟨ready_nil hs hall, fin _ u w' hall hI⟩
    | succ fuel ih =>
      intro L u w' hs hc hI
      refine ⟨fun hr => fin _ u w' (fun i hi => all_listed hd hs hr i hi) hI, fun i hi => ?_⟩
      obtain ⟨hlt, hLi, hdl⟩ := ready_mem hs hi
      have ho : l[i]? = some l[i] := List.getElem?_eq_getElem hlt
      have hLi2 : L.getD i false = false := by
        have h2 : L[i]? = some false := by simpa using hLi
        rw [Array.getD_eq_getD_getElem?, h2]; rfl
      have hst := step.get (i := i) (o := l[i]) ho (fun j => L.getD j false) u w' (by rw [Nat.zero_add]; exact hLi2) (depsDone_of _ fun e he hb => hdl e he hb) hI
      rw [Nat.zero_add] at hst
      refine wpOp_mono ?_ (wpOp_of_list (Q := Q) (by simp [ho]) hst)
      rintro a' w'' ⟨v, rfl, hI'⟩
      have hfru : Act.put ⟨fr u, df⟩ l[i].dst v = ⟨fr (updU u i v), df⟩ := by
        have hsl : (l.map (·.dst))[i]? = some l[i].dst := by simp [ho]
        cases hdst : l[i].dst with
        | none =>
          rw [hdst] at hsl
          simp only [Act.put]
          rw [← hfr, ← hfr, fill_none u base i hsl v]
        | some d =>
          rw [hdst] at hsl
          simp only [Act.put]
          rw [← hfr, ← hfr, fill_put hok u base i d hsl v]
      rw [hfru]
      refine ih _ _ _ (by simp [hs]) ?_ ?_
      · have := count_set L.toList i hLi
        simp only [Array.toList_setIfInBounds]
        omega
      · have he : (fun j => (L.setIfInBounds i true).getD j false) = updB (fun j => L.getD j false) i := by
          funext j
          unfold updB
          by_cases hji : j = i
          · subst hji
            have hlt2 : j < L.size := by omega
            rw [if_pos rfl, Array.getD_eq_getD_getElem?, Array.getElem?_setIfInBounds_self]
            simp [hlt2]
          · rw [if_neg hji]
            show (L.setIfInBounds i true).getD j false = L.getD j false
            rw [Array.getD_eq_getD_getElem?, Array.getD_eq_getD_getElem?, Array.getElem?_setIfInBounds_ne (fun e => hji e.symm)]
        rw [he]; exact hI'
  obtain ⟨u0, hu0⟩ := fill_self (l.map (·.dst)) base
  rw [← hu0, hfr]
  have hz : (fun i => (Array.replicate l.length false).getD i false) = fun _ => false := by
    funext i
    rw [Array.getD_eq_getD_getElem?]
    by_cases h : i < l.length <;> simp [h]
  have := main l.length (Array.replicate l.length false) u0 w.drew (by simp) (by simp) (by rw [hz]; exact h0 u0)
  simpa using this
end
end Go.Sp
