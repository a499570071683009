/- Merged: The rule for a region that draws its order (Region), inside a fence: in the body of a range over a function · A region that draws its order, inside a fence, by an invariant that knows which operations have been · A region that draws its order by an invariant that knows which operations have been · A region that draws its order and whose last operation, which waits for all the others, writes a slot that an earlier one reads: by an invariant that knows which operations have been. Conditions: those of the parts. -/
import Derived.Test.YtoknglpfchjbjaaGreatDoorRegion
import Derived.OrdersIn
import Derived.TacticsIn
/- The rule for a region that draws its order (Region), inside a fence: in the body of a range over a function. General: no program in sight. Conditions: none. -/
namespace Go.Sp
open Go.RowKit

section
variable {F : Fence} {n : Nat} {P : Program} {ops : Array Oper} {Q : Exit → Act → World → Prop}

theorem stepEndIn {a : Act} {w : World} (h : Q .normal a w) : wpListIn F n P ops (StepPost (normally Q)) [] a w := h

theorem wpOpIn_of_list {i : Nat} {o : Oper} {K : Act → World → Prop} {a : Act} {w : World} (ho : ops[i]? = some o) (h : wpListIn F n P ops (StepPost K) [o] a w) : wpOpIn F n P ops Q i K a w := by
  unfold wpOpIn
  rw [ho]
  simp only
  unfold wpListIn at h
  split
  · rename_i hw
    rw [if_pos hw] at h
    unfold Oper.wpIn at *
    refine ⟨h.1, ?_⟩
    have h := h.2
    generalize (o.semAt F.round a.eval).run P w = r at *
    cases r with
    | ok k w' =>
      cases k <;> simp only [Oper.uponIn] at h ⊢ <;>
        first
          | exact h
          | exact ⟨h.1, CallsIn.mono h.2 (fun e w'' he => by cases e <;> first | exact he | exact he.elim | (obtain ⟨_, _, he⟩ := he; exact he.elim))⟩
          | exact ⟨h.1, RoundIn.mono h.2 (fun e w'' he => by cases e <;> first | exact he | exact he.elim | (obtain ⟨_, _, he⟩ := he; exact he.elim))⟩
          | exact ⟨h.1, RowsIn.mono h.2 (fun _ _ he => he)⟩
    | halt x w' => cases x <;> simp only [Oper.uponIn] at h ⊢ <;> exact h.elim
  · rename_i hw
    rw [if_neg hw] at h
    exact h

/-- One goal an operation, the last one left out; b: has s been? -/
def StepTwoIn (F : Fence) (n : Nat) (P : Program) (ops : Array Oper) (Fx : Nat → Value → World → Prop) (s : Nat) (anc : List Nat) (G : Bool → World → Prop) (R : Nat → World → World → Prop) (df : List Deferred) (fr : (Nat → Value) → Array Value) : Nat → List Oper → Prop
  | _, [] => True
  | _, [_] => True
  | i, o :: o' :: r => (∀ u w b, (i ∈ anc ∨ i = s → b = false) → G b w → DepsHold Fx u w o.after.toList → wpListIn F n P ops (StepPost (StepK (R i) (Fx i) ⟨fr u, df⟩ o.dst w)) [o] ⟨fr u, df⟩ w) ∧ StepTwoIn F n P ops Fx s anc G R df fr (i + 1) (o' :: r)

theorem StepTwoIn.get {Fx : Nat → Value → World → Prop} {s : Nat} {anc : List Nat} {G : Bool → World → Prop} {R : Nat → World → World → Prop} {df : List Deferred} {fr : (Nat → Value) → Array Value} : ∀ {l : List Oper} {k : Nat}, StepTwoIn F n P ops Fx s anc G R df fr k l → ∀ {i : Nat} {o : Oper}, i + 1 < l.length → l[i]? = some o →
    ∀ u w b, (k + i ∈ anc ∨ k + i = s → b = false) → G b w → DepsHold Fx u w o.after.toList → wpListIn F n P ops (StepPost (StepK (R (k + i)) (Fx (k + i)) ⟨fr u, df⟩ o.dst w)) [o] ⟨fr u, df⟩ w
  | [], _, _, i, o, _, hi => by simp at hi
  | [x], k, h, i, o, hlt, hi => by simp at hlt
  | x :: y :: l, k, h, 0, o, _, hi => by simp at hi; subst hi; exact h.1
  | x :: y :: l, k, h, i + 1, o, hlt, hi => by
    have := StepTwoIn.get h.2 (i := i) (o := o) (by simpa using hlt) (by simpa using hi)
    rw [show k + (i + 1) = k + 1 + i from by omega]
    exact this

/-- .. AND ONE OPERATION s AHEAD OF IT TURNS THE WORLD's WORD FROM 'G false' TO 'G true': what s waits for never runs behind it. -/
theorem wpIn_region_two {l : List Oper} {id : Nat} {base : List Value} {df : List Deferred} {w : World} (hm : P.follows .mixedOrders = true)
    (slots : List (Option Nat)) (Fs : List (Value → World → Prop)) (s : Nat) (anc : List Nat) (G : Bool → World → Prop) (R : Nat → World → World → Prop)
    (hsl : l.map (·.dst) = slots) (hok : slotsOk slots = true) (hd : edgesDown l = true) (hlast : lastWaits l = true) (hanc : (anc.all fun i => (needs l l.length [s]).contains i) = true) (hlen : (Fs.length + 1 == l.length) = true)
    (fr : (Nat → Value) → Array Value) (hfr : ∀ u, (fillFrom slots u 0 base).toArray = fr u)
    (G0 : G false w.drew) (GR : ∀ i b w w', G b w → R i w w' → G (b || decide (i = s)) w') (FR : StableAll (fun w => ∃ b, G b w) R 0 Fs)
    (step : StepTwoIn F n P l.toArray (factAt Fs) s anc G R df fr 0 l)
    (o : Oper) (ho : l.getLast? = some o)
    (fin : ∀ u w' b, G b w' → AllF u w' 0 Fs → wpListIn F n P l.toArray (StepPost (normally Q)) [o] ⟨fr u, df⟩ w') :
    (Code.region id l.toArray true).wpIn F n P Q ⟨base.toArray, df⟩ w := by
  subst hsl
  have hlen' : Fs.length + 1 = l.length := by simpa using hlen
  have hol : l[l.length - 1]? = some o := by rw [← List.getLast?_eq_getElem?]; exact ho
  refine wpIn_region_any hm ?_
  have main : ∀ (fuel : Nat) (L : Array Bool) (u : Nat → Value) (w' : World), L.size = l.length → (L.toList.filter (! ·)).length ≤ fuel → L.getD (l.length - 1) true = false →
      (∀ i o, l[i]? = some o → L.getD i false = true → ∀ e ∈ o.after.toList, Region.binds .any e = true → L.getD e.on false = true) → G (L.getD s false) w' → (∀ i, i < l.length → L.getD i false = true → factAt Fs i (u i) w') →
      wpAnyIn F n P .any l.toArray Q fuel L ⟨fr u, df⟩ w' := by
    intro fuel
    induction fuel with
    | zero =>
      intro L u w' hs hc hnl _ _ _
      exfalso
      have hnil : L.toList.filter (! ·) = [] := List.length_eq_zero_iff.1 (by omega)
      have hLs : l.length - 1 < L.size := by omega
      have : L[l.length - 1] ∈ L.toList := by simp
      have h2 := List.filter_eq_nil_iff.1 hnil _ this
      rw [Array.getD_eq_getD_getElem?, Array.getElem?_eq_getElem hLs, Option.getD_some] at hnl
      rw [hnl] at h2
      simp at h2
    | succ fuel ih =>
      intro L u w' hs hc hnl hcl hG hF
      have hLs : l.length - 1 < L.size := by omega
      have hnl' : L.getD (l.length - 1) false = false := by
        rw [Array.getD_eq_getD_getElem?, Array.getElem?_eq_getElem hLs, Option.getD_some] at hnl ⊢
        exact hnl
      refine ⟨fun hr => ?_, fun i hi => ?_⟩
      · have := all_listed hd hs hr (l.length - 1) (by omega)
        rw [hnl'] at this; cases this
      obtain ⟨hlt, hLi, hdl⟩ := ready_mem hs hi
      have ho : l[i]? = some l[i] := List.getElem?_eq_getElem hlt
      by_cases hil : i = l.length - 1
      · -- the last one: all the others have been
        have hoi : l[i] = o := by rw [← hil] at hol; rw [ho] at hol; exact Option.some.inj hol
        have hothers : ∀ j, j < l.length → j ≠ i → L.getD j false = true := by
          intro j hj hji
          have hin := List.all_eq_true.1 hlast j (List.mem_range.2 hj)
          have hcl' : ∀ k o', l[k]? = some o' → (L.setIfInBounds i true).getD k false = true → ∀ e ∈ o'.after.toList, Region.binds .any e = true → (L.setIfInBounds i true).getD e.on false = true := by
            intro k o' hk hLk e he hb
            by_cases hki : k = i
            · subst hki
              rw [ho] at hk
              cases hk
              exact getD_set_mono (hdl e he hb)
            · exact getD_set_mono (hcl k o' hk (getD_set hLk hki) e he hb)
          have := needs_listed hcl' l.length [l.length - 1] (fun k hk => by
            simp at hk; subst hk; rw [← hil]
            have : i < L.size := by omega
            rw [Array.getD_eq_getD_getElem?, Array.getElem?_setIfInBounds_self]
            simp [this]) j (by simpa using hin)
          exact getD_set this hji
        have hst := fin u w' _ hG (allF_of Fs 0 fun j hj => by rw [Nat.zero_add]; exact hF j (by omega) (hothers j (by omega) (by omega)))
        rw [← hoi] at hst
        refine wpOpIn_mono ?_ (wpOpIn_of_list (Q := Q) (by simp [ho]) hst)
        intro a' w'' hq
        have hall : ∀ j, j < l.length → (L.setIfInBounds i true).getD j false = true := by
          intro j hj
          by_cases hji : j = i
          · subst hji
            have : j < L.size := by omega
            rw [Array.getD_eq_getD_getElem?, Array.getElem?_setIfInBounds_self]
            simp [this]
          · exact getD_set_mono (hothers j hj hji)
        have hrn := ready_nil (l := l) (L := L.setIfInBounds i true) (by simp [hs]) hall
        cases fuel with
        | zero => exact ⟨hrn, hq⟩
        | succ fuel => exact ⟨fun _ => hq, fun j hj => by rw [hrn] at hj; cases hj⟩
      · have hdeps : DepsHold (factAt Fs) u w' l[i].after.toList := by
          refine depsHold_of _ fun e he hb => ?_
          have := hdl e he hb
          have hes : e.on < L.size := by
            rcases Nat.lt_or_ge e.on L.size with h | h
            · exact h
            · simp [Array.getD, Nat.not_lt.2 h] at this
          exact hF e.on (by omega) this
        have hnb : i ∈ anc ∨ i = s → L.getD s false = false := by
          intro hia
          cases hLs' : L.getD s false with
          | false => rfl
          | true =>
            exfalso
            have hLi2 : L.getD i false = false := by
              have h2 : L[i]? = some false := by simpa using hLi
              rw [Array.getD_eq_getD_getElem?, h2]; rfl
            rcases hia with hia | rfl
            · have := List.all_eq_true.1 hanc i hia
              have := needs_listed hcl l.length [s] (fun k hk => by simp at hk; subst hk; exact hLs') i (by simpa using this)
              rw [hLi2] at this; cases this
            · rw [hLi2] at hLs'; cases hLs'
        have hst := step.get (i := i) (o := l[i]) (by omega) ho u w' (L.getD s false) (by rw [Nat.zero_add]; exact hnb) hG hdeps
        rw [Nat.zero_add] at hst
        refine wpOpIn_mono ?_ (wpOpIn_of_list (Q := Q) (by simp [ho]) hst)
        rintro a' w'' ⟨hR, v, rfl, hFi⟩
        have hfru : Act.put ⟨fr u, df⟩ l[i].dst v = ⟨fr (updU u i v), df⟩ := by
          have hsl : (l.map (·.dst))[i]? = some l[i].dst := by simp [ho]
          cases hdst : l[i].dst with
          | none =>
            rw [hdst] at hsl
            simp only [Act.put]
            rw [← hfr, ← hfr, fill_none u base i hsl v]
          | some d =>
            rw [hdst] at hsl
            simp only [Act.put]
            rw [← hfr, ← hfr, fill_put hok u base i d hsl v]
        rw [hfru]
        have hGn : G ((L.setIfInBounds i true).getD s false) w'' := by
          have h2 := GR _ _ _ _ hG hR
          by_cases his : i = s
          · subst his
            have hlt2 : i < L.size := by omega
            have : (L.setIfInBounds i true).getD i false = true := by
              rw [Array.getD_eq_getD_getElem?, Array.getElem?_setIfInBounds_self]; simp [hlt2]
            rw [this]
            simpa using h2
          · have : (L.setIfInBounds i true).getD s false = L.getD s false := by
              rw [Array.getD_eq_getD_getElem?, Array.getD_eq_getD_getElem?, Array.getElem?_setIfInBounds_ne his]
            rw [this]
            simpa [his] using h2
        refine ih _ _ _ (by simp [hs]) ?_ ?_ ?_ hGn fun j hj hLj => ?_
        · have := count_set L.toList i hLi
          simp only [Array.toList_setIfInBounds]
          omega
        · rw [Array.getD_eq_getD_getElem?] at hnl ⊢
          rw [Array.getElem?_setIfInBounds_ne hil]
          exact hnl
        · intro k o' hk hLk e he hb
          by_cases hki : k = i
          · subst hki
            rw [ho] at hk
            cases hk
            exact getD_set_mono (hdl e he hb)
          · exact getD_set_mono (hcl k o' hk (getD_set hLk hki) e he hb)
        · by_cases hji : j = i
          · subst hji; simpa [updU] using hFi
          · simp only [updU, if_neg hji]
            exact stable_of FR j i (by omega) _ _ _ ⟨_, hG⟩ hR (hF j hj (getD_set hLj hji))
  obtain ⟨u0, hu0⟩ := fill_self (l.map (·.dst)) base
  rw [← hu0, hfr]
  have := main l.length (Array.replicate l.length false) u0 w.drew (by simp) (by simp) (by
    have : l.length - 1 < l.length := by omega
    simp [Array.getD, this]) (fun i o hio h => by
    have : i < l.length := (List.getElem?_eq_some_iff.1 hio).1
    simp [Array.getD, this] at h) (by
    have : (Array.replicate l.length false).getD s false = false := by rw [Array.getD_eq_getD_getElem?]; by_cases h : s < l.length <;> simp [h]
    rw [this]; exact G0) (fun i hi h => by simp [Array.getD, hi] at h)
  simpa using this
end
end Go.Sp

/- A region that draws its order, inside a fence, by an invariant that knows which operations have been. General: no program in sight. Conditions: none. -/
namespace Go.Sp
open Go.RowKit

def updB (L : Nat → Bool) (i : Nat) : Nat → Bool := fun j => if j = i then true else L j
def DepsDone (L : Nat → Bool) : List Edge → Prop
  | [] => True
  | e :: r => (Region.binds .any e = true → L e.on = true) ∧ DepsDone L r
theorem depsDone_of {L : Nat → Bool} : ∀ (l : List Edge), (∀ e ∈ l, Region.binds .any e = true → L e.on = true) → DepsDone L l
  | [], _ => trivial
  | e :: r, h => ⟨h e (by simp), depsDone_of r fun e' he => h e' (by simp [he])⟩

section
variable {F : Fence} {n : Nat} {P : Program} {ops : Array Oper} {Q : Exit → Act → World → Prop}

/-- One goal an operation. -/
def StepInv (F : Fence) (n : Nat) (P : Program) (ops : Array Oper) (Inv : (Nat → Bool) → (Nat → Value) → World → Prop) (df : List Deferred) (fr : (Nat → Value) → Array Value) : Nat → List Oper → Prop
  | _, [] => True
  | i, o :: r => (∀ L u w, L i = false → DepsDone L o.after.toList → Inv L u w → wpListIn F n P ops (StepPost fun a' w' => ∃ v, a' = Act.put ⟨fr u, df⟩ o.dst v ∧ Inv (updB L i) (updU u i v) w') [o] ⟨fr u, df⟩ w) ∧ StepInv F n P ops Inv df fr (i + 1) r

theorem StepInv.get {Inv : (Nat → Bool) → (Nat → Value) → World → Prop} {df : List Deferred} {fr : (Nat → Value) → Array Value} : ∀ {l : List Oper} {k : Nat}, StepInv F n P ops Inv df fr k l → ∀ {i : Nat} {o : Oper}, l[i]? = some o →
    ∀ L u w, L (k + i) = false → DepsDone L o.after.toList → Inv L u w → wpListIn F n P ops (StepPost fun a' w' => ∃ v, a' = Act.put ⟨fr u, df⟩ o.dst v ∧ Inv (updB L (k + i)) (updU u (k + i) v) w') [o] ⟨fr u, df⟩ w
  | [], _, _, i, o, hi => by simp at hi
  | x :: l, k, h, 0, o, hi => by simp at hi; subst hi; exact h.1
  | x :: l, k, h, i + 1, o, hi => by
    have := StepInv.get h.2 (i := i) (o := o) (by simpa using hi)
    rw [show k + (i + 1) = k + 1 + i from by omega]
    exact this

theorem wpIn_region_inv {l : List Oper} {id : Nat} {base : List Value} {df : List Deferred} {w : World} (hm : P.follows .mixedOrders = true)
    (slots : List (Option Nat)) (hsl : l.map (·.dst) = slots) (hok : slotsOk slots = true) (hd : edgesDown l = true)
    (fr : (Nat → Value) → Array Value) (hfr : ∀ u, (fillFrom slots u 0 base).toArray = fr u)
    (Inv : (Nat → Bool) → (Nat → Value) → World → Prop) (h0 : ∀ u, Inv (fun _ => false) u w.drew)
    (step : StepInv F n P l.toArray Inv df fr 0 l)
    (fin : ∀ L u w', (∀ i, i < l.length → L i = true) → Inv L u w' → Q .normal ⟨fr u, df⟩ w') :
    (Code.region id l.toArray true).wpIn F n P Q ⟨base.toArray, df⟩ w := by
  subst hsl
  refine wpIn_region_any hm ?_
  have main : ∀ (fuel : Nat) (L : Array Bool) (u : Nat → Value) (w' : World), L.size = l.length → (L.toList.filter (! ·)).length ≤ fuel → Inv (fun i => L.getD i false) u w' →
      wpAnyIn F n P .any l.toArray Q fuel L ⟨fr u, df⟩ w' := by
    intro fuel
    induction fuel with
    | zero =>
      intro L u w' hs hc hI
      have hnil : L.toList.filter (! ·) = [] := List.length_eq_zero_iff.1 (by omega)
      have hall : ∀ i, i < l.length → L.getD i false = true := by
        intro i hi
        have hLs : i < L.size := by omega
        have : L[i] ∈ L.toList := by simp
        have h2 := List.filter_eq_nil_iff.1 hnil _ this
        simp only [Array.getD, dif_pos hLs]
        simpa using h2
      exact ⟨ready_nil hs hall, fin _ u w' hall hI⟩
    | succ fuel ih =>
      intro L u w' hs hc hI
      refine ⟨fun hr => fin _ u w' (fun i hi => all_listed hd hs hr i hi) hI, fun i hi => ?_⟩
      obtain ⟨hlt, hLi, hdl⟩ := ready_mem hs hi
      have ho : l[i]? = some l[i] := List.getElem?_eq_getElem hlt
      have hLi2 : L.getD i false = false := by
        have h2 : L[i]? = some false := by simpa using hLi
        rw [Array.getD_eq_getD_getElem?, h2]; rfl
      have hst := step.get (i := i) (o := l[i]) ho (fun j => L.getD j false) u w' (by rw [Nat.zero_add]; exact hLi2) (depsDone_of _ fun e he hb => hdl e he hb) hI
      rw [Nat.zero_add] at hst
      refine wpOpIn_mono ?_ (wpOpIn_of_list (Q := Q) (by simp [ho]) hst)
      rintro a' w'' ⟨v, rfl, hI'⟩
      have hfru : Act.put ⟨fr u, df⟩ l[i].dst v = ⟨fr (updU u i v), df⟩ := by
        have hsl : (l.map (·.dst))[i]? = some l[i].dst := by simp [ho]
        cases hdst : l[i].dst with
        | none =>
          rw [hdst] at hsl
          simp only [Act.put]
          rw [← hfr, ← hfr, fill_none u base i hsl v]
        | some d =>
          rw [hdst] at hsl
          simp only [Act.put]
          rw [← hfr, ← hfr, fill_put hok u base i d hsl v]
      rw [hfru]
      refine ih _ _ _ (by simp [hs]) ?_ ?_
      · have := count_set L.toList i hLi
        simp only [Array.toList_setIfInBounds]
        omega
      · have he : (fun j => (L.setIfInBounds i true).getD j false) = updB (fun j => L.getD j false) i := by
          funext j
          unfold updB
          by_cases hji : j = i
          · subst hji
            have hlt2 : j < L.size := by omega
            rw [if_pos rfl, Array.getD_eq_getD_getElem?, Array.getElem?_setIfInBounds_self]
            simp [hlt2]
          · rw [if_neg hji]
            show (L.setIfInBounds i true).getD j false = L.getD j false
            rw [Array.getD_eq_getD_getElem?, Array.getD_eq_getD_getElem?, Array.getElem?_setIfInBounds_ne (fun e => hji e.symm)]
        rw [he]; exact hI'
  obtain ⟨u0, hu0⟩ := fill_self (l.map (·.dst)) base
  rw [← hu0, hfr]
  have hz : (fun i => (Array.replicate l.length false).getD i false) = fun _ => false := by
    funext i
    rw [Array.getD_eq_getD_getElem?]
    by_cases h : i < l.length <;> simp [h]
  have := main l.length (Array.replicate l.length false) u0 w.drew (by simp) (by simp) (by rw [hz]; exact h0 u0)
  simpa using this
end
end Go.Sp

/- A region that draws its order by an invariant that knows which operations have been. General: no program in sight. Conditions: none. -/
namespace Go.Sp
open Go.RowKit

section
variable {P : Program} {ops : Array Oper} {Q : Exit → Act → World → Prop}

/-- One goal an operation. -/
def StepInvO (P : Program) (ops : Array Oper) (Inv : (Nat → Bool) → (Nat → Value) → World → Prop) (df : List Deferred) (fr : (Nat → Value) → Array Value) : Nat → List Oper → Prop
  | _, [] => True
  | i, o :: r => (∀ L u w, L i = false → DepsDone L o.after.toList → Inv L u w → wpList P ops (StepPost fun a' w' => ∃ v, a' = Act.put ⟨fr u, df⟩ o.dst v ∧ Inv (updB L i) (updU u i v) w') [o] ⟨fr u, df⟩ w) ∧ StepInvO P ops Inv df fr (i + 1) r

theorem StepInvO.get {Inv : (Nat → Bool) → (Nat → Value) → World → Prop} {df : List Deferred} {fr : (Nat → Value) → Array Value} : ∀ {l : List Oper} {k : Nat}, StepInvO P ops Inv df fr k l → ∀ {i : Nat} {o : Oper}, l[i]? = some o →
    ∀ L u w, L (k + i) = false → DepsDone L o.after.toList → Inv L u w → wpList P ops (StepPost fun a' w' => ∃ v, a' = Act.put ⟨fr u, df⟩ o.dst v ∧ Inv (updB L (k + i)) (updU u (k + i) v) w') [o] ⟨fr u, df⟩ w
  | [], _, _, i, o, hi => by simp at hi
  | x :: l, k, h, 0, o, hi => by simp at hi; subst hi; exact h.1
  | x :: l, k, h, i + 1, o, hi => by
    have := StepInvO.get h.2 (i := i) (o := o) (by simpa using hi)
    rw [show k + (i + 1) = k + 1 + i from by omega]
    exact this

theorem wp_region_inv {l : List Oper} {id : Nat} {base : List Value} {df : List Deferred} {w : World} (hm : P.follows .mixedOrders = true)
    (slots : List (Option Nat)) (hsl : l.map (·.dst) = slots) (hok : slotsOk slots = true) (hd : edgesDown l = true)
    (fr : (Nat → Value) → Array Value) (hfr : ∀ u, (fillFrom slots u 0 base).toArray = fr u)
    (Inv : (Nat → Bool) → (Nat → Value) → World → Prop) (h0 : ∀ u, Inv (fun _ => false) u w.drew)
    (step : StepInvO P l.toArray Inv df fr 0 l)
    (fin : ∀ L u w', (∀ i, i < l.length → L i = true) → Inv L u w' → Q .normal ⟨fr u, df⟩ w') :
    (Code.region id l.toArray true).wp P Q ⟨base.toArray, df⟩ w := by
  subst hsl
  refine wp_region_any hm ?_
  have main : ∀ (fuel : Nat) (L : Array Bool) (u : Nat → Value) (w' : World), L.size = l.length → (L.toList.filter (! ·)).length ≤ fuel → Inv (fun i => L.getD i false) u w' →
      wpAny P .any l.toArray Q fuel L ⟨fr u, df⟩ w' := by
    intro fuel
    induction fuel with
    | zero =>
      intro L u w' hs hc hI
      have hnil : L.toList.filter (! ·) = [] := List.length_eq_zero_iff.1 (by omega)
      have hall : ∀ i, i < l.length → L.getD i false = true := by
        intro i hi
        have hLs : i < L.size := by omega
        have : L[i] ∈ L.toList := by simp
        have h2 := List.filter_eq_nil_iff.1 hnil _ this
        simp only [Array.getD, dif_pos hLs]
        simpa using h2
      exact ⟨ready_nil hs hall, fin _ u w' hall hI⟩
    | succ fuel ih =>
      intro L u w' hs hc hI
      refine ⟨fun hr => fin _ u w' (fun i hi => all_listed hd hs hr i hi) hI, fun i hi => ?_⟩
      obtain ⟨hlt, hLi, hdl⟩ := ready_mem hs hi
      have ho : l[i]? = some l[i] := List.getElem?_eq_getElem hlt
      have hLi2 : L.getD i false = false := by
        have h2 : L[i]? = some false := by simpa using hLi
        rw [Array.getD_eq_getD_getElem?, h2]; rfl
      have hst := step.get (i := i) (o := l[i]) ho (fun j => L.getD j false) u w' (by rw [Nat.zero_add]; exact hLi2) (depsDone_of _ fun e he hb => hdl e he hb) hI
      rw [Nat.zero_add] at hst
      refine wpOp_mono ?_ (wpOp_of_list (Q := Q) (by simp [ho]) hst)
      rintro a' w'' ⟨v, rfl, hI'⟩
      have hfru : Act.put ⟨fr u, df⟩ l[i].dst v = ⟨fr (updU u i v), df⟩ := by
        have hsl : (l.map (·.dst))[i]? = some l[i].dst := by simp [ho]
        cases hdst : l[i].dst with
        | none =>
          rw [hdst] at hsl
          simp only [Act.put]
          rw [← hfr, ← hfr, fill_none u base i hsl v]
        | some d =>
          rw [hdst] at hsl
          simp only [Act.put]
          rw [← hfr, ← hfr, fill_put hok u base i d hsl v]
      rw [hfru]
      refine ih _ _ _ (by simp [hs]) ?_ ?_
      · have := count_set L.toList i hLi
        simp only [Array.toList_setIfInBounds]
        omega
      · have he : (fun j => (L.setIfInBounds i true).getD j false) = updB (fun j => L.getD j false) i := by
          funext j
          unfold updB
          by_cases hji : j = i
          · subst hji
            have hlt2 : j < L.size := by omega
            rw [if_pos rfl, Array.getD_eq_getD_getElem?, Array.getElem?_setIfInBounds_self]
            simp [hlt2]
          · rw [if_neg hji]
            show (L.setIfInBounds i true).getD j false = L.getD j false
            rw [Array.getD_eq_getD_getElem?, Array.getD_eq_getD_getElem?, Array.getElem?_setIfInBounds_ne (fun e => hji e.symm)]
        rw [he]; exact hI'
  obtain ⟨u0, hu0⟩ := fill_self (l.map (·.dst)) base
  rw [← hu0, hfr]
  have hz : (fun i => (Array.replicate l.length false).getD i false) = fun _ => false := by
    funext i
    rw [Array.getD_eq_getD_getElem?]
    by_cases h : i < l.length <;> simp [h]
  have := main l.length (Array.replicate l.length false) u0 w.drew (by simp) (by simp) (by rw [hz]; exact h0 u0)
  simpa using this
end
end Go.Sp

/- A region that draws its order and whose last operation, which waits for all the others, writes a slot that an earlier one reads: by an invariant that knows which operations have been. General: no program in sight. Conditions: none. -/
namespace Go.Sp
open Go.RowKit

/-- Whatever has been, what it waits for has been. -/
def Clos (l : List Oper) (L : Nat → Bool) : Prop := ∀ s j, L s = true → (needs l l.length [s]).contains j = true → L j = true
theorem clos_of {l : List Oper} {L : Array Bool} (hcl : ∀ i o, l[i]? = some o → L.getD i false = true → ∀ e ∈ o.after.toList, Region.binds .any e = true → L.getD e.on false = true) : Clos l (fun i => L.getD i false) :=
  fun s j hs hj => needs_listed hcl l.length [s] (fun k hk => by simp at hk; subst hk; exact hs) j (by simpa using hj)

section
variable {P : Program} {ops : Array Oper} {Q : Exit → Act → World → Prop}

/-- One goal an operation, the last one left out. -/
def StepInvI (l : List Oper) (P : Program) (ops : Array Oper) (Inv : (Nat → Bool) → (Nat → Value) → World → Prop) (df : List Deferred) (fr : (Nat → Value) → Array Value) : Nat → List Oper → Prop
  | _, [] => True
  | _, [_] => True
  | i, o :: o' :: r => (∀ L u w, L i = false → Clos l L → DepsDone L o.after.toList → Inv L u w → wpList P ops (StepPost fun a' w' => ∃ v, a' = Act.put ⟨fr u, df⟩ o.dst v ∧ Inv (updB L i) (updU u i v) w') [o] ⟨fr u, df⟩ w) ∧ StepInvI l P ops Inv df fr (i + 1) (o' :: r)

theorem StepInvI.get {l0 : List Oper} {Inv : (Nat → Bool) → (Nat → Value) → World → Prop} {df : List Deferred} {fr : (Nat → Value) → Array Value} : ∀ {l : List Oper} {k : Nat}, StepInvI l0 P ops Inv df fr k l → ∀ {i : Nat} {o : Oper}, i + 1 < l.length → l[i]? = some o →
    ∀ L u w, L (k + i) = false → Clos l0 L → DepsDone L o.after.toList → Inv L u w → wpList P ops (StepPost fun a' w' => ∃ v, a' = Act.put ⟨fr u, df⟩ o.dst v ∧ Inv (updB L (k + i)) (updU u (k + i) v) w') [o] ⟨fr u, df⟩ w
  | [], _, _, i, o, _, hi => by simp at hi
  | [x], k, h, i, o, hlt, hi => by simp at hlt
  | x :: y :: l, k, h, 0, o, _, hi => by simp at hi; subst hi; exact h.1
  | x :: y :: l, k, h, i + 1, o, hlt, hi => by
    have := StepInvI.get h.2 (i := i) (o := o) (by simpa using hlt) (by simpa using hi)
    rw [show k + (i + 1) = k + 1 + i from by omega]
    exact this

theorem wp_region_inv_own {l : List Oper} {id : Nat} {base : List Value} {df : List Deferred} {w : World} (hm : P.follows .mixedOrders = true)
    (slots : List (Option Nat)) (hsl : l.dropLast.map (·.dst) ++ [none] = slots) (hok : slotsOk slots = true) (hd : edgesDown l = true) (hlast : lastWaits l = true)
    (fr : (Nat → Value) → Array Value) (hfr : ∀ u, (fillFrom slots u 0 base).toArray = fr u)
    (Inv : (Nat → Bool) → (Nat → Value) → World → Prop) (h0 : ∀ u, Inv (fun _ => false) u w.drew)
    (step : StepInvI l P l.toArray Inv df fr 0 l)
    (o : Oper) (ho : l.getLast? = some o)
    (fin : ∀ L u w', (∀ i, i + 1 < l.length → L i = true) → Inv L u w' → wpList P l.toArray (StepPost (normally Q)) [o] ⟨fr u, df⟩ w') :
    (Code.region id l.toArray true).wp P Q ⟨base.toArray, df⟩ w := by
  subst hsl
  have hlpos : 0 < l.length := by
    cases l with
    | nil => simp at ho
    | cons => simp
  have hol : l[l.length - 1]? = some o := by rw [← List.getLast?_eq_getElem?]; exact ho
  refine wp_region_any hm ?_
  have main : ∀ (fuel : Nat) (L : Array Bool) (u : Nat → Value) (w' : World), L.size = l.length → (L.toList.filter (! ·)).length ≤ fuel → L.getD (l.length - 1) true = false →
      (∀ i o, l[i]? = some o → L.getD i false = true → ∀ e ∈ o.after.toList, Region.binds .any e = true → L.getD e.on false = true) → Inv (fun i => L.getD i false) u w' →
      wpAny P .any l.toArray Q fuel L ⟨fr u, df⟩ w' := by
    intro fuel
    induction fuel with
    | zero =>
      intro L u w' hs hc hnl _ _
      exfalso
      have hnil : L.toList.filter (! ·) = [] := List.length_eq_zero_iff.1 (by omega)
      have hLs : l.length - 1 < L.size := by omega
      have : L[l.length - 1] ∈ L.toList := by simp
      have h2 := List.filter_eq_nil_iff.1 hnil _ this
      rw [Array.getD_eq_getD_getElem?, Array.getElem?_eq_getElem hLs, Option.getD_some] at hnl
      rw [hnl] at h2
      simp at h2
    | succ fuel ih =>
      intro L u w' hs hc hnl hcl hI
      have hLs : l.length - 1 < L.size := by omega
      have hnl' : L.getD (l.length - 1) false = false := by
        rw [Array.getD_eq_getD_getElem?, Array.getElem?_eq_getElem hLs, Option.getD_some] at hnl ⊢
        exact hnl
      refine ⟨fun hr => ?_, fun i hi => ?_⟩
      · have := all_listed hd hs hr (l.length - 1) (by omega)
        rw [hnl'] at this; cases this
      obtain ⟨hlt, hLi, hdl⟩ := ready_mem hs hi
      have ho : l[i]? = some l[i] := List.getElem?_eq_getElem hlt
      by_cases hil : i = l.length - 1
      · have hoi : l[i] = o := by rw [← hil] at hol; rw [ho] at hol; exact Option.some.inj hol
        have hothers : ∀ j, j < l.length → j ≠ i → L.getD j false = true := by
          intro j hj hji
          have hin := List.all_eq_true.1 hlast j (List.mem_range.2 hj)
          have hcl' : ∀ k o', l[k]? = some o' → (L.setIfInBounds i true).getD k false = true → ∀ e ∈ o'.after.toList, Region.binds .any e = true → (L.setIfInBounds i true).getD e.on false = true := by
            intro k o' hk hLk e he hb
            by_cases hki : k = i
            · subst hki
              rw [ho] at hk
              cases hk
              exact getD_set_mono (hdl e he hb)
            · exact getD_set_mono (hcl k o' hk (getD_set hLk hki) e he hb)
          have := needs_listed hcl' l.length [l.length - 1] (fun k hk => by
            simp at hk; subst hk; rw [← hil]
            have : i < L.size := by omega
            rw [Array.getD_eq_getD_getElem?, Array.getElem?_setIfInBounds_self]
            simp [this]) j (by simpa using hin)
          exact getD_set this hji
        have hst := fin _ u w' (fun j hj => hothers j (by omega) (by omega)) hI
        rw [← hoi] at hst
        refine wpOp_mono ?_ (wpOp_of_list (Q := Q) (by simp [ho]) hst)
        intro a' w'' hq
        have hall : ∀ j, j < l.length → (L.setIfInBounds i true).getD j false = true := by
          intro j hj
          by_cases hji : j = i
          · subst hji
            have : j < L.size := by omega
            rw [Array.getD_eq_getD_getElem?, Array.getElem?_setIfInBounds_self]
            simp [this]
          · exact getD_set_mono (hothers j hj hji)
        have hrn := ready_nil (l := l) (L := L.setIfInBounds i true) (by simp [hs]) hall
        cases fuel with
        | zero => exact ⟨hrn, hq⟩
        | succ fuel => exact ⟨fun _ => hq, fun j hj => by rw [hrn] at hj; cases hj⟩
      · have hLi2 : L.getD i false = false := by
          have h2 : L[i]? = some false := by simpa using hLi
          rw [Array.getD_eq_getD_getElem?, h2]; rfl
        have hst := step.get (i := i) (o := l[i]) (by omega) ho (fun j => L.getD j false) u w' (by rw [Nat.zero_add]; exact hLi2) (clos_of hcl) (depsDone_of _ fun e he hb => hdl e he hb) hI
        rw [Nat.zero_add] at hst
        refine wpOp_mono ?_ (wpOp_of_list (Q := Q) (by simp [ho]) hst)
        rintro a' w'' ⟨v, rfl, hI'⟩
        have hfru : Act.put ⟨fr u, df⟩ l[i].dst v = ⟨fr (updU u i v), df⟩ := by
          have hsl : (l.dropLast.map (·.dst) ++ [none])[i]? = some l[i].dst := by rw [List.getElem?_append_left (by simp; omega), List.getElem?_map, List.getElem?_dropLast, if_pos (by omega), ho]; rfl
          cases hdst : l[i].dst with
          | none =>
            rw [hdst] at hsl
            simp only [Act.put]
            rw [← hfr, ← hfr, fill_none u base i hsl v]
          | some d =>
            rw [hdst] at hsl
            simp only [Act.put]
            rw [← hfr, ← hfr, fill_put hok u base i d hsl v]
        rw [hfru]
        refine ih _ _ _ (by simp [hs]) ?_ ?_ ?_ ?_
        · have := count_set L.toList i hLi
          simp only [Array.toList_setIfInBounds]
          omega
        · rw [Array.getD_eq_getD_getElem?] at hnl ⊢
          rw [Array.getElem?_setIfInBounds_ne hil]
          exact hnl
        · intro k o' hk hLk e he hb
          by_cases hki : k = i
          · subst hki
            rw [ho] at hk
            cases hk
            exact getD_set_mono (hdl e he hb)
          · exact getD_set_mono (hcl k o' hk (getD_set hLk hki) e he hb)
        · have he : (fun j => (L.setIfInBounds i true).getD j false) = updB (fun j => L.getD j false) i := by
            funext j
            unfold updB
            by_cases hji : j = i
            · subst hji
              have hlt2 : j < L.size := by omega
              rw [if_pos rfl, Array.getD_eq_getD_getElem?, Array.getElem?_setIfInBounds_self]
              simp [hlt2]
            · rw [if_neg hji]
              show (L.setIfInBounds i true).getD j false = L.getD j false
              rw [Array.getD_eq_getD_getElem?, Array.getD_eq_getD_getElem?, Array.getElem?_setIfInBounds_ne (fun e => hji e.symm)]
          rw [he]; exact hI'
  obtain ⟨u0, hu0⟩ := fill_self (l.dropLast.map (·.dst) ++ [none]) base
  rw [← hu0, hfr]
  have hz : (fun i => (Array.replicate l.length false).getD i false) = fun _ => false := by
    funext i
    rw [Array.getD_eq_getD_getElem?]
    by_cases h : i < l.length <;> simp [h]
  have := main l.length (Array.replicate l.length false) u0 w.drew (by simp) (by simp) (by
    have : l.length - 1 < l.length := by omega
    simp [Array.getD, this]) (fun i o hio h => by
    have : i < l.length := (List.getElem?_eq_some_iff.1 hio).1
    simp [Array.getD, this] at h) (by rw [hz]; exact h0 u0)
  simpa using this
end
section
variable {F : Fence} {n : Nat} {P : Program} {ops : Array Oper} {Q : Exit → Act → World → Prop}

/-- One goal an operation. -/
def StepInvC (l : List Oper) (F : Fence) (n : Nat) (P : Program) (ops : Array Oper) (Inv : (Nat → Bool) → (Nat → Value) → World → Prop) (df : List Deferred) (fr : (Nat → Value) → Array Value) : Nat → List Oper → Prop
  | _, [] => True
  | i, o :: r => (∀ L u w, L i = false → Clos l L → DepsDone L o.after.toList → Inv L u w → wpListIn F n P ops (StepPost fun a' w' => ∃ v, a' = Act.put ⟨fr u, df⟩ o.dst v ∧ Inv (updB L i) (updU u i v) w') [o] ⟨fr u, df⟩ w) ∧ StepInvC l F n P ops Inv df fr (i + 1) r

theorem StepInvC.get {l0 : List Oper} {Inv : (Nat → Bool) → (Nat → Value) → World → Prop} {df : List Deferred} {fr : (Nat → Value) → Array Value} : ∀ {l : List Oper} {k : Nat}, StepInvC l0 F n P ops Inv df fr k l → ∀ {i : Nat} {o : Oper}, l[i]? = some o →
    ∀ L u w, L (k + i) = false → Clos l0 L → DepsDone L o.after.toList → Inv L u w → wpListIn F n P ops (StepPost fun a' w' => ∃ v, a' = Act.put ⟨fr u, df⟩ o.dst v ∧ Inv (updB L (k + i)) (updU u (k + i) v) w') [o] ⟨fr u, df⟩ w
  | [], _, _, i, o, hi => by simp at hi
  | x :: l, k, h, 0, o, hi => by simp at hi; subst hi; exact h.1
  | x :: l, k, h, i + 1, o, hi => by
    have := StepInvC.get h.2 (i := i) (o := o) (by simpa using hi)
    rw [show k + (i + 1) = k + 1 + i from by omega]
    exact this

theorem wpIn_region_invc {l : List Oper} {id : Nat} {base : List Value} {df : List Deferred} {w : World} (hm : P.follows .mixedOrders = true)
    (slots : List (Option Nat)) (hsl : l.map (·.dst) = slots) (hok : slotsOk slots = true) (hd : edgesDown l = true)
    (fr : (Nat → Value) → Array Value) (hfr : ∀ u, (fillFrom slots u 0 base).toArray = fr u)
    (Inv : (Nat → Bool) → (Nat → Value) → World → Prop) (h0 : ∀ u, Inv (fun _ => false) u w.drew)
    (step : StepInvC l F n P l.toArray Inv df fr 0 l)
    (fin : ∀ L u w', (∀ i, i < l.length → L i = true) → Inv L u w' → Q .normal ⟨fr u, df⟩ w') :
    (Code.region id l.toArray true).wpIn F n P Q ⟨base.toArray, df⟩ w := by
  subst hsl
  refine wpIn_region_any hm ?_
  have main : ∀ (fuel : Nat) (L : Array Bool) (u : Nat → Value) (w' : World), L.size = l.length → (L.toList.filter (! ·)).length ≤ fuel → (∀ i o, l[i]? = some o → L.getD i false = true → ∀ e ∈ o.after.toList, Region.binds .any e = true → L.getD e.on false = true) → Inv (fun i => L.getD i false) u w' →
      wpAnyIn F n P .any l.toArray Q fuel L ⟨fr u, df⟩ w' := by
    intro fuel
    induction fuel with
    | zero =>
      intro L u w' hs hc hcl hI
      have hnil : L.toList.filter (! ·) = [] := List.length_eq_zero_iff.1 (by omega)
      have hall : ∀ i, i < l.length → L.getD i false = true := by
        intro i hi
        have hLs : i < L.size := by omega
        have : L[i] ∈ L.toList := by simp
        have h2 := List.filter_eq_nil_iff.1 hnil _ this
        simp only [Array.getD, dif_pos hLs]
        simpa using h2
      exact ⟨ready_nil hs hall, fin _ u w' hall hI⟩
    | succ fuel ih =>
      intro L u w' hs hc hcl hI
      refine ⟨fun hr => fin _ u w' (fun i hi => all_listed hd hs hr i hi) hI, fun i hi => ?_⟩
      obtain ⟨hlt, hLi, hdl⟩ := ready_mem hs hi
      have ho : l[i]? = some l[i] := List.getElem?_eq_getElem hlt
      have hLi2 : L.getD i false = false := by
        have h2 : L[i]? = some false := by simpa using hLi
        rw [Array.getD_eq_getD_getElem?, h2]; rfl
      have hst := step.get (i := i) (o := l[i]) ho (fun j => L.getD j false) u w' (by rw [Nat.zero_add]; exact hLi2) (clos_of hcl) (depsDone_of _ fun e he hb => hdl e he hb) hI
      rw [Nat.zero_add] at hst
      refine wpOpIn_mono ?_ (wpOpIn_of_list (Q := Q) (by simp [ho]) hst)
      rintro a' w'' ⟨v, rfl, hI'⟩
      have hfru : Act.put ⟨fr u, df⟩ l[i].dst v = ⟨fr (updU u i v), df⟩ := by
        have hsl : (l.map (·.dst))[i]? = some l[i].dst := by simp [ho]
        cases hdst : l[i].dst with
        | none =>
          rw [hdst] at hsl
          simp only [Act.put]
          rw [← hfr, ← hfr, fill_none u base i hsl v]
        | some d =>
          rw [hdst] at hsl
          simp only [Act.put]
          rw [← hfr, ← hfr, fill_put hok u base i d hsl v]
      rw [hfru]
      refine ih _ _ _ (by simp [hs]) ?_ ?_ ?_
      · have := count_set L.toList i hLi
        simp only [Array.toList_setIfInBounds]
        omega
      · intro k o' hk hLk e he hb
        by_cases hki : k = i
        · subst hki
          rw [ho] at hk
          cases hk
          exact getD_set_mono (hdl e he hb)
        · exact getD_set_mono (hcl k o' hk (getD_set hLk hki) e he hb)
      · have he : (fun j => (L.setIfInBounds i true).getD j false) = updB (fun j => L.getD j false) i := by
          funext j
          unfold updB
          by_cases hji : j = i
          · subst hji
            have hlt2 : j < L.size := by omega
            rw [if_pos rfl, Array.getD_eq_getD_getElem?, Array.getElem?_setIfInBounds_self]
            simp [hlt2]
          · rw [if_neg hji]
            show (L.setIfInBounds i true).getD j false = L.getD j false
            rw [Array.getD_eq_getD_getElem?, Array.getD_eq_getD_getElem?, Array.getElem?_setIfInBounds_ne (fun e => hji e.symm)]
        rw [he]; exact hI'
  obtain ⟨u0, hu0⟩ := fill_self (l.map (·.dst)) base
  rw [← hu0, hfr]
  have hz : (fun i => (Array.replicate l.length false).getD i false) = fun _ => false := by
    funext i
    rw [Array.getD_eq_getD_getElem?]
    by_cases h : i < l.length <;> simp [h]
  have := main l.length (Array.replicate l.length false) u0 w.drew (by simp) (by simp) (fun i o hio h => by
    have : i < l.length := (List.getElem?_eq_some_iff.1 hio).1
    simp [Array.getD, this] at h) (by rw [hz]; exact h0 u0)
  simpa using this
end
end Go.Sp
