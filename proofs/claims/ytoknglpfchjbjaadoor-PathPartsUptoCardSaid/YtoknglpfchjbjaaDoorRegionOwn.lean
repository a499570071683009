/- A region that draws its order and whose last operation writes a slot that an earlier one reads. General: no program in sight. Conditions: none. -/
import Derived.Test.YtoknglpfchjbjaaDoorRegion
namespace Go.Sp
open Go.RowKit

section
variable {P : Program} {ops : Array Oper} {Q : Exit → Act → World → Prop}

/-- LIKE wp_region_two, WHERE THE LAST OPERATION WRITES A SLOT THAT AN EARLIER ONE READS. ONE OPERATION s AHEAD OF IT TURNS THE WORLD's WORD FROM 'G false' TO 'G true': what s waits for never runs behind it. -/
theorem wp_region_two_own {l : List Oper} {id : Nat} {base : List Value} {df : List Deferred} {w : World} (hm : P.follows .mixedOrders = true)
    (slots : List (Option Nat)) (Fs : List (Value → World → Prop)) (s : Nat) (anc : List Nat) (G : Bool → World → Prop) (R : Nat → World → World → Prop)
    (hsl : l.dropLast.map (·.dst) ++ [none] = slots) (hok : slotsOk slots = true) (hd : edgesDown l = true) (hlast : lastWaits l = true) (hanc : (anc.all fun i => (needs l l.length [s]).contains i) = true) (hlen : (Fs.length + 1 == l.length) = true)
    (fr : (Nat → Value) → Array Value) (hfr : ∀ u, (fillFrom slots u 0 base).toArray = fr u)
    (G0 : G false w.drew) (GR : ∀ i b w w', G b w → R i w w' → G (b || decide (i = s)) w') (FR : StableAll (fun w => ∃ b, G b w) R 0 Fs)
    (step : StepTwo P l.toArray (factAt Fs) s anc G R df fr 0 l)
    (o : Oper) (ho : l.getLast? = some o)
    (fin : ∀ u w' b, G b w' → AllF u w' 0 Fs → wpList P l.toArray (StepPost (normally Q)) [o] ⟨fr u, df⟩ w') :
    (Code.region id l.toArray true).wp P Q ⟨base.toArray, df⟩ w := by
  subst hsl
  have hlen' : Fs.length + 1 = l.length := by simpa using hlen
  have hol : l[l.length - 1]? = some o := by rw [← List.getLast?_eq_getElem?]; exact ho
  refine wp_region_any hm ?_
  have main : ∀ (fuel : Nat) (L : Array Bool) (u : Nat → Value) (w' : World), L.size = l.length → (L.toList.filter (! ·)).length ≤ fuel → L.getD (l.length - 1) true = false →
      (∀ i o, l[i]? = some o → L.getD i false = true → ∀ e ∈ o.after.toList, Region.binds .any e = true → L.getD e.on false = true) → G (L.getD s false) w' → (∀ i, i < l.length → L.getD i false = true → factAt Fs i (u i) w') →
      wpAny P .any l.toArray Q fuel L ⟨fr u, df⟩ w' := by
    intro fuel
    induction fuel with
    | zero =>
      intro L u w' hs hc hnl _ _ _
      exfalso
      have hnil : L.toList.filter (! ·) = [] := List.length_eq_zero_iff.1 (by omega)
      have hLs : l.length - 1 < L.size := by omega
      have : L[l.length - 1] ∈ L.toList := by simp
      have h2 := List.filter_eq_nil_iff.1 hnil _ this
      rw [Array.getD_eq_getD_getElem?, Array.getElem?_eq_getElem hLs, Option.getD_some] at hnl
      rw [hnl] at h2
      simp at h2
    | succ fuel ih =>
      intro L u w' hs hc hnl hcl hG hF
      have hLs : l.length - 1 < L.size := by omega
      have hnl' : L.getD (l.length - 1) false = false := by
        rw [Array.getD_eq_getD_getElem?, Array.getElem?_eq_getElem hLs, Option.getD_some] at hnl ⊢
        exact hnl
      refine ⟨fun hr => ?_, fun i hi => ?_⟩
      · have := all_listed hd hs hr (l.length - 1) (by omega)
        rw [hnl'] at this; cases this
      obtain ⟨hlt, hLi, hdl⟩ := ready_mem hs hi
      have ho : l[i]? = some l[i] := List.getElem?_eq_getElem hlt
      by_cases hil : i = l.length - 1
      · -- the last one: all the others have been
        have hoi : l[i] = o := by rw [← hil] at hol; rw [ho] at hol; exact Option.some.inj hol
        have hothers : ∀ j, j < l.length → j ≠ i → L.getD j false = true := by
          intro j hj hji
          have hin := List.all_eq_true.1 hlast j (List.mem_range.2 hj)
          have hcl' : ∀ k o', l[k]? = some o' → (L.setIfInBounds i true).getD k false = true → ∀ e ∈ o'.after.toList, Region.binds .any e = true → (L.setIfInBounds i true).getD e.on false = true := by
            intro k o' hk hLk e he hb
            by_cases hki : k = i
            · subst hki
              rw [ho] at hk
              cases hk
              exact getD_set_mono (hdl e he hb)
            · exact getD_set_mono (hcl k o' hk (getD_set hLk hki) e he hb)
          have := needs_listed hcl' l.length [l.length - 1] (fun k hk => by
            simp at hk; subst hk; rw [← hil]
            have : i < L.size := by omega
            rw [Array.getD_eq_getD_getElem?, Array.getElem?_setIfInBounds_self]
            simp [this]) j (by simpa using hin)
          exact getD_set this hji
        have hst := fin u w' _ hG (allF_of Fs 0 fun j hj => by rw [Nat.zero_add]; exact hF j (by omega) (hothers j (by omega) (by omega)))
        rw [← hoi] at hst
        refine wpOp_mono ?_ (wpOp_of_list (Q := Q) (by simp [ho]) hst)
        intro a' w'' hq
        have hall : ∀ j, j < l.length → (L.setIfInBounds i true).getD j false = true := by
          intro j hj
          by_cases hji : j = i
          · subst hji
            have : j < L.size := by omega
            rw [Array.getD_eq_getD_getElem?, Array.getElem?_setIfInBounds_self]
            simp [this]
          · exact getD_set_mono (hothers j hj hji)
        have hrn := ready_nil (l := l) (L := L.setIfInBounds i true) (by simp [hs]) hall
        cases fuel with
        | zero => exact ⟨hrn, hq⟩
        | succ fuel => exact ⟨fun _ => hq, fun j hj => by rw [hrn] at hj; cases hj⟩
      · have hdeps : DepsHold (factAt Fs) u w' l[i].after.toList := by
          refine depsHold_of _ fun e he hb => ?_
          have := hdl e he hb
          have hes : e.on < L.size := by
            rcases Nat.lt_or_ge e.on L.size with h | h
            · exact h
            · simp [Array.getD, Nat.not_lt.2 h] at this
          exact hF e.on (by omega) this
        have hnb : i ∈ anc ∨ i = s → L.getD s false = false := by
          intro hia
          cases hLs' : L.getD s false with
          | false => rfl
          | true =>
            exfalso
            have hLi2 : L.getD i false = false := by
              have h2 : L[i]? = some false := by simpa using hLi
              rw [Array.getD_eq_getD_getElem?, h2]; rfl
            rcases hia with hia | rfl
            · have := List.all_eq_true.1 hanc i hia
              have := needs_listed hcl l.length [s] (fun k hk => by simp at hk; subst hk; exact hLs') i (by simpa using this)
              rw [hLi2] at this; cases this
            · rw [hLi2] at hLs'; cases hLs'
        have hst := step.get (i := i) (o := l[i]) (by omega) ho u w' (L.getD s false) (by rw [Nat.zero_add]; exact hnb) hG hdeps
        rw [Nat.zero_add] at hst
        refine wpOp_mono ?_ (wpOp_of_list (Q := Q) (by simp [ho]) hst)
        rintro a' w'' ⟨hR, v, rfl, hFi⟩
        have hfru : Act.put ⟨fr u, df⟩ l[i].dst v = ⟨fr (updU u i v), df⟩ := by
          have hsl : (l.dropLast.map (·.dst) ++ [none])[i]? = some l[i].dst := by rw [List.getElem?_append_left (by simp; omega), List.getElem?_map, List.getElem?_dropLast, if_pos (by omega), ho]; rfl
          cases hdst : l[i].dst with
          | none =>
            rw [hdst] at hsl
            simp only [Act.put]
            rw [← hfr, ← hfr, fill_none u base i hsl v]
          | some d =>
            rw [hdst] at hsl
            simp only [Act.put]
            rw [← hfr, ← hfr, fill_put hok u base i d hsl v]
        rw [hfru]
        have hGn : G ((L.setIfInBounds i true).getD s false) w'' := by
          have h2 := GR _ _ _ _ hG hR
          by_cases his : i = s
          · subst his
            have hlt2 : i < L.size := by omega
            have : (L.setIfInBounds i true).getD i false = true := by
              rw [Array.getD_eq_getD_getElem?, Array.getElem?_setIfInBounds_self]; simp [hlt2]
            rw [this]
            simpa using h2
          · have : (L.setIfInBounds i true).getD s false = L.getD s false := by
              rw [Array.getD_eq_getD_getElem?, Array.getD_eq_getD_getElem?, Array.getElem?_setIfInBounds_ne his]
            rw [this]
            simpa [his] using h2
        refine ih _ _ _ (by simp [hs]) ?_ ?_ ?_ hGn fun j hj hLj => ?_
        · have := count_set L.toList i hLi
          simp only [Array.toList_setIfInBounds]
          omega
        · rw [Array.getD_eq_getD_getElem?] at hnl ⊢
          rw [Array.getElem?_setIfInBounds_ne hil]
          exact hnl
        · intro k o' hk hLk e he hb
          by_cases hki : k = i
          · subst hki
            rw [ho] at hk
            cases hk
            exact getD_set_mono (hdl e he hb)
          · exact getD_set_mono (hcl k o' hk (getD_set hLk hki) e he hb)
        · by_cases hji : j = i
          · subst hji; simpa [updU] using hFi
          · simp only [updU, if_neg hji]
            exact stable_of FR j i (by omega) _ _ _ ⟨_, hG⟩ hR (hF j hj (getD_set hLj hji))
  obtain ⟨u0, hu0⟩ := fill_self (l.dropLast.map (·.dst) ++ [none]) base
  rw [← hu0, hfr]
  have := main l.length (Array.replicate l.length false) u0 w.drew (by simp) (by simp) (by
    have : l.length - 1 < l.length := by omega
    simp [Array.getD, this]) (fun i o hio h => by
    have : i < l.length := (List.getElem?_eq_some_iff.1 hio).1
    simp [Array.getD, this] at h) (by
    have : (Array.replicate l.length false).getD s false = false := by rw [Array.getD_eq_getD_getElem?]; by_cases h : s < l.length <;> simp [h]
    rw [this]; exact G0) (fun i hi h => by simp [Array.getD, hi] at h)
  simpa using this
end
end Go.Sp
