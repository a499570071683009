/- Merged: A region that draws its order and whose last operation writes a slot that an earlier one reads · What spyglassref04.node makes of steps, on lists · spyglassref04.plain, spyglasslaw04.Plain: a step that may be; steps, copied · spyglassref04.node: the tree that begins at a place of steps · spyglassref04.Raw, spyglasslaw04.Raw: the tree of steps. Conditions: those of the parts. -/
import Derived.Test.YtoknglpfchjbjaaGreatDoorRegion
import Derived.Test.YtoknglpfchjbjaaGreatDoorStp
import Derived.Test.YtoknglpfchjbjaaGreatDoorStack
import Derived.Test.YtoknglpfchjbjaaGreatDoorLeadX
/- A region that draws its order and whose last operation writes a slot that an earlier one reads. General: no program in sight. Conditions: none. -/
namespace Go.Sp
open Go.RowKit

section
variable {P : Program} {ops : Array Oper} {Q : Exit → Act → World → Prop}

/-- LIKE wp_region_two, WHERE THE LAST OPERATION WRITES A SLOT THAT AN EARLIER ONE READS. ONE OPERATION s AHEAD OF IT TURNS THE WORLD's WORD FROM 'G false' TO 'G true': what s waits for never runs behind it. -/
theorem wp_region_two_own {l : List Oper} {id : Nat} {base : List Value} {df : List Deferred} {w : World} (hm : P.follows .mixedOrders = true)
    (slots : List (Option Nat)) (Fs : List (Value → World → Prop)) (s : Nat) (anc : List Nat) (G : Bool → World → Prop) (R : Nat → World → World → Prop)
    (hsl : l.dropLast.map (·.dst) ++ [none] = slots) (hok : slotsOk slots = true) (hd : edgesDown l = true) (hlast : lastWaits l = true) (hanc : (anc.all fun i => (needs l l.length [s]).contains i) = true) (hlen : (Fs.length + 1 == l.length) = true)
    (fr : (Nat → Value) → Array Value) (hfr : ∀ u, (fillFrom slots u 0 base).toArray = fr u)
    (G0 : G false w.drew) (GR : ∀ i b w w', G b w → R i w w' → G (b || decide (i = s)) w') (FR : StableAll (fun w => ∃ b, G b w) R 0 Fs)
    (step : StepTwo P l.toArray (factAt Fs) s anc G R df fr 0 l)
    (o : Oper) (ho : l.getLast? = some o)
    (fin : ∀ u w' b, G b w' → AllF u w' 0 Fs → wpList P l.toArray (StepPost (normally Q)) [o] ⟨fr u, df⟩ w') :
    (Code.region id l.toArray true).wp P Q ⟨base.toArray, df⟩ w := by
  subst hsl
  have hlen' : Fs.length + 1 = l.length := by simpa using hlen
  have hol : l[l.length - 1]? = some o := by rw [← List.getLast?_eq_getElem?]; exact ho
  refine wp_region_any hm ?_
  have main : ∀ (fuel : Nat) (L : Array Bool) (u : Nat → Value) (w' : World), L.size = l.length → (L.toList.filter (! ·)).length ≤ fuel → L.getD (l.length - 1) true = false →
      (∀ i o, l[i]? = some o → L.getD i false = true → ∀ e ∈ o.after.toList, Region.binds .any e = true → L.getD e.on false = true) → G (L.getD s false) w' → (∀ i, i < l.length → L.getD i false = true → factAt Fs i (u i) w') →
      wpAny P .any l.toArray Q fuel L ⟨fr u, df⟩ w' := by
    intro fuel
    induction fuel with
    | zero =>
      intro L u w' hs hc hnl _ _ _
      exfalso
      have hnil : L.toList.filter (! ·) = [] := List.length_eq_zero_iff.1 (by omega)
      have hLs : l.length - 1 < L.size := by omega
      have : L[l.length - 1] ∈ L.toList := by simp
      have h2 := List.filter_eq_nil_iff.1 hnil _ this
      rw [Array.getD_eq_getD_getElem?, Array.getElem?_eq_getElem hLs, Option.getD_some] at hnl
      rw [hnl] at h2
      simp at h2
    | succ fuel ih =>
      intro L u w' hs hc hnl hcl hG hF
      have hLs : l.length - 1 < L.size := by omega
      have hnl' : L.getD (l.length - 1) false = false := by
        rw [Array.getD_eq_getD_getElem?, Array.getElem?_eq_getElem hLs, Option.getD_some] at hnl ⊢
        exact hnl
      refine ⟨fun hr => ?_, fun i hi => ?_⟩
      · have := all_listed hd hs hr (l.length - 1) (by omega)
        rw [hnl'] at this; cases this
      obtain ⟨hlt, hLi, hdl⟩ := ready_mem hs hi
      have ho : l[i]? = some l[i] := List.getElem?_eq_getElem hlt
      by_cases hil : i = l.length - 1
      · -- the last one: all the others have been
        have hoi : l[i] = o := by rw [← hil] at hol; rw [ho] at hol; exact Option.some.inj hol
        have hothers : ∀ j, j < l.length → j ≠ i → L.getD j false = true := by
          intro j hj hji
          have hin := List.all_eq_true.1 hlast j (List.mem_range.2 hj)
          have hcl' : ∀ k o', l[k]? = some o' → (L.setIfInBounds i true).getD k false = true → ∀ e ∈ o'.after.toList, Region.binds .any e = true → (L.setIfInBounds i true).getD e.on false = true := by
            intro k o' hk hLk e he hb
            by_cases hki : k = i
            · subst hki
              rw [ho] at hk
              cases hk
              exact getD_set_mono (hdl e he hb)
            · exact getD_set_mono (hcl k o' hk (getD_set hLk hki) e he hb)
          have := needs_listed hcl' l.length [l.length - 1] (fun k hk => by
            simp at hk; subst hk; rw [← hil]
            have : i < L.size := by omega
            rw [Array.getD_eq_getD_getElem?, Array.getElem?_setIfInBounds_self]
            simp [this]) j (by simpa using hin)
          exact getD_set this hji
        have hst := fin u w' _ hG (allF_of Fs 0 fun j hj => by rw [Nat.zero_add]; exact hF j (by omega) (hothers j (by omega) (by omega)))
        rw [← hoi] at hst
        refine wpOp_mono ?_ (wpOp_of_list (Q := Q) (by simp [ho]) hst)
        intro a' w'' hq
        have hall : ∀ j, j < l.length → (L.setIfInBounds i true).getD j false = true := by
          intro j hj
          by_cases hji : j = i
          · subst hji
            have : j < L.size := by omega
            rw [Array.getD_eq_getD_getElem?, Array.getElem?_setIfInBounds_self]
            simp [this]
          · exact getD_set_mono (hothers j hj hji)
        have hrn := ready_nil (l := l) (L := L.setIfInBounds i true) (by simp [hs]) hall
        cases fuel with
        | zero => exact ⟨hrn, hq⟩
        | succ fuel => exact ⟨fun _ => hq, fun j hj => by rw [hrn] at hj; cases hj⟩
      · have hdeps : DepsHold (factAt Fs) u w' l[i].after.toList := by
          refine depsHold_of _ fun e he hb => ?_
          have := hdl e he hb
          have hes : e.on < L.size := by
            rcases Nat.lt_or_ge e.on L.size with h | h
            · exact h
            · simp [Array.getD, Nat.not_lt.2 h] at this
          exact hF e.on (by omega) this
        have hnb : i ∈ anc ∨ i = s → L.getD s false = false := by
          intro hia
          cases hLs' : L.getD s false with
          | false => rfl
          | true =>
            exfalso
            have hLi2 : L.getD i false = false := by
              have h2 : L[i]? = some false := by simpa using hLi
              rw [Array.getD_eq_getD_getElem?, h2]; rfl
            rcases hia with hia | rfl
            · have := List.all_eq_true.1 hanc i hia
              have := needs_listed hcl l.length [s] (fun k hk => by simp at hk; subst hk; exact hLs') i (by simpa using this)
              rw [hLi2] at this; cases this
            · rw [hLi2] at hLs'; cases hLs'
        have hst := step.get (i := i) (o := l[i]) (by omega) ho u w' (L.getD s false) (by rw [Nat.zero_add]; exact hnb) hG hdeps
        rw [Nat.zero_add] at hst
        refine wpOp_mono ?_ (wpOp_of_list (Q := Q) (by simp [ho]) hst)
        rintro a' w'' ⟨hR, v, rfl, hFi⟩
        have hfru : Act.put ⟨fr u, df⟩ l[i].dst v = ⟨fr (updU u i v), df⟩ := by
          have hsl : (l.dropLast.map (·.dst) ++ [none])[i]? = some l[i].dst := by rw [List.getElem?_append_left (by simp; omega), List.getElem?_map, List.getElem?_dropLast, if_pos (by omega), ho]; rfl
          cases hdst : l[i].dst with
          | none =>
            rw [hdst] at hsl
            simp only [Act.put]
            rw [← hfr, ← hfr, fill_none u base i hsl v]
          | some d =>
            rw [hdst] at hsl
            simp only [Act.put]
            rw [← hfr, ← hfr, fill_put hok u base i d hsl v]
        rw [hfru]
        have hGn : G ((L.setIfInBounds i true).getD s false) w'' := by
          have h2 := GR _ _ _ _ hG hR
          by_cases his : i = s
          · subst his
            have hlt2 : i < L.size := by omega
            have : (L.setIfInBounds i true).getD i false = true := by
              rw [Array.getD_eq_getD_getElem?, Array.getElem?_setIfInBounds_self]; simp [hlt2]
            rw [this]
            simpa using h2
          · have : (L.setIfInBounds i true).getD s false = L.getD s false := by
              rw [Array.getD_eq_getD_getElem?, Array.getD_eq_getD_getElem?, Array.getElem?_setIfInBounds_ne his]
            rw [this]
            simpa [his] using h2
        refine ih _ _ _ (by simp [hs]) ?_ ?_ ?_ hGn fun j hj hLj => ?_
        · have := count_set L.toList i hLi
          simp only [Array.toList_setIfInBounds]
          omega
        · rw [Array.getD_eq_getD_getElem?] at hnl ⊢
          rw [Array.getElem?_setIfInBounds_ne hil]
          exact hnl
        · intro k o' hk hLk e he hb
          by_cases hki : k = i
          · subst hki
            rw [ho] at hk
            cases hk
            exact getD_set_mono (hdl e he hb)
          · exact getD_set_mono (hcl k o' hk (getD_set hLk hki) e he hb)
        · by_cases hji : j = i
          · subst hji; simpa [updU] using hFi
          · simp only [updU, if_neg hji]
            exact stable_of FR j i (by omega) _ _ _ ⟨_, hG⟩ hR (hF j hj (getD_set hLj hji))
  obtain ⟨u0, hu0⟩ := fill_self (l.dropLast.map (·.dst) ++ [none]) base
  rw [← hu0, hfr]
  have := main l.length (Array.replicate l.length false) u0 w.drew (by simp) (by simp) (by
    have : l.length - 1 < l.length := by omega
    simp [Array.getD, this]) (fun i o hio h => by
    have : i < l.length := (List.getElem?_eq_some_iff.1 hio).1
    simp [Array.getD, this] at h) (by
    have : (Array.replicate l.length false).getD s false = false := by rw [Array.getD_eq_getD_getElem?]; by_cases h : s < l.length <;> simp [h]
    rw [this]; exact G0) (fun i hi h => by simp [Array.getD, hi] at h)
  simpa using this
end
end Go.Sp

/- What spyglassref04.node makes of steps, on lists. Plain: no program in sight. Conditions: none. -/
namespace Go.Proofs.YtoknglpfchjbjaaGreatDoor
open Go.RowKit Go.Sp

def plainB (s : Stp) : Bool := if s.kind = 1 then s.text.toList.isEmpty else if s.kind = 3 then s.name.toList.isEmpty else (s.kind == 2) || ((s.kind == 4) && s.name.toList.isEmpty && s.text.toList.isEmpty)
def isAt (s : Stp) : Bool := s.kind == 2
def attrsOf (l : List Stp) : List (ByteArray × ByteArray) := (l.takeWhile isAt).map fun s => (s.name, s.text)
/-- none: a node; some: what follows a node's attributes and the children that have been. -/
def parL : Nat → Option (ByteArray × List (ByteArray × ByteArray) × List TT) → List Stp → Option (TT × List Stp)
  | 0, _, _ => none
  | _ + 1, _, [] => none
  | f + 1, none, s :: r => if plainB s = false ∨ (s.kind ≠ 1 ∧ s.kind ≠ 3) then none else if s.kind = 3 then some (.mk ⟨#[]⟩ s.text [] [], r) else parL f (some (s.name, attrsOf r, [])) (r.dropWhile isAt)
  | f + 1, some (lab, al, ks), s :: r => if s.kind = 4 then (if plainB s then some (.mk lab ⟨#[]⟩ al ks, r) else none) else
      match parL f none (s :: r) with
      | none => none
      | some (k, r') => parL f (some (lab, al, ks ++ [k])) r'

theorem parL_end {f : Nat} {m : Option (ByteArray × List (ByteArray × ByteArray) × List TT)} : parL f m [] = none := by cases f <;> rfl
theorem parL_bad {f : Nat} {s : Stp} {r : List Stp} (h : plainB s = false ∨ (s.kind ≠ 1 ∧ s.kind ≠ 3)) : parL (f + 1) none (s :: r) = none := by unfold parL; rw [if_pos h]
theorem parL_text {f : Nat} {s : Stp} {r : List Stp} (h : plainB s = true) (h3 : s.kind = 3) : parL (f + 1) none (s :: r) = some (.mk ⟨#[]⟩ s.text [] [], r) := by
  unfold parL; rw [if_neg (by rw [h, h3]; simp), if_pos h3]
theorem parL_open {f : Nat} {s : Stp} {r : List Stp} (h : plainB s = true) (h1 : s.kind = 1) : parL (f + 1) none (s :: r) = parL f (some (s.name, attrsOf r, [])) (r.dropWhile isAt) := by
  conv => lhs; unfold parL
  rw [if_neg (by rw [h, h1]; simp), if_neg (by rw [h1]; decide)]
theorem parL_close {f : Nat} {lab : ByteArray} {al : List (ByteArray × ByteArray)} {ks : List TT} {s : Stp} {r : List Stp} (h4 : s.kind = 4) (h : plainB s = true) : parL (f + 1) (some (lab, al, ks)) (s :: r) = some (.mk lab ⟨#[]⟩ al ks, r) := by
  unfold parL; rw [if_pos h4, if_pos h]
theorem parL_close_bad {f : Nat} {lab : ByteArray} {al : List (ByteArray × ByteArray)} {ks : List TT} {s : Stp} {r : List Stp} (h4 : s.kind = 4) (h : plainB s = false) : parL (f + 1) (some (lab, al, ks)) (s :: r) = none := by
  unfold parL; rw [if_pos h4, if_neg (by rw [h]; simp)]
theorem parL_kid {f : Nat} {lab : ByteArray} {al : List (ByteArray × ByteArray)} {ks : List TT} {s : Stp} {r r' : List Stp} {k : TT} (h4 : s.kind ≠ 4) (h : parL f none (s :: r) = some (k, r')) : parL (f + 1) (some (lab, al, ks)) (s :: r) = parL f (some (lab, al, ks ++ [k])) r' := by
  conv => lhs; unfold parL
  rw [if_neg h4, h]
theorem parL_kid_bad {f : Nat} {lab : ByteArray} {al : List (ByteArray × ByteArray)} {ks : List TT} {s : Stp} {r : List Stp} (h4 : s.kind ≠ 4) (h : parL f none (s :: r) = none) : parL (f + 1) (some (lab, al, ks)) (s :: r) = none := by
  unfold parL; rw [if_neg h4, h]

theorem attrs_step {s : Stp} {r : List Stp} (h : isAt s = true) : attrsOf (s :: r) = (s.name, s.text) :: attrsOf r ∧ (s :: r).dropWhile isAt = r.dropWhile isAt := by
  unfold attrsOf
  rw [List.takeWhile_cons_of_pos h, List.dropWhile_cons_of_pos h]
  exact ⟨rfl, rfl⟩
theorem attrs_stop {s : Stp} {r : List Stp} (h : isAt s = false) : attrsOf (s :: r) = [] ∧ (s :: r).dropWhile isAt = s :: r := by
  unfold attrsOf
  rw [List.takeWhile_cons_of_neg (by rw [h]; simp), List.dropWhile_cons_of_neg (by rw [h]; simp)]
  exact ⟨rfl, rfl⟩
theorem drop_at {xs : List Stp} {k : Nat} (h : k < xs.length) : xs.drop k = xs[k] :: xs.drop (k + 1) := List.drop_eq_getElem_cons h

end Go.Proofs.YtoknglpfchjbjaaGreatDoor

/- spyglassref04.plain, spyglasslaw04.Plain: a step that may be; steps, copied. Conditions: up to 2^20 steps. -/
namespace Go.Proofs.YtoknglpfchjbjaaGreatDoor
open Go.RowKit Go.Sp Go.Maps

theorem refPlain_any (s : Stp) (w : World) : Calls Tryz.prog 58 #[.agg #[.int .i64 s.kind, .string s.name, .string s.text]] w fun e w' => e = .returned (.bool (plainB s)) ∧ Below w.heap.size w w' := by
  obtain ⟨v, hv⟩ : ∃ v, v = plainB s := ⟨_, rfl⟩
  rw [← hv]
  unfold plainB at hv
  obtain ⟨k, n, t⟩ := s
  dsimp only at hv ⊢
  have hb : Below w.heap.size w (w.alloc (.cells #[.int .i64 k, .string n, .string t] 85)) := (Below.refl _ _).alloc (Nat.le_refl _) _
  have HB := Sp.hid hb
  clear hb
  by_cases h1 : k = 1
  · subst h1
    rw [if_pos rfl] at hv
    subst hv
    go_enter Tryz.func58, Tryz.ntmps58
    go_wp2
    go_ret
    exact ⟨by first | rfl | simp [List.isEmpty_iff], HB.out⟩
  · have h1' : (k == 1) = false := by simpa using h1
    rw [if_neg h1] at hv
    by_cases h3 : k = 3
    · subst h3
      rw [if_pos rfl] at hv
      subst hv
      go_enter Tryz.func58, Tryz.ntmps58
      go_wp2
      go_ret
      exact ⟨by first | rfl | simp [List.isEmpty_iff], HB.out⟩
    · have h3' : (k == 3) = false := by simpa using h3
      rw [if_neg h3] at hv
      by_cases h2 : k = 2
      · subst h2
        subst hv
        go_enter Tryz.func58, Tryz.ntmps58
        go_wp2
        go_ret
        exact ⟨rfl, HB.out⟩
      · have h2' : (k == 2) = false := by simpa using h2
        rw [h2', Bool.false_or] at hv
        by_cases h4 : k = 4
        · subst h4
          cases hn : n.toList.isEmpty
          · rw [hn] at hv
            subst hv
            go_enter Tryz.func58, Tryz.ntmps58
            go_wp2
            go_ret
            exact ⟨rfl, HB.out⟩
          · rw [hn] at hv
            subst hv
            go_enter Tryz.func58, Tryz.ntmps58
            go_wp2
            go_ret
            exact ⟨by simp, HB.out⟩
        · have h4' : (k == 4) = false := by simpa using h4
          rw [h4'] at hv
          subst hv
          go_enter Tryz.func58, Tryz.ntmps58
          go_wp2
          go_ret
          exact ⟨rfl, HB.out⟩

theorem infoRStp : (Tryz.prog.info? 85).map (fun i => (i.zero, i.size, i.bytes)) = some (some (.agg #[.int .i64 0, .string ⟨#[]⟩, .string ⟨#[]⟩]), 3, 40) := by kernel_rfl
def stpCells (s : Stp) : List Value := [.int .i64 s.kind, .string s.name, .string s.text]
theorem stps_next {l : List Stp} {k : Nat} (hk : k < l.length) : (l.take (k + 1)).flatMap stpCells = (l.take k).flatMap stpCells ++ stpCells l[k] := by
  rw [List.take_succ_eq_append_getElem hk, List.flatMap_append]; simp
theorem own_stps {w : World} {base : Nat} {e : TypeId} {pv : Value} {qs : List Stp} (h : w.ownsRow base e 3 pv qs.length (qs.flatMap stpCells)) (hq : ∀ q ∈ qs, q.name.size ≤ maxLen ∧ q.text.size ≤ maxLen) :
    ∃ a c, pv = .slice a qs.length c ∧ Sl stpS (fun b => pv.ownBlock = some b) w a qs := by
  have h' : w.ownsRow base e stpS.sz pv qs.length ((qs.map fun q => (stpCells q, q)).flatMap (·.1)) := by rw [List.flatMap_map]; exact h
  obtain ⟨a, c, h1, h2⟩ := own_sl (S := stpS) (F := fun b => pv.ownBlock = some b) h' (by simp) (fun x hx => by
    obtain ⟨q, hq', rfl⟩ := List.mem_map.1 hx
    exact ⟨rfl, hq q hq'⟩) (fun g hg => hg)
  refine ⟨a, c, h1, ?_⟩
  have e : (qs.map fun q => (stpCells q, q)).map (·.2) = qs := by rw [List.map_map]; exact List.map_id _
  rwa [e] at h2
theorem stps_bounds {F : Nat → Prop} {w : World} {a : Option Addr} {qs : List Stp} (h : Sl stpS F w a qs) : ∀ q ∈ qs, q.name.size ≤ maxLen ∧ q.text.size ≤ maxLen := by
  intro q hq
  obtain ⟨i, hi, rfl⟩ := List.getElem_of_mem hq
  obtain ⟨_, _, _, _, h1, h2, _⟩ := stp_cells h i hi
  exact ⟨h1, h2⟩

set_option maxRecDepth 100000 in
set_option maxHeartbeats 8000000 in
theorem law4Plain_any (F : Nat → Prop) (xs : List Stp) (a : Option Addr) (c : Nat) (w : World) (hsl : Sl stpS F w a xs) (hF : ∀ k, F k → k < w.heap.size) (hst : xs.length ≤ 1048576) :
    Calls Tryz.prog 12 #[.slice a xs.length c] w fun e w' => Below w.heap.size w w' ∧ ∃ b d, e = .returned (.slice b xs.length d) ∧ Sl stpS (fun k => w.heap.size ≤ k ∧ k < w'.heap.size) w' b xs := by
  obtain ⟨j0, hj0, hy0, hy1, hy2⟩ := info_parts infoRStp
  have HSL := Sp.hid hsl
  have HF := Sp.hid hF
  clear hsl hF
  go_enter Tryz.func12, Tryz.ntmps12
  go_wp2
  go_loopw [3, 4] (fun v i wr => ∃ k : Nat, k ≤ xs.length ∧ i = .int .i64 k ∧ wr.ownsRow w.heap.size 85 3 v k ((xs.take k).flatMap stpCells) ∧ Below w.heap.size w wr) (fun _ i _ => xs.length - (intOf i).toNat)
  case atStart => exact ⟨0, Nat.zero_le _, rfl, World.ownsRow_nil _ _ _ _, Below.refl _ _⟩
  case round =>
    obtain ⟨k, hk, rfl, hown, hb⟩ := hrel
    obtain ⟨vo, rfl⟩ : ∃ vo, vo = u3 := ⟨_, rfl⟩
    have hsw := hb.size
    by_cases hlt : k < xs.length
    · obtain ⟨b2, o2, rfl, fb2, -, -, d1, d2, d3⟩ := stp_cells (HSL.out.below HF.out hb) k hlt
      have hb2l := HF.out _ fb2
      have hnx := stps_next hlt
      obtain ⟨q, hq⟩ : ∃ q, q = xs[k] := ⟨_, rfl⟩
      rw [← hq] at d1 d2 d3 hnx
      have HPO := Sp.hid hown
      have HB := Sp.hid hb
      have HNQ := Sp.hid hnx
      have HD1 := Sp.hid d1
      have HD2 := Sp.hid d2
      have HD3 := Sp.hid d3
      have hbr : b2 < wr.heap.size := by omega
      have hpb : some b2 ≠ vo.ownBlock := fun e => by have := (hown.lt b2 e.symm).1; omega
      clear hq hnx hown hb d1 d2 d3 fb2
      go_wp2
      refine wp_region_two_own (by kernel_rfl) [some 11, some 12, some 13, some 14, some 15, some 16, some 17, some 18, some 19, some 20, some 21, some 22, some 23, some 24, some 25, some 26, some 27, some 28, some 29, none]
        [fun v _ => v = vo, fun v _ => v = .slice (some ⟨b2, o2, none⟩) xs.length c, fun v _ => v = .int .i64 (k : Nat), fun v _ => v = .pointer (some ⟨b2, o2 + k * 3, none⟩), fun v _ => v = .pointer (some ⟨b2, o2 + k * 3, none⟩), fun v _ => v = .int .i64 q.kind,
          fun v _ => v = .slice (some ⟨b2, o2, none⟩) xs.length c, fun v _ => v = .int .i64 (k : Nat), fun v _ => v = .pointer (some ⟨b2, o2 + k * 3, none⟩), fun v _ => v = .pointer (some ⟨b2, o2 + k * 3 + 1, none⟩), fun v _ => v = .string q.name,
          fun v _ => v = .slice (some ⟨b2, o2, none⟩) xs.length c, fun v _ => v = .int .i64 (k : Nat), fun v _ => v = .pointer (some ⟨b2, o2 + k * 3, none⟩), fun v _ => v = .pointer (some ⟨b2, o2 + k * 3 + 2, none⟩), fun v _ => v = .string q.text,
          fun v _ => v = .agg #[.int .i64 q.kind, .string q.name, .string q.text],
          fun v y => ∃ z, v = .slice (some ⟨z, 0, none⟩) 1 1 ∧ wr.heap.size ≤ z ∧ y.heap[z]? = some (.cells #[.int .i64 q.kind, .string q.name, .string q.text] 85 (0, 0)),
          fun v y => y.ownsRow w.heap.size 85 3 v (k + 1) ((xs.take k).flatMap stpCells ++ [.int .i64 q.kind, .string q.name, .string q.text])]
        18 [17, 16, 15, 14, 13, 12, 11, 10, 9, 8, 7, 6, 5, 4, 3, 2, 1, 0]
        (fun b y => wr.grownBy y (if b then vo.ownBlock else none)) (fun i y y' => y.grownBy y' (if i = 18 then vo.ownBlock else none)) rfl (by kernel_rfl) (by kernel_rfl) (by kernel_rfl) (by kernel_rfl) (by kernel_rfl) ?fr ?hfr ?G0 ?GR ?FR ?step _ rfl ?fin
      case hfr => intro u; simp only [Sp.fillFrom, Sp.idx_cons, Sp.idx_nil, Option.some.injEq, reduceCtorEq, reduceIte, Nat.reduceEqDiff, Nat.reduceAdd, Option.map_some, Option.map_none]; exact rfl
      case G0 => exact ⟨rfl, rfl, rfl, Nat.le_refl _, fun _ _ _ => rfl⟩
      case GR =>
        intro i b y1 y2 hG hR
        cases b
        · by_cases hi : i = 18
          · simp only [hi, if_true] at hR ⊢; exact grown_trans (grown_weak hG) hR
          · simp only [if_neg hi] at hR; simp only [hi, decide_false, Bool.or_false]; exact grown_trans hG hR
        · simp only [if_true, Bool.true_or] at hG ⊢
          by_cases hi : i = 18
          · simp only [hi, if_true] at hR; exact grown_trans hG hR
          · simp only [if_neg hi] at hR; exact grown_trans hG (grown_weak hR)
      case FR =>
        iterate 17 (refine ⟨fun _ _ _ _ _ _ _ h => h, ?_⟩)
        refine ⟨?_, ?_, trivial⟩
        · rintro i hi v y1 y2 _ hR ⟨z, rfl, hz, hc⟩
          refine ⟨z, rfl, hz, (hR.block z (Array.getElem?_eq_some_iff.1 hc).1 ?_).trans hc⟩
          split
          · intro e1
            have := (HPO.out.lt z e1.symm).2
            omega
          · simp
        · rintro i hi v y1 y2 _ hR hw
          rw [if_neg hi] at hR
          exact hw.kept hR (by cases v.ownBlock <;> simp)
      case step =>
        refine ⟨?_, ?_, ?_, ?_, ?_, ?_, ?_, ?_, ?_, ?_, ?_, ?_, ?_, ?_, ?_, ?_, ?_, ?_, ?_, trivial⟩
        all_goals
          intro u y1 b hbb hG hD
          simp only [Sp.DepsHold, Sp.factAt, Region.binds, List.getElem?_cons_zero, List.getElem?_cons_succ, Option.getD_some, and_true, true_implies] at hD
          dsimp only
        iterate 17
          · obtain rfl : b = false := hbb (.inl (by simp))
            have q1 : y1.cell? ⟨b2, o2 + k * 3, none⟩ = some (.int .i64 q.kind) := hG.cell (a := ⟨b2, o2 + k * 3, none⟩) HD1.out (by simp)
            have q2 : y1.cell? ⟨b2, o2 + k * 3 + 1, none⟩ = some (.string q.name) := hG.cell (a := ⟨b2, o2 + k * 3 + 1, none⟩) HD2.out (by simp)
            have q3 : y1.cell? ⟨b2, o2 + k * 3 + 2, none⟩ = some (.string q.text) := hG.cell (a := ⟨b2, o2 + k * 3 + 2, none⟩) HD3.out (by simp)
            clear hG hbb
            repeat (obtain ⟨hE, hD⟩ := hD; (try rw [hE]); clear hE)
            try rw [hD]
            try clear hD
            go_wp2
            exact ⟨grown_refl _ _, _, rfl, rfl⟩
        · have hGs := hG.size
          rw [hD]
          clear hG hbb hD
          go_wp2
          exact ⟨World.grownBy_alloc _ _ _, _, rfl, _, rfl, hGs, World.alloc_heap_new _ _⟩
        · obtain rfl : b = false := hbb (.inr rfl)
          obtain ⟨h1, z, h21, hz, hc⟩ := hD
          have hGs := hG.size
          have hrow1 : y1.ownsRow w.heap.size 85 3 vo k ((xs.take k).flatMap stpCells) := HPO.out.kept hG (by cases vo.ownBlock <;> simp)
          rw [h1, h21]
          refine wpList_append_own_at _ rfl _ _ 43 rfl w.heap.size 85 j0 _ 3 40 Tryz.underlying43 hj0 hy0 hy1 hy2 rfl (by decide) _ _ _ rfl hrow1 ⟨z, 0, none⟩ 1 1 [.int .i64 q.kind, .string q.name, .string q.text] rfl rfl ?_ ?_ (by unfold maxLen; omega) (by omega) (by omega) ?_
          · intro j u hj
            have hadd : (⟨z, 0, none⟩ : Addr).add j = ⟨z, j, none⟩ := by unfold Addr.add; split <;> simp_all
            rw [hadd, cell_at hc]
            simpa using hj
          · intro u hu; simp at hu; rcases hu with rfl | rfl | rfl <;> rfl
          intro v' y2 hown' hgrow _ _
          refine wpList_nil ?_
          exact ⟨hgrow, v', rfl, hown'⟩
      case fin =>
        intro u y1 b hG hF
        simp only [Sp.AllF, and_true] at hF; (try dsimp only); generalize u 0 = u0 at *; generalize u 1 = u1 at *; generalize u 2 = u2 at *; generalize u 3 = u3 at *; generalize u 4 = u4 at *; generalize u 5 = u5 at *; generalize u 6 = u6 at *; generalize u 7 = u7 at *; generalize u 8 = u8 at *; generalize u 9 = u9 at *; generalize u 10 = u10 at *; generalize u 11 = u11 at *; generalize u 12 = u12 at *; generalize u 13 = u13 at *; generalize u 14 = u14 at *; generalize u 15 = u15 at *; generalize u 16 = u16 at *; generalize u 17 = u17 at *; generalize u 18 = u18 at *; clear u
        obtain ⟨-, -, -, -, -, -, -, -, -, -, -, -, -, -, -, -, -, -, hown⟩ := hF
        have hg1 : wr.grownBy y1 vo.ownBlock := by cases b; exact grown_weak hG; exact hG
        have HX := Sp.hid (show ∃ k' : Nat, k' ≤ xs.length ∧ Value.int .i64 ((k : Nat) + 1 : Nat) = .int .i64 k' ∧ y1.ownsRow w.heap.size 85 3 u18 k' ((xs.take k').flatMap stpCells) ∧ Below w.heap.size w y1 from
          ⟨k + 1, by omega, rfl, by rw [HNQ.out]; exact hown, HB.out.grown hg1 hsw (fun g hg => (HPO.out.lt g hg).1)⟩)
        clear hG hown hg1
        go_wp2
        dsimp only [StepPost, normally]
        go_wp2
        go_roundw
        case rel => exact HX.out
        case measure => simp [intOf]; omega
    · obtain rfl : k = xs.length := by omega
      rw [List.take_length] at hown
      obtain ⟨pa', pc', hpe, hps⟩ := own_stps hown (stps_bounds HSL.out)
      have hl := hown.lt
      have HB := Sp.hid hb
      have HPS := Sp.hid (hps.mono fun b hb => hl b hb)
      clear hown hb hps
      subst hpe
      clear hl
      go_wp2
      go_ret
      exact ⟨HB.out, _, _, rfl, HPS.out⟩

end Go.Proofs.YtoknglpfchjbjaaGreatDoor

/- spyglassref04.node: the tree that begins at a place of steps. Conditions: up to 2^20 steps. -/
namespace Go.Proofs.YtoknglpfchjbjaaGreatDoor
open Go.RowKit Go.Sp Go.Maps

theorem infoTreeR : (Tryz.prog.info? 29).map (fun i => (i.zero, i.size, i.bytes)) = some (some (.agg #[.string ⟨#[]⟩, .string ⟨#[]⟩, .slice none 0 0, .slice none 0 0]), 4, 80) := by kernel_rfl
theorem infoAttrR : (Tryz.prog.info? 72).map (fun i => (i.zero, i.size, i.bytes)) = some (some (.agg #[.string ⟨#[]⟩, .string ⟨#[]⟩]), 2, 32) := by kernel_rfl

def NodePost (xs : List Stp) (p F : Nat) (w : World) (e : Ending) (w' : World) : Prop := Below w.heap.size w w' ∧
  ((∃ (T : TT) (q : Nat) (vs : List Value), parL F none (xs.drop p) = some (T, xs.drop q) ∧ p < q ∧ q ≤ xs.length ∧ e = .returned (.tuple #[.agg vs.toArray, .int .i64 q]) ∧ (treeS (xs.length - p)).rep (fun b => w.heap.size ≤ b ∧ b < w'.heap.size) w' vs T) ∨
   (parL F none (xs.drop p) = none ∧ e = .returned (.tuple #[.agg #[.string ⟨#[]⟩, .string ⟨#[]⟩, .slice none 0 0, .slice none 0 0], .int .i64 (-1)])))

def atCells (x : ByteArray × ByteArray) : List Value := [.string x.1, .string x.2]
theorem own_attrs {w : World} {base : Nat} {e : TypeId} {pv : Value} {qs : List (ByteArray × ByteArray)} (h : w.ownsRow base e 2 pv qs.length (qs.flatMap atCells)) (hq : ∀ q ∈ qs, q.1.size ≤ maxLen ∧ q.2.size ≤ maxLen) :
    ∃ a c, pv = .slice a qs.length c ∧ Sl attrS (fun b => pv.ownBlock = some b) w a qs := by
  have h' : w.ownsRow base e attrS.sz pv qs.length ((qs.map fun q => (atCells q, q)).flatMap (·.1)) := by rw [List.flatMap_map]; exact h
  obtain ⟨a, c, h1, h2⟩ := own_sl (S := attrS) (F := fun b => pv.ownBlock = some b) h' (by simp) (fun x hx => by
    obtain ⟨q, hq', rfl⟩ := List.mem_map.1 hx
    exact ⟨rfl, hq q hq'⟩) (fun g hg => hg)
  refine ⟨a, c, h1, ?_⟩
  have e : (qs.map fun q => (atCells q, q)).map (·.2) = qs := by rw [List.map_map]; exact List.map_id _
  rwa [e] at h2

theorem frozenN {X : World} {D : Nat} {vs : Array Value} {t : TypeId} (h : X.heap[D]? = some (.cells vs t (0, 0))) (j : Nat) : X.frozen? ⟨D, j, none⟩ = false := by simp [World.frozen?, h]

theorem set_grownN (W : World) (D i : Nat) (v : Value) : W.grownBy (W.setCell ⟨D, i, none⟩ v) (some D) := ⟨rfl, rfl, rfl, by simp, fun j _ hj => heap_setCell_other W ⟨D, i, none⟩ j _ (fun e => hj (by simp [e]))⟩
theorem grown_newN {w W W' : World} {r : Nat} {o : Option Nat} (h : w.grownBy W (some r)) (k : W.grownBy W' o) (hD : ∀ g, o = some g → w.heap.size ≤ g) : w.grownBy W' (some r) :=
  ⟨k.os.trans h.os, k.tape.trans h.tape, k.output.trans h.output, Nat.le_trans h.size k.size, fun j hj hne => (k.block j (Nat.lt_of_lt_of_le hj h.size) (fun e => by have := hD j e.symm; omega)).trans (h.block j hj hne)⟩


set_option maxRecDepth 100000 in
set_option maxHeartbeats 4000000 in
theorem node_end (xs : List Stp) (a : Option Addr) (c F : Nat) (w : World) : Calls Tryz.prog 36 #[.slice a xs.length c, .int .i64 xs.length] w (NodePost xs xs.length F w) := by
  have HN := Sp.hid (show parL F none (xs.drop xs.length) = none by rw [List.drop_length]; exact parL_end)
  have hb1 : Below w.heap.size w (w.alloc (.cells #[.string ⟨#[]⟩, .string ⟨#[]⟩, .slice none 0 0, .slice none 0 0] 29)) := (Below.refl _ _).alloc (Nat.le_refl _) _
  have hres : (w.alloc (.cells #[.string ⟨#[]⟩, .string ⟨#[]⟩, .slice none 0 0, .slice none 0 0] 29)).heap[w.heap.size]? = some (.cells #[.string ⟨#[]⟩, .string ⟨#[]⟩, .slice none 0 0, .slice none 0 0] 29 (0, 0)) := World.alloc_heap_new _ _
  have r0 : (w.alloc (.cells #[.string ⟨#[]⟩, .string ⟨#[]⟩, .slice none 0 0, .slice none 0 0] 29)).cell? ⟨w.heap.size, 0, none⟩ = some (.string ⟨#[]⟩) := cell_at hres 0
  have r1 : (w.alloc (.cells #[.string ⟨#[]⟩, .string ⟨#[]⟩, .slice none 0 0, .slice none 0 0] 29)).cell? ⟨w.heap.size, 1, none⟩ = some (.string ⟨#[]⟩) := cell_at hres 1
  have r2 : (w.alloc (.cells #[.string ⟨#[]⟩, .string ⟨#[]⟩, .slice none 0 0, .slice none 0 0] 29)).cell? ⟨w.heap.size, 2, none⟩ = some (.slice none 0 0) := cell_at hres 2
  have r3 : (w.alloc (.cells #[.string ⟨#[]⟩, .string ⟨#[]⟩, .slice none 0 0, .slice none 0 0] 29)).cell? ⟨w.heap.size, 3, none⟩ = some (.slice none 0 0) := cell_at hres 3
  have fr := frozenN hres
  have HB1 := Sp.hid hb1
  clear hb1 hres
  go_enter Tryz.func36, Tryz.ntmps36
  go_wp2
  refine bodyPost_ret (v := .tuple #[.agg #[.string ⟨#[]⟩, .string ⟨#[]⟩, .slice none 0 0, .slice none 0 0], .int .i64 (-1)]) (by simp [results, Tryz.f36, go_sem, r0, r1, r2, r3]) rfl ⟨?_, .inr ⟨HN.out, rfl⟩⟩
  first | exact HB1.out | exact (((HB1.out.setCell (Nat.le_refl _) _).setCell (Nat.le_refl _) _).setCell (Nat.le_refl _) _).setCell (Nat.le_refl _) _

/-- What the loop over attributes keeps. -/
def AttrInv (xs : List Stp) (p0 nT : Nat) (lab : ByteArray) (w3 : World) (i : Value) (wr : World) : Prop := ∃ (p : Nat) (al : List (ByteArray × ByteArray)) (va : Value), p0 + 1 ≤ p ∧ p ≤ xs.length ∧ i = .int .i64 p ∧ al.length + (p0 + 1) = p ∧
  attrsOf (xs.drop (p0 + 1)) = al ++ attrsOf (xs.drop p) ∧ (xs.drop (p0 + 1)).dropWhile isAt = (xs.drop p).dropWhile isAt ∧ wr.heap[nT]? = some (.cells #[.string lab, .string ⟨#[]⟩, va, .slice none 0 0] 29 (0, 0)) ∧
  wr.ownsRow w3.heap.size 72 2 va al.length (al.flatMap atCells) ∧ (∀ x ∈ al, x.1.size ≤ maxLen ∧ x.2.size ≤ maxLen) ∧ w3.grownBy wr (some nT)
/-- Where a child's cells lie. -/
def KidF (B : Nat) (W : World) (l : Value) (b : Nat) : Prop := B ≤ b ∧ b < W.heap.size ∧ some b ≠ l.ownBlock
/-- What the loop over children keeps. -/
def KidInv (xs : List Stp) (p0 F nT : Nat) (lab : ByteArray) (al : List (ByteArray × ByteArray)) (va : Value) (w4 : World) (i : Value) (wr : World) : Prop := ∃ (p F' : Nat) (ks : List (List Value × TT)) (vk : Value), p0 + 1 ≤ p ∧ p ≤ xs.length ∧ i = .int .i64 p ∧ ks.length ≤ p ∧ 2 * (xs.length - p) + 2 ≤ F' ∧
  parL F none (xs.drop p0) = parL F' (some (lab, al, ks.map (·.2))) (xs.drop p) ∧ wr.heap[nT]? = some (.cells #[.string lab, .string ⟨#[]⟩, va, vk] 29 (0, 0)) ∧
  wr.ownsRow w4.heap.size 29 4 vk ks.length (ks.flatMap (·.1)) ∧ (∀ x ∈ ks, (treeS (xs.length - (p0 + 1))).rep (KidF w4.heap.size wr vk) wr x.1 x.2) ∧ w4.grownBy wr (some nT)

theorem news4r (w : World) (a b c d : Value) (t : TypeId) : ∀ j u, [a, b, c, d][j]? = some u → (w.alloc (.cells #[a, b, c, d] t)).cell? ((⟨w.heap.size, 0, none⟩ : Addr).add j) = some u := by
  intro j u hj
  have hadd : (⟨w.heap.size, 0, none⟩ : Addr).add j = ⟨w.heap.size, j, none⟩ := by unfold Addr.add; split <;> simp_all
  rw [hadd, World.cell?_alloc_new]
  simpa using hj

set_option maxRecDepth 100000 in
set_option maxHeartbeats 16000000 in
theorem node_step (xs : List Stp) (hxl : xs.length ≤ 1048576) (a : Option Addr) (c p0 F : Nat) (w : World) (hs : Sl stpS (· < w.heap.size) w a xs) (hp0 : p0 < xs.length) (hF : 2 * (xs.length - p0) + 1 ≤ F)
    (ih : ∀ (p F' : Nat) (W : World), p0 < p → p ≤ xs.length → 2 * (xs.length - p) + 1 ≤ F' → Sl stpS (· < W.heap.size) W a xs → Calls Tryz.prog 36 #[.slice a xs.length c, .int .i64 p] W (NodePost xs p F' W)) :
    Calls Tryz.prog 36 #[.slice a xs.length c, .int .i64 p0] w (NodePost xs p0 F w) := by
  obtain ⟨F, rfl⟩ : ∃ G, F = G + 1 := ⟨F - 1, by omega⟩
  have HSL := Sp.hid (fun W (hW : Below w.heap.size w W) => hs.below (fun k h => h) hW)
  have HIH := Sp.hid ih
  obtain ⟨w1, hw1⟩ : ∃ w1, w1 = w.alloc (.cells #[.string ⟨#[]⟩, .string ⟨#[]⟩, .slice none 0 0, .slice none 0 0] 29) := ⟨_, rfl⟩
  have hb1 : Below w.heap.size w w1 := by rw [hw1]; exact (Below.refl _ _).alloc (Nat.le_refl _) _
  have hres : w1.heap[w.heap.size]? = some (.cells #[.string ⟨#[]⟩, .string ⟨#[]⟩, .slice none 0 0, .slice none 0 0] 29 (0, 0)) := by rw [hw1]; exact World.alloc_heap_new _ _
  have hl1 : w.heap.size + 1 ≤ w1.heap.size := by rw [hw1]; simp
  have hl1' : w1.heap.size ≤ w.heap.size + 1 := by rw [hw1]; simp
  have hal : ∀ (p : Nat) (hp : p < xs.length), ∃ b o, a = some ⟨b, o, none⟩ ∧ b < w.heap.size ∧ xs[p].name.size ≤ maxLen ∧ xs[p].text.size ≤ maxLen ∧ ∀ W, Below w.heap.size w W → W.cell? ⟨b, o + p * 3, none⟩ = some (.int .i64 xs[p].kind) ∧ W.cell? ⟨b, o + p * 3 + 1, none⟩ = some (.string xs[p].name) ∧ W.cell? ⟨b, o + p * 3 + 2, none⟩ = some (.string xs[p].text) := by
    intro p hp
    obtain ⟨b, o, rfl, fb, n1, n2, e1, e2, e3⟩ := stp_cells hs p hp
    exact ⟨b, o, rfl, fb, n1, n2, fun W hW => ⟨(hW.cell (p := ⟨b, o + p * 3, none⟩) fb).trans e1, (hW.cell (p := ⟨b, o + p * 3 + 1, none⟩) fb).trans e2, (hW.cell (p := ⟨b, o + p * 3 + 2, none⟩) fb).trans e3⟩⟩
  have HAL := Sp.hid hal
  obtain ⟨b, o, rfl, fb, n1, n2, hcs⟩ := hal p0 hp0
  have HDR := Sp.hid (drop_at hp0)
  obtain ⟨s, hsx⟩ : ∃ s, s = xs[p0] := ⟨_, rfl⟩
  rw [← hsx] at n1 n2 hcs HDR
  have HCS := Sp.hid hcs
  have HPL := Sp.hid (fun W => refPlain_any s W)
  obtain ⟨e1, e2, e3⟩ := hcs w1 hb1
  have HN1 := Sp.hid n1
  have HN2 := Sp.hid n2
  have HW1 := Sp.hid hw1
  have HB1 := Sp.hid hb1
  have HR1 := Sp.hid hres
  have hbl1 : b < w1.heap.size := by omega
  have hlt0 : ((p0 : Nat) : Int) < ((xs.length : Nat) : Int) := by omega
  obtain ⟨pb, hpb⟩ : ∃ pb, pb = plainB s := ⟨_, rfl⟩
  rw [← hpb] at HPL
  have HPB := Sp.hid hpb
  rw [hw1] at e1 e2 e3 hbl1
  clear hs ih hw1 hb1 hres hal hcs hsx hpb n1 n2
  go_enter Tryz.func36, Tryz.ntmps36
  go_wp2_with fail
  rw [← HW1.out]
  refine (HPL.out _).mono ?_
  rintro e w2 ⟨rfl, hb2⟩
  clear e1 e2 e3 hbl1
  have hs2 := hb2.size
  have hbw2 : Below w.heap.size w w2 := HB1.out.trans (hb2.mono (by omega))
  have hres2 := (hb2.block _ (by omega)).trans HR1.out
  obtain ⟨e1, e2, e3⟩ := HCS.out w2 hbw2
  have hbl2 : b < w2.heap.size := by omega
  have HB2 := Sp.hid hbw2
  have HR2 := Sp.hid hres2
  cases pb
  · have HN := Sp.hid (show parL (F + 1) none (xs.drop p0) = none by rw [HDR.out]; exact parL_bad (.inl HPB.out.symm))
    have r0 : w2.cell? ⟨w.heap.size, 0, none⟩ = some (.string ⟨#[]⟩) := cell_at hres2 0
    have r1 : w2.cell? ⟨w.heap.size, 1, none⟩ = some (.string ⟨#[]⟩) := cell_at hres2 1
    have r2 : w2.cell? ⟨w.heap.size, 2, none⟩ = some (.slice none 0 0) := cell_at hres2 2
    have r3 : w2.cell? ⟨w.heap.size, 3, none⟩ = some (.slice none 0 0) := cell_at hres2 3
    have fr := frozenN hres2
    clear hb2 hbw2 hres2
    go_wp2
    refine bodyPost_ret (v := .tuple #[.agg #[.string ⟨#[]⟩, .string ⟨#[]⟩, .slice none 0 0, .slice none 0 0], .int .i64 (-1)]) (by simp [results, Tryz.f36, go_sem, r0, r1, r2, r3]) rfl ⟨?_, .inr ⟨HN.out, rfl⟩⟩
    first | exact HB2.out | exact (((HB2.out.setCell (Nat.le_refl _) _).setCell (Nat.le_refl _) _).setCell (Nat.le_refl _) _).setCell (Nat.le_refl _) _
  · by_cases h3 : s.kind = 3
    · have h31 : (s.kind != 1) = true := by rw [h3]; rfl
      have h33 : (s.kind != 3) = false := by rw [h3]; rfl
      have h33' : (s.kind == 3) = true := by rw [h3]; rfl
      have HP := Sp.hid (show parL (F + 1) none (xs.drop p0) = some (.mk ⟨#[]⟩ s.text [] [], xs.drop (p0 + 1)) by rw [HDR.out]; exact parL_text HPB.out.symm h3)
      have r0 : w2.cell? ⟨w.heap.size, 0, none⟩ = some (.string ⟨#[]⟩) := cell_at hres2 0
      have r1 : w2.cell? ⟨w.heap.size, 1, none⟩ = some (.string ⟨#[]⟩) := cell_at hres2 1
      have r2 : w2.cell? ⟨w.heap.size, 2, none⟩ = some (.slice none 0 0) := cell_at hres2 2
      have r3 : w2.cell? ⟨w.heap.size, 3, none⟩ = some (.slice none 0 0) := cell_at hres2 3
      have fr := frozenN hres2
      clear hb2 hbw2 hres2 h3
      go_wp2
      refine bodyPost_ret (v := .tuple #[.agg #[.string ⟨#[]⟩, .string s.text, .slice none 0 0, .slice none 0 0], .int .i64 ((p0 + 1 : Nat) : Int)]) (by simp [results, Tryz.f36, go_sem, r0, r1, r2, r3]) rfl ⟨?_, .inl ⟨_, p0 + 1, [.string ⟨#[]⟩, .string s.text, .slice none 0 0, .slice none 0 0], HP.out, by omega, by omega, rfl, ?_⟩⟩
      · first | exact HB2.out | exact (((HB2.out.setCell (Nat.le_refl _) _).setCell (Nat.le_refl _) _).setCell (Nat.le_refl _) _).setCell (Nat.le_refl _) _ | exact HB2.out.setCell (Nat.le_refl _) _
      · obtain ⟨d, hd⟩ : ∃ d, xs.length - p0 = d + 1 := ⟨xs.length - p0 - 1, by omega⟩
        rw [hd]
        exact ⟨⟨Nat.zero_le _, HN2.out, Nat.zero_le _, Nat.zero_le _⟩, none, 0, none, 0, rfl, Sl.nil, Sl.nil⟩
    · by_cases h1 : s.kind = 1
      rotate_left
      · have h11 : (s.kind != 1) = true := by simpa using h1
        have h13 : (s.kind != 3) = true := by simpa using h3
        have HN := Sp.hid (show parL (F + 1) none (xs.drop p0) = none by rw [HDR.out]; exact parL_bad (.inr ⟨h1, h3⟩))
        have r0 : w2.cell? ⟨w.heap.size, 0, none⟩ = some (.string ⟨#[]⟩) := cell_at hres2 0
        have r1 : w2.cell? ⟨w.heap.size, 1, none⟩ = some (.string ⟨#[]⟩) := cell_at hres2 1
        have r2 : w2.cell? ⟨w.heap.size, 2, none⟩ = some (.slice none 0 0) := cell_at hres2 2
        have r3 : w2.cell? ⟨w.heap.size, 3, none⟩ = some (.slice none 0 0) := cell_at hres2 3
        have fr := frozenN hres2
        clear hb2 hbw2 hres2 h1 h3
        go_wp2
        refine bodyPost_ret (v := .tuple #[.agg #[.string ⟨#[]⟩, .string ⟨#[]⟩, .slice none 0 0, .slice none 0 0], .int .i64 (-1)]) (by simp [results, Tryz.f36, go_sem, r0, r1, r2, r3]) rfl ⟨?_, .inr ⟨HN.out, rfl⟩⟩
        first | exact HB2.out | exact (((HB2.out.setCell (Nat.le_refl _) _).setCell (Nat.le_refl _) _).setCell (Nat.le_refl _) _).setCell (Nat.le_refl _) _
      · have h11 : (s.kind != 1) = false := by rw [h1]; rfl
        have h13 : (s.kind == 3) = false := by rw [h1]; rfl
        have HP1 := Sp.hid (show parL (F + 1) none (xs.drop p0) = parL F (some (s.name, attrsOf (xs.drop (p0 + 1)), [])) ((xs.drop (p0 + 1)).dropWhile isAt) by rw [HDR.out]; exact parL_open HPB.out.symm h1)
        obtain ⟨w3, hw3⟩ : ∃ w3, w3 = w2.alloc (.cells #[.string s.name, .string ⟨#[]⟩, .slice none 0 0, .slice none 0 0] 29) := ⟨_, rfl⟩
        have hs3 : w2.heap.size + 1 ≤ w3.heap.size := by rw [hw3]; simp
        have hs3' : w3.heap.size ≤ w2.heap.size + 1 := by rw [hw3]; simp
        have hb3 : Below w2.heap.size w2 w3 := by rw [hw3]; exact (Below.refl _ _).alloc (Nat.le_refl _) _
        have ht3 : w3.heap[w2.heap.size]? = some (.cells #[.string s.name, .string ⟨#[]⟩, .slice none 0 0, .slice none 0 0] 29 (0, 0)) := by rw [hw3]; exact World.alloc_heap_new _ _
        have HB3 := Sp.hid (hbw2.trans (hb3.mono (by omega)) : Below w.heap.size w w3)
        have HR3 := Sp.hid ((hb3.block _ (by omega)).trans hres2)
        have HT3 := Sp.hid ht3
        have HW3 := Sp.hid hw3
        clear hb2 hbw2 hres2 h1 h3 hw3 hb3 ht3
        go_wp2
        rw [← HW3.out]
        clear e1 e2 e3
        have hge : decide (xs.length ≤ p0) = false := by simp; omega
        simp only [hge]
        go_loopw [1] (fun i wr => AttrInv xs p0 w2.heap.size s.name w3 i wr) (fun i _ => xs.length - (intOf i).toNat)
        case atStart => exact ⟨p0 + 1, [], .slice none 0 0, Nat.le_refl _, by omega, by go_num, by simp, rfl, rfl, HT3.out, World.ownsRow_nil _ _ _ _, by simp, grown_refl _ _⟩
        case round =>
          obtain ⟨p, al, va, hp, hpl, rfl, hall, hat, hdw, hnt, hown, hsz, hg3⟩ := hrel
          have hsr := hg3.size
          have hbwr : Below w.heap.size w wr := HB3.out.grown hg3 (by omega) (fun g hg => by have := Option.some.inj hg; omega)
          have hresr := (hg3.block _ (by omega) (fun e => by have := Option.some.inj e; omega)).trans HR3.out
          have hntl : w2.heap.size < wr.heap.size := by omega
          by_cases hlt : p < xs.length
          · obtain ⟨b', o', hbe, -, n1, n2, hcs⟩ := HAL.out p hlt
            cases hbe
            have HDP := Sp.hid (drop_at hlt)
            obtain ⟨q, hq⟩ : ∃ q, q = xs[p] := ⟨_, rfl⟩
            rw [← hq] at n1 n2 hcs HDP
            obtain ⟨d1, d2, d3⟩ := hcs wr hbwr
            have HCQ := Sp.hid hcs
            have hbr : b < wr.heap.size := by omega
            clear hq hcs
            by_cases h2 : q.kind = 2
            · have h2' : (q.kind == 2) = true := by rw [h2]; rfl
              obtain ⟨j0, hj0, hy0, hy1, hy2⟩ := info_parts infoAttrR
              obtain ⟨ha1, ha2⟩ := attrs_step (s := q) (r := xs.drop (p + 1)) (by unfold isAt; rw [h2]; rfl)
              have HAT := Sp.hid (show attrsOf (xs.drop (p0 + 1)) = (al ++ [(q.name, q.text)]) ++ attrsOf (xs.drop (p + 1)) by rw [hat, HDP.out, ha1]; simp)
              have HDW := Sp.hid (show (xs.drop (p0 + 1)).dropWhile isAt = (xs.drop (p + 1)).dropWhile isAt by rw [hdw, HDP.out, ha2])
              have HPO := Sp.hid hown
              have HNT := Sp.hid hnt
              have HG3 := Sp.hid hg3
              have HD1 := Sp.hid d1
              have HD2 := Sp.hid d2
              have HD3 := Sp.hid d3
              have HSZ := Sp.hid (show ∀ x ∈ al ++ [(q.name, q.text)], x.1.size ≤ maxLen ∧ x.2.size ≤ maxLen from fun x hx => by
                rcases List.mem_append.1 hx with hx | hx
                · exact hsz x hx
                · rw [List.mem_singleton.1 hx]; exact ⟨n1, n2⟩)
              have x2 : wr.cell? ⟨w2.heap.size, 2, none⟩ = some va := cell_at hnt 2
              have HX2 := Sp.hid x2
              have hpx : some w2.heap.size ≠ va.ownBlock := fun e => by have := (hown.lt _ e.symm).1; omega
              have hpb2 : some b ≠ va.ownBlock := fun e => by have := (hown.lt _ e.symm).1; omega
              have HPX := Sp.hid hpx
              clear hat hdw ha1 ha2 hown hnt hg3 hsz hresr hbwr hpx hpb2 h2 x2 n1 n2
              go_wp2
              clear d1 d2 d3
              refine wp_region_two (by kernel_rfl) [some 72, some 73, some 74, some 75, some 76, some 77, some 78, some 79, some 80, some 81, some 82, some 83, some 84, some 85, some 86, some 87, none]
                [fun v _ => v = .pointer (some ⟨w2.heap.size, 2, none⟩), fun v _ => v = va, fun v _ => v = .slice (some ⟨b, o, none⟩) xs.length c, fun v _ => v = .int .i64 (p : Nat), fun v _ => v = .pointer (some ⟨b, o + p * 3, none⟩), fun v _ => v = .pointer (some ⟨b, o + p * 3 + 1, none⟩), fun v _ => v = .string q.name,
                  fun v _ => v = .slice (some ⟨b, o, none⟩) xs.length c, fun v _ => v = .int .i64 (p : Nat), fun v _ => v = .pointer (some ⟨b, o + p * 3, none⟩), fun v _ => v = .pointer (some ⟨b, o + p * 3 + 2, none⟩), fun v _ => v = .string q.text, fun v _ => v = .agg #[.string q.name, .string q.text],
                  fun v y => ∃ z, v = .slice (some ⟨z, 0, none⟩) 1 1 ∧ wr.heap.size ≤ z ∧ y.heap[z]? = some (.cells #[.string q.name, .string q.text] 72 (0, 0)),
                  fun v y => y.ownsRow w3.heap.size 72 2 v (al.length + 1) (al.flatMap atCells ++ [.string q.name, .string q.text]) ∧ (v.ownBlock = va.ownBlock ∨ ∃ z, v.ownBlock = some z ∧ wr.heap.size ≤ z),
                  fun v _ => v = .pointer (some ⟨w2.heap.size, 2, none⟩)]
                14 [13, 12, 11, 10, 9, 8, 7, 6, 5, 4, 3, 2, 1, 0]
                (fun b w' => wr.grownBy w' (if b then va.ownBlock else none))
                (fun i w w' => w.grownBy w' (if i = 14 then va.ownBlock else none)) rfl (by kernel_rfl) (by kernel_rfl) (by kernel_rfl) (by kernel_rfl) (by kernel_rfl) ?fr2 ?hfr2 ?G02 ?GR2 ?FR2 ?step2 _ rfl ?fin2
              case hfr2 => intro u; simp only [Sp.fillFrom, Sp.idx_cons, Sp.idx_nil, Option.some.injEq, reduceCtorEq, reduceIte, Nat.reduceEqDiff, Nat.reduceAdd, Option.map_some, Option.map_none]; exact rfl
              case G02 => exact ⟨rfl, rfl, rfl, Nat.le_refl _, fun _ _ _ => rfl⟩
              case GR2 =>
                intro i b y1 y2 hG hR
                cases b
                · by_cases hi : i = 14
                  · simp only [hi, if_true] at hR ⊢; exact grown_trans (grown_weak hG) hR
                  · simp only [if_neg hi] at hR; simp only [hi, decide_false, Bool.or_false]; exact grown_trans hG hR
                · simp only [if_true, Bool.true_or] at hG ⊢
                  by_cases hi : i = 14
                  · simp only [hi, if_true] at hR; exact grown_trans hG hR
                  · simp only [if_neg hi] at hR; exact grown_trans hG (grown_weak hR)
              case FR2 =>
                iterate 13 (refine ⟨fun _ _ _ _ _ _ _ h => h, ?_⟩)
                refine ⟨?_, ?_, fun _ _ _ _ _ _ _ h => h, trivial⟩
                · rintro i hi v y1 y2 _ hR ⟨z, rfl, hz, hc⟩
                  refine ⟨z, rfl, hz, (hR.block z (Array.getElem?_eq_some_iff.1 hc).1 ?_).trans hc⟩
                  split
                  · intro e1
                    have := (HPO.out.lt z e1.symm).2
                    omega
                  · simp
                · rintro i hi v y1 y2 _ hR ⟨hw, hl'⟩
                  rw [if_neg hi] at hR
                  exact ⟨hw.kept hR (by cases v.ownBlock <;> simp), hl'⟩
              case step2 =>
                refine ⟨?_, ?_, ?_, ?_, ?_, ?_, ?_, ?_, ?_, ?_, ?_, ?_, ?_, ?_, ?_, ?_, trivial⟩
                all_goals
                  intro u y1 bb hbb hG hD
                  simp only [Sp.DepsHold, Sp.factAt, Region.binds, List.getElem?_cons_zero, List.getElem?_cons_succ, Option.getD_some, and_true, true_implies] at hD
                  dsimp only
                iterate 13
                  · obtain rfl : bb = false := hbb (.inl (by simp))
                    have c2 : y1.cell? ⟨w2.heap.size, 2, none⟩ = some va := hG.cell (a := ⟨w2.heap.size, 2, none⟩) HX2.out (by simp)
                    have q1 : y1.cell? ⟨b, o + p * 3, none⟩ = some (.int .i64 q.kind) := hG.cell (a := ⟨b, o + p * 3, none⟩) HD1.out (by simp)
                    have q2 : y1.cell? ⟨b, o + p * 3 + 1, none⟩ = some (.string q.name) := hG.cell (a := ⟨b, o + p * 3 + 1, none⟩) HD2.out (by simp)
                    have q3 : y1.cell? ⟨b, o + p * 3 + 2, none⟩ = some (.string q.text) := hG.cell (a := ⟨b, o + p * 3 + 2, none⟩) HD3.out (by simp)
                    clear hG hbb
                    repeat (obtain ⟨hE, hD⟩ := hD; (try rw [hE]); clear hE)
                    try rw [hD]
                    try clear hD
                    go_wp2
                    exact ⟨grown_refl _ _, _, rfl, rfl⟩
                · have hGs := hG.size
                  rw [hD]
                  clear hG hbb hD
                  go_wp2
                  exact ⟨World.grownBy_alloc _ _ _, _, rfl, _, rfl, hGs, World.alloc_heap_new _ _⟩
                · obtain rfl : bb = false := hbb (.inr rfl)
                  obtain ⟨h1, z, h21, hz, hc⟩ := hD
                  have hGs := hG.size
                  have hrow1 : y1.ownsRow w3.heap.size 72 2 va al.length (al.flatMap atCells) := HPO.out.kept hG (by cases va.ownBlock <;> simp)
                  rw [h1, h21]
                  refine wpList_append_own_at _ rfl _ _ 26 rfl w3.heap.size 72 j0 _ 2 32 Tryz.underlying26 hj0 hy0 hy1 hy2 rfl (by decide) _ _ _ rfl hrow1 ⟨z, 0, none⟩ 1 1 [.string q.name, .string q.text] rfl rfl ?_ ?_ (by unfold maxLen; omega) (by omega) (by omega) ?_
                  · intro j u hj
                    have hadd : (⟨z, 0, none⟩ : Addr).add j = ⟨z, j, none⟩ := by unfold Addr.add; split <;> simp_all
                    rw [hadd, cell_at hc]
                    simpa using hj
                  · intro u hu; simp at hu; rcases hu with rfl | rfl <;> rfl
                  intro v' y2 hown' hgrow _ hloc
                  refine wpList_nil ?_
                  refine ⟨hgrow, v', rfl, hown', ?_⟩
                  rcases hloc with h | h
                  · exact .inl h
                  · exact .inr ⟨_, h, hGs⟩
                · clear hG hbb hD
                  go_wp2
                  exact ⟨grown_refl _ _, _, rfl, rfl⟩
              case fin2 =>
                intro u y1 bb hG hF
                simp only [Sp.AllF, and_true] at hF; (try dsimp only); generalize u 0 = u0 at *; generalize u 1 = u1 at *; generalize u 2 = u2 at *; generalize u 3 = u3 at *; generalize u 4 = u4 at *; generalize u 5 = u5 at *; generalize u 6 = u6 at *; generalize u 7 = u7 at *; generalize u 8 = u8 at *; generalize u 9 = u9 at *; generalize u 10 = u10 at *; generalize u 11 = u11 at *; generalize u 12 = u12 at *; generalize u 13 = u13 at *; generalize u 14 = u14 at *; generalize u 15 = u15 at *; clear u
                obtain ⟨-, -, -, -, -, -, -, -, -, -, -, -, -, -, ⟨hown, hloc⟩, h23⟩ := hF
                have hg1 : wr.grownBy y1 va.ownBlock := by cases bb; exact grown_weak hG; exact hG
                obtain ⟨gr, cr, hv⟩ := Joins.ownsRow_form hown (Nat.succ_pos _)
                rw [hv] at hown hloc ⊢
                rw [h23]
                have hgx : y1.heap[w2.heap.size]? = some (.cells #[.string s.name, .string ⟨#[]⟩, va, .slice none 0 0] 29 (0, 0)) := (hg1.block _ hntl HPX.out).trans HNT.out
                have cg : y1.cell? ⟨w2.heap.size, 2, none⟩ = some va := cell_at hgx 2
                have fg := frozenN hgx
                have hgl : w2.heap.size < y1.heap.size := by have := hg1.size; omega
                have hgr : gr ≠ w2.heap.size := fun e => by have := (hown.lt gr rfl).1; omega
                have hset : y1.grownBy (y1.setCell ⟨w2.heap.size, 2, none⟩ (.slice (some ⟨gr, 0, none⟩) (al.length + 1) cr)) (some w2.heap.size) := set_grownN _ _ _ _
                have hcell := heap_setCell_same y1 w2.heap.size 2 #[.string s.name, .string ⟨#[]⟩, va, .slice none 0 0] 29 (.slice (some ⟨gr, 0, none⟩) (al.length + 1) cr) hgx
                have hgn : w3.grownBy (y1.setCell ⟨w2.heap.size, 2, none⟩ (.slice (some ⟨gr, 0, none⟩) (al.length + 1) cr)) (some w2.heap.size) := grown_trans (grown_newN HG3.out hg1 (fun g hg => (HPO.out.lt g hg).1)) hset
                have HREL := Sp.hid (show AttrInv xs p0 w2.heap.size s.name w3 (.int .i64 ((p + 1 : Nat) : Int)) (y1.setCell ⟨w2.heap.size, 2, none⟩ (.slice (some ⟨gr, 0, none⟩) (al.length + 1) cr)) from
                  ⟨p + 1, al ++ [(q.name, q.text)], .slice (some ⟨gr, 0, none⟩) (al.length + 1) cr, by omega, by omega, rfl, by rw [List.length_append]; simp; omega, HAT.out, HDW.out, by simpa using hcell,
                    by rw [List.length_append, List.flatMap_append]; simpa [atCells] using hown.kept hset (.inr (fun e => hgr (Option.some.inj e))), HSZ.out, hgn⟩)
                clear hG hown hloc h23 hg1 hgx hgr hset hcell hgn hv
                go_wp2
                dsimp only [StepPost, normally]
                go_wp2
                go_roundw
                case rel => exact HREL.out
                case measure => simp [intOf]; omega
            · have h2' : (q.kind == 2) = false := by simpa using h2
              obtain ⟨ha1, ha2⟩ := attrs_stop (s := q) (r := xs.drop (p + 1)) (by unfold isAt; simpa using h2)
              have HKP := Sp.hid (show parL (F + 1) none (xs.drop p0) = parL F (some (s.name, al, [])) (xs.drop p) by
                rw [HP1.out, hat, hdw, HDP.out, ha1, ha2, List.append_nil])
              obtain ⟨w4, rfl⟩ : ∃ w4, w4 = wr := ⟨_, rfl⟩
              have HOW := Sp.hid hown
              have HSZ := Sp.hid hsz
              have HNT := Sp.hid hnt
              have HB4 := Sp.hid hbwr
              have HR4 := Sp.hid hresr
              have HG34 := Sp.hid hg3
              have hal1 : al.length ≤ 1048576 := by omega
              clear hat hdw ha1 ha2 hown hnt hg3 hsz hresr hbwr h2 n1 n2
              go_wp2
              clear d1 d2 d3
              go_loopw [1] (fun i wr => KidInv xs p0 (F + 1) w2.heap.size s.name al va w4 i wr) (fun i _ => xs.length - (intOf i).toNat)
              case atStart => exact ⟨p, F, [], .slice none 0 0, hp, by omega, rfl, Nat.zero_le _, by omega, HKP.out, HNT.out, World.ownsRow_nil _ _ _ _, by simp, grown_refl _ _⟩
              case round =>
                obtain ⟨p2, F', ks, vk, hp2, hpl2, rfl, hkl, hF', hpar, hnt2, hown2, hks, hg4⟩ := hrel
                have hs4 := hg4.size
                have hbwr2 : Below w.heap.size w wr := HB4.out.grown hg4 (by omega) (fun g hg => by have := Option.some.inj hg; omega)
                have hresr2 := (hg4.block _ (by omega) (fun e => by have := Option.some.inj e; omega)).trans HR4.out
                have hntl2 : w2.heap.size < wr.heap.size := by omega
                by_cases hlt2 : p2 < xs.length
                · obtain ⟨b', o', hbe, -, m1, m2, hcs⟩ := HAL.out p2 hlt2
                  cases hbe
                  have HDP2 := Sp.hid (drop_at hlt2)
                  obtain ⟨q2, hq2⟩ : ∃ q2, q2 = xs[p2] := ⟨_, rfl⟩
                  rw [← hq2] at hcs HDP2
                  obtain ⟨d1, d2, d3⟩ := hcs wr hbwr2
                  have HCQ2 := Sp.hid hcs
                  have hbr2 : b < wr.heap.size := by omega
                  obtain ⟨F', rfl⟩ : ∃ G, F' = G + 1 := ⟨F' - 1, by omega⟩
                  clear hq2 hcs m1 m2
                  by_cases h4 : q2.kind = 4
                  · have h4' : (q2.kind != 4) = false := by rw [h4]; rfl
                    have HPQ := Sp.hid (fun W => refPlain_any q2 W)
                    obtain ⟨pq, hpq⟩ : ∃ pq, pq = plainB q2 := ⟨_, rfl⟩
                    rw [← hpq] at HPQ
                    have HQP := Sp.hid hpq
                    have HK4 := Sp.hid h4
                    have HPAR := Sp.hid hpar
                    have HNT2 := Sp.hid hnt2
                    have HO2 := Sp.hid hown2
                    have HKS := Sp.hid hks
                    have HB5 := Sp.hid hbwr2
                    have HR5 := Sp.hid hresr2
                    have HG4 := Sp.hid hg4
                    clear hpq h4 hpar hnt2 hown2 hks hbwr2 hresr2 hg4
                    go_wp2_with fail
                    refine (HPQ.out _).mono ?_
                    rintro e w6 ⟨rfl, hb6⟩
                    clear d1 d2 d3
                    have hs6 := hb6.size
                    have hbw6 : Below w.heap.size w w6 := HB5.out.trans (hb6.mono (by omega))
                    have hres6 := (hb6.block _ (by omega)).trans HR5.out
                    have hnt6 := (hb6.block _ (by omega)).trans HNT2.out
                    have HB6 := Sp.hid hbw6
                    have HBK := Sp.hid hb6
                    have r0 : w6.cell? ⟨w.heap.size, 0, none⟩ = some (.string ⟨#[]⟩) := cell_at hres6 0
                    have r1 : w6.cell? ⟨w.heap.size, 1, none⟩ = some (.string ⟨#[]⟩) := cell_at hres6 1
                    have r2 : w6.cell? ⟨w.heap.size, 2, none⟩ = some (.slice none 0 0) := cell_at hres6 2
                    have r3 : w6.cell? ⟨w.heap.size, 3, none⟩ = some (.slice none 0 0) := cell_at hres6 3
                    have fr := frozenN hres6
                    cases pq
                    · have HN := Sp.hid (show parL (F + 1) none (xs.drop p0) = none by rw [HPAR.out, HDP2.out]; exact parL_close_bad HK4.out HQP.out.symm)
                      clear hb6 hbw6 hres6 hnt6
                      go_wp2
                      refine bodyPost_ret (v := .tuple #[.agg #[.string ⟨#[]⟩, .string ⟨#[]⟩, .slice none 0 0, .slice none 0 0], .int .i64 (-1)]) (by simp [results, Tryz.f36, go_sem, r0, r1, r2, r3]) rfl ⟨?_, .inr ⟨HN.out, rfl⟩⟩
                      first | exact HB6.out | exact (((HB6.out.setCell (Nat.le_refl _) _).setCell (Nat.le_refl _) _).setCell (Nat.le_refl _) _).setCell (Nat.le_refl _) _
                    · have HP := Sp.hid (show parL (F + 1) none (xs.drop p0) = some (.mk s.name ⟨#[]⟩ al (ks.map (·.2)), xs.drop (p2 + 1)) by rw [HPAR.out, HDP2.out]; exact parL_close HK4.out HQP.out.symm)
                      obtain ⟨aa, ca, rfl, hsa⟩ := own_attrs HOW.out HSZ.out
                      obtain ⟨ak, ck, rfl, hsk⟩ := own_sl (S := treeS (xs.length - (p0 + 1))) (F := fun b => w4.heap.size ≤ b ∧ b < wr.heap.size) (by rw [treeS_sz]; exact HO2.out) rfl (fun y hy => (treeS _).mono (HKS.out y hy) fun b hb => ⟨hb.1, hb.2.1⟩) (fun g hg => HO2.out.lt g hg)
                      have hlo := HOW.out.lt
                      have HSA := Sp.hid (show Sl attrS (fun b => w.heap.size + 1 ≤ b ∧ b < w6.heap.size) w6 aa al from
                        (hsa.frame fun b hb => by
                          have := hlo b hb
                          exact (hb6.block b (by omega)).trans (HG4.out.block b this.2 (fun e => by have := Option.some.inj e; omega))).mono fun b hb => by have := hlo b hb; omega)
                      have HSK := Sp.hid (show Sl (treeS (xs.length - (p0 + 1))) (fun b => w.heap.size + 1 ≤ b ∧ b < w6.heap.size) w6 ak (ks.map (·.2)) from
                        (hsk.frame fun b hb => hb6.block b hb.2).mono fun b hb => by have := hb.1; have := hb.2; omega)
                      have t0 : w6.cell? ⟨w2.heap.size, 0, none⟩ = some (.string s.name) := cell_at hnt6 0
                      have t1 : w6.cell? ⟨w2.heap.size, 1, none⟩ = some (.string ⟨#[]⟩) := cell_at hnt6 1
                      have t2 : w6.cell? ⟨w2.heap.size, 2, none⟩ = some (.slice aa al.length ca) := cell_at hnt6 2
                      have t3 : w6.cell? ⟨w2.heap.size, 3, none⟩ = some (.slice ak ks.length ck) := cell_at hnt6 3
                      clear hb6 hbw6 hres6 hnt6 hsa hsk hlo
                      go_wp2
                      refine bodyPost_ret (v := .tuple #[.agg #[.string s.name, .string ⟨#[]⟩, .slice aa al.length ca, .slice ak ks.length ck], .int .i64 ((p2 + 1 : Nat) : Int)]) (by simp [results, Tryz.f36, go_sem, r0, r1, r2, r3]) rfl ⟨?_, .inl ⟨_, p2 + 1, [.string s.name, .string ⟨#[]⟩, .slice aa al.length ca, .slice ak ks.length ck], HP.out, by omega, by omega, rfl, ?_⟩⟩
                      · first | exact HB6.out | exact (((HB6.out.setCell (Nat.le_refl _) _).setCell (Nat.le_refl _) _).setCell (Nat.le_refl _) _).setCell (Nat.le_refl _) _
                      · have e : xs.length - p0 = (xs.length - (p0 + 1)) + 1 := by omega
                        rw [e]
                        have hk2 : (TT.mk s.name ⟨#[]⟩ al (ks.map (·.2))).kids.length = ks.length := by simp [TT.kids]
                        have hfr : ∀ b, w.heap.size + 1 ≤ b ∧ b < w6.heap.size → ((((w6.setCell ⟨w.heap.size, 0, none⟩ (.string s.name)).setCell ⟨w.heap.size, 1, none⟩ (.string ⟨#[]⟩)).setCell ⟨w.heap.size, 2, none⟩ (.slice aa al.length ca)).setCell ⟨w.heap.size, 3, none⟩ (.slice ak ks.length ck)).heap[b]? = w6.heap[b]? := fun b hb => by
                          have h1 := hb.1
                          rw [Below.heap_setCell _ _ _ _ (by show b ≠ w.heap.size; omega), Below.heap_setCell _ _ _ _ (by show b ≠ w.heap.size; omega), Below.heap_setCell _ _ _ _ (by show b ≠ w.heap.size; omega), Below.heap_setCell _ _ _ _ (by show b ≠ w.heap.size; omega)]
                        refine ⟨⟨HN1.out, Nat.zero_le _, hal1, by rw [hk2]; unfold maxLen; omega⟩, aa, ca, ak, ck, by rw [hk2]; rfl, ?_, ?_⟩
                        · exact (HSA.out.frame hfr).mono fun b hb => by simp only [World.size_setCell]; omega
                        · exact (HSK.out.frame hfr).mono fun b hb => by simp only [World.size_setCell]; omega
                  · have h4' : (q2.kind != 4) = true := by simpa using h4
                    have HCALL := Sp.hid (HIH.out p2 F' wr (by omega) hpl2 (by omega) ((HSL.out wr hbwr2).mono fun k hk => by have : k < w.heap.size := hk; omega))
                    have HK4 := Sp.hid h4
                    have HPAR := Sp.hid hpar
                    have HNT2 := Sp.hid hnt2
                    have HO2 := Sp.hid hown2
                    have HKS := Sp.hid hks
                    have HB5 := Sp.hid hbwr2
                    have HR5 := Sp.hid hresr2
                    have HG4 := Sp.hid hg4
                    clear h4 hpar hnt2 hown2 hks hbwr2 hresr2 hg4
                    go_wp2_with fail
                    refine HCALL.out.mono ?_
                    rintro e w5 ⟨hb5, ⟨T, qe, vs, hpp, hq1, hq2, rfl, hrep⟩ | ⟨hpp, rfl⟩⟩
                    rotate_left
                    · have HN := Sp.hid (show parL (F + 1) none (xs.drop p0) = none by rw [HPAR.out, HDP2.out]; exact parL_kid_bad HK4.out (by rw [← HDP2.out]; exact hpp))
                      have HB6 := Sp.hid (HB5.out.trans (hb5.mono HB5.out.size))
                      have hres6 := (hb5.block _ (by omega)).trans HR5.out
                      have hs5 := hb5.size
                      have HRS := Sp.hid (show (w5.alloc (.cells #[.string ⟨#[]⟩, .string ⟨#[]⟩, .slice none 0 0, .slice none 0 0] 29)).heap[w.heap.size]? = some (.cells #[.string ⟨#[]⟩, .string ⟨#[]⟩, .slice none 0 0, .slice none 0 0] 29 (0, 0)) from (Below.heap_alloc _ _ _ (by omega)).trans hres6)
                      obtain ⟨w6, hw6⟩ : ∃ w6, w6 = w5.alloc (.cells #[.string ⟨#[]⟩, .string ⟨#[]⟩, .slice none 0 0, .slice none 0 0] 29) := ⟨_, rfl⟩
                      have HB7 := Sp.hid (show Below w.heap.size w (w5.alloc (.cells #[.string ⟨#[]⟩, .string ⟨#[]⟩, .slice none 0 0, .slice none 0 0] 29)) from HB6.out.alloc HB6.out.size _)
                      have hr6 := HRS.out
                      have r0 : (w5.alloc (.cells #[.string ⟨#[]⟩, .string ⟨#[]⟩, .slice none 0 0, .slice none 0 0] 29)).cell? ⟨w.heap.size, 0, none⟩ = some (.string ⟨#[]⟩) := cell_at hr6 0
                      have r1 : (w5.alloc (.cells #[.string ⟨#[]⟩, .string ⟨#[]⟩, .slice none 0 0, .slice none 0 0] 29)).cell? ⟨w.heap.size, 1, none⟩ = some (.string ⟨#[]⟩) := cell_at hr6 1
                      have r2 : (w5.alloc (.cells #[.string ⟨#[]⟩, .string ⟨#[]⟩, .slice none 0 0, .slice none 0 0] 29)).cell? ⟨w.heap.size, 2, none⟩ = some (.slice none 0 0) := cell_at hr6 2
                      have r3 : (w5.alloc (.cells #[.string ⟨#[]⟩, .string ⟨#[]⟩, .slice none 0 0, .slice none 0 0] 29)).cell? ⟨w.heap.size, 3, none⟩ = some (.slice none 0 0) := cell_at hr6 3
                      have fr := frozenN hr6
                      clear hb5 hpp hres6 hr6 hw6
                      go_wp2
                      refine bodyPost_ret (v := .tuple #[.agg #[.string ⟨#[]⟩, .string ⟨#[]⟩, .slice none 0 0, .slice none 0 0], .int .i64 (-1)]) (by simp [results, Tryz.f36, go_sem, r0, r1, r2, r3]) rfl ⟨?_, .inr ⟨HN.out, rfl⟩⟩
                      first | exact HB7.out | exact (((HB7.out.setCell (Nat.le_refl _) _).setCell (Nat.le_refl _) _).setCell (Nat.le_refl _) _).setCell (Nat.le_refl _) _
                    · obtain ⟨i0, hi0, hz0, hz1, hz2⟩ := info_parts infoTreeR
                      have hs5 := hb5.size
                      have hd1 : xs.length - p2 ≤ xs.length - (p0 + 1) := by omega
                      have hrep2 := treeS_le hd1 hrep
                      obtain ⟨d, hd⟩ : ∃ d, xs.length - p2 = d + 1 := ⟨xs.length - p2 - 1, by omega⟩
                      rw [hd] at hrep
                      obtain ⟨-, aa, ca, ka, ck, hvs, -, -⟩ := tree_open hrep
                      subst hvs
                      have HREP := Sp.hid hrep2
                      have HPAR2 := Sp.hid (show parL (F + 1) none (xs.drop p0) = parL F' (some (s.name, al, ks.map (·.2) ++ [T])) (xs.drop qe) by rw [HPAR.out, HDP2.out]; exact parL_kid HK4.out (by rw [← HDP2.out]; exact hpp))
                      have HB6 := Sp.hid (HB5.out.trans (hb5.mono HB5.out.size))
                      have HBK := Sp.hid hb5
                      have hnt5 := (hb5.block _ (by omega)).trans HNT2.out
                      have hres5 := (hb5.block _ (by omega)).trans HR5.out
                      have HO5 := Sp.hid (own_same HO2.out (fun j hj => hb5.block j (HO2.out.lt j hj).2) : w5.ownsRow w4.heap.size 29 4 vk ks.length (ks.flatMap (·.1)))
                      have hqn : ¬ ((qe : Nat) : Int) < 0 := by omega
                      have HNT5 := Sp.hid hnt5
                      have x3 : (w5.alloc (.cells #[.string T.label, .string T.text, .slice aa T.attrs.length ca, .slice ka T.kids.length ck] 29)).cell? ⟨w2.heap.size, 3, none⟩ = some vk := cell_at ((Below.heap_alloc _ _ _ (by omega)).trans hnt5) 3
                      have hnl5 : w2.heap.size < w5.heap.size := by omega
                      have hvx : some w2.heap.size ≠ vk.ownBlock := fun e => by have := (HO2.out.lt _ e.symm).1; omega
                      have HVX := Sp.hid hvx
                      clear hrep hrep2 hpp hb5 hnt5 hres5 hd hd1 hvx d1 d2 d3
                      go_wp2_with (at_builtin; refine wpList_append_own_at _ rfl _ _ 27 rfl w4.heap.size 29 i0 _ 4 80 Tryz.underlying27 hi0 hz0 hz1 hz2 rfl (by decide) _ _ _ rfl ((HO5.out.alloc _).alloc _) ⟨w5.heap.size + 1, 0, none⟩ 1 1 [.string T.label, .string T.text, .slice aa T.attrs.length ca, .slice ka T.kids.length ck] rfl rfl ?c1 ?c2 ?c3 ?c4 ?c5 ?c6)
                      case c1 => have := news4r (w5.alloc (.cells #[.string T.label, .string T.text, .slice aa T.attrs.length ca, .slice ka T.kids.length ck] 29)) (.string T.label) (.string T.text) (.slice aa T.attrs.length ca) (.slice ka T.kids.length ck) 29; simpa using this
                      case c2 => intro u hu; simp at hu; rcases hu with rfl | rfl | rfl | rfl <;> rfl
                      case c3 => unfold maxLen; omega
                      case c4 => omega
                      case c5 => simp; omega
                      case c6 =>
                        intro v' w7 hown' hgrow _ hwh
                        have a5 : w5.grownBy w7 vk.ownBlock := grown_trans (grown_weak (grown_below (((Below.refl _ _).alloc (Nat.le_refl _) _).alloc (by simp) _))) hgrow
                        have ha5 := a5.size
                        have hgx : w7.heap[w2.heap.size]? = some (.cells #[.string s.name, .string ⟨#[]⟩, va, vk] 29 (0, 0)) := (a5.block _ hnl5 HVX.out).trans HNT5.out
                        have cg : w7.cell? ⟨w2.heap.size, 3, none⟩ = some vk := cell_at hgx 3
                        have fg := frozenN hgx
                        have hgl : w2.heap.size < w7.heap.size := by omega
                        have hset : w7.grownBy (w7.setCell ⟨w2.heap.size, 3, none⟩ v') (some w2.heap.size) := set_grownN _ _ _ _
                        have hcell := heap_setCell_same w7 w2.heap.size 3 #[.string s.name, .string ⟨#[]⟩, va, vk] 29 v' hgx
                        have hub : ∀ g, vk.ownBlock = some g → w4.heap.size ≤ g ∧ g < wr.heap.size := fun g hg => HO2.out.lt g hg
                        have hg47 : w4.grownBy w7 (some w2.heap.size) := grown_newN (grown_trans HG4.out (grown_weak (grown_below HBK.out))) a5 (fun g hg => (hub g hg).1)
                        have hvn : ∀ g, v'.ownBlock = some g → w4.heap.size ≤ g := fun g hg => (hown'.lt g hg).1
                        have hels : ∀ y ∈ ks, (treeS (xs.length - (p0 + 1))).rep (KidF w4.heap.size (w7.setCell ⟨w2.heap.size, 3, none⟩ v') v') (w7.setCell ⟨w2.heap.size, 3, none⟩ v') y.1 y.2 := fun y hy => (treeS _).mono ((treeS _).frame (HKS.out y hy) fun b hb => by
                          have h1 := hb.1
                          have h2 := hb.2.1
                          rw [hset.block b (by omega) (fun e => by have := Option.some.inj e; omega), a5.block b (by omega) hb.2.2]
                          exact HBK.out.block b h2) fun b hb => ⟨hb.1, by have := hb.2.1; simp only [World.size_setCell]; omega, fun e => by
                          rcases hwh with hw | hw
                          · rw [hw] at e; exact hb.2.2 e
                          · rw [hw] at e; have h2 := hb.2.1; have := Option.some.inj e; first | omega | (simp at this; omega)⟩
                        have hnew : (treeS (xs.length - (p0 + 1))).rep (KidF w4.heap.size (w7.setCell ⟨w2.heap.size, 3, none⟩ v') v') (w7.setCell ⟨w2.heap.size, 3, none⟩ v') [.string T.label, .string T.text, .slice aa T.attrs.length ca, .slice ka T.kids.length ck] T := (treeS _).mono ((treeS _).frame HREP.out fun b hb => by
                          have h1 := hb.1
                          have h2 := hb.2
                          rw [hset.block b (by omega) (fun e => by have := Option.some.inj e; omega), a5.block b h2 (fun e => by have := hub b e.symm; omega)]) fun b hb => ⟨by have := hb.1; omega, by have := hb.2; simp only [World.size_setCell]; omega, fun e => by
                          have h1 := hb.1
                          have h2 := hb.2
                          rcases hwh with hw | hw
                          · rw [hw] at e; have := hub b e.symm; omega
                          · rw [hw] at e; have := Option.some.inj e; first | omega | (simp at this; omega)⟩
                        have HREL := Sp.hid (show KidInv xs p0 (F + 1) w2.heap.size s.name al va w4 (.int .i64 ((qe : Nat) : Int)) (w7.setCell ⟨w2.heap.size, 3, none⟩ v') from
                          ⟨qe, F', ks ++ [([.string T.label, .string T.text, .slice aa T.attrs.length ca, .slice ka T.kids.length ck], T)], v', by omega, hq2, rfl, by rw [List.length_append]; simp; omega, by omega, by rw [List.map_append]; exact HPAR2.out, by simpa using hcell,
                            by rw [List.length_append, List.flatMap_append]; simpa using hown'.kept hset (.inr (fun e => by have := hvn _ e; omega)), fun y hy => by
                              rcases List.mem_append.1 hy with hy | hy
                              · exact hels y hy
                              · rw [List.mem_singleton.1 hy]; exact hnew, grown_trans hg47 hset⟩)
                        obtain ⟨va', vn', vc', hv'⟩ : ∃ va' vn' vc', v' = .slice va' vn' vc' := by
                          rcases Joins.ownsRow_forms hown' with ⟨h, _⟩ | ⟨g1, cap1, h⟩
                          · exact ⟨_, _, _, h⟩
                          · exact ⟨_, _, _, h⟩
                        subst hv'
                        clear hown' hgrow hwh a5 ha5 hgx hset hcell hub hg47 hvn hels hnew
                        go_wp2
                        go_roundw
                        case rel => exact HREL.out
                        case measure => simp [intOf]; omega
                · obtain rfl : p2 = xs.length := by omega
                  have HN := Sp.hid (show parL (F + 1) none (xs.drop p0) = none by rw [hpar, List.drop_length]; exact parL_end)
                  have HB5 := Sp.hid hbwr2
                  have r0 : wr.cell? ⟨w.heap.size, 0, none⟩ = some (.string ⟨#[]⟩) := cell_at hresr2 0
                  have r1 : wr.cell? ⟨w.heap.size, 1, none⟩ = some (.string ⟨#[]⟩) := cell_at hresr2 1
                  have r2 : wr.cell? ⟨w.heap.size, 2, none⟩ = some (.slice none 0 0) := cell_at hresr2 2
                  have r3 : wr.cell? ⟨w.heap.size, 3, none⟩ = some (.slice none 0 0) := cell_at hresr2 3
                  have fr := frozenN hresr2
                  clear hpar hnt2 hown2 hks hbwr2 hresr2 hg4
                  go_wp2
                  refine bodyPost_ret (v := .tuple #[.agg #[.string ⟨#[]⟩, .string ⟨#[]⟩, .slice none 0 0, .slice none 0 0], .int .i64 (-1)]) (by simp [results, Tryz.f36, go_sem, r0, r1, r2, r3]) rfl ⟨?_, .inr ⟨HN.out, rfl⟩⟩
                  first | exact HB5.out | exact (((HB5.out.setCell (Nat.le_refl _) _).setCell (Nat.le_refl _) _).setCell (Nat.le_refl _) _).setCell (Nat.le_refl _) _
          · obtain rfl : p = xs.length := by omega
            have HN := Sp.hid (show parL (F + 1) none (xs.drop p0) = none by rw [HP1.out, hdw, List.drop_length]; exact parL_end)
            have HB5 := Sp.hid hbwr
            obtain ⟨w4, rfl⟩ : ∃ w4, w4 = wr := ⟨_, rfl⟩
            have r0 : w4.cell? ⟨w.heap.size, 0, none⟩ = some (.string ⟨#[]⟩) := cell_at hresr 0
            have r1 : w4.cell? ⟨w.heap.size, 1, none⟩ = some (.string ⟨#[]⟩) := cell_at hresr 1
            have r2 : w4.cell? ⟨w.heap.size, 2, none⟩ = some (.slice none 0 0) := cell_at hresr 2
            have r3 : w4.cell? ⟨w.heap.size, 3, none⟩ = some (.slice none 0 0) := cell_at hresr 3
            have fr := frozenN hresr
            clear hat hdw hnt hown hsz hg3 hbwr hresr
            go_wp2
            go_loopw [1] (fun i wr => i = .int .i64 (xs.length : Nat) ∧ wr = w4) (fun _ _ => 0)
            case atStart => exact ⟨rfl, rfl⟩
            case round =>
              obtain ⟨rfl, hwr⟩ := hrel
              subst hwr
              go_wp2
              refine bodyPost_ret (v := .tuple #[.agg #[.string ⟨#[]⟩, .string ⟨#[]⟩, .slice none 0 0, .slice none 0 0], .int .i64 (-1)]) (by simp [results, Tryz.f36, go_sem, r0, r1, r2, r3]) rfl ⟨?_, .inr ⟨HN.out, rfl⟩⟩
              first | exact HB5.out | exact (((HB5.out.setCell (Nat.le_refl _) _).setCell (Nat.le_refl _) _).setCell (Nat.le_refl _) _).setCell (Nat.le_refl _) _

/-- The tree that begins at a place. -/
theorem node_any (xs : List Stp) (hxl : xs.length ≤ 1048576) (a : Option Addr) (c : Nat) : ∀ (n p F : Nat) (w : World), xs.length - p ≤ n → p ≤ xs.length → 2 * (xs.length - p) + 1 ≤ F → Sl stpS (· < w.heap.size) w a xs →
    Calls Tryz.prog 36 #[.slice a xs.length c, .int .i64 p] w (NodePost xs p F w) := by
  intro n
  induction n with
  | zero =>
    intro p F w hn hp _ _
    obtain rfl : p = xs.length := by omega
    exact node_end xs a c F w
  | succ n ih =>
    intro p F w hn hp hF hs
    by_cases he : p = xs.length
    · subst he; exact node_end xs a c F w
    · exact node_step xs hxl a c p F w hs (by omega) hF fun p' F' W h1 h2 h3 h4 => ih p' F' W (by omega) h2 h3 h4

end Go.Proofs.YtoknglpfchjbjaaGreatDoor

/- spyglassref04.Raw, spyglasslaw04.Raw: the tree of steps. Conditions: up to 2^20 steps. -/
namespace Go.Proofs.YtoknglpfchjbjaaGreatDoor
open Go.RowKit Go.Sp Go.Maps

/-- What is known where steps are a tree's. -/
def RawIs (xs : List Stp) (T : TT) : Prop := parL (2 * xs.length + 1) none xs = some (T, []) ∧ 0 < xs.length
/-- A tree's value. -/
def TreeVals (vs : List Value) : Prop := ∃ (l t : ByteArray) (aa : Option Addr) (na ca : Nat) (ka : Option Addr) (nk ck : Nat), vs = [.string l, .string t, .slice aa na ca, .slice ka nk ck]
def RefRawPost (xs : List Stp) (w : World) (e : Ending) (w' : World) : Prop := Below w.heap.size w w' ∧
  ∃ (vs : List Value) (b : Bool), TreeVals vs ∧ e = .returned (.tuple #[.agg vs.toArray, .bool b]) ∧ (b = true → ∃ T, RawIs xs T ∧ (treeS xs.length).rep (fun b => w.heap.size ≤ b ∧ b < w'.heap.size) w' vs T)

set_option maxRecDepth 100000 in
set_option maxHeartbeats 4000000 in
theorem refRaw_any (xs : List Stp) (hxl : xs.length ≤ 1048576) (a : Option Addr) (c : Nat) (w : World) (hs : Sl stpS (· < w.heap.size) w a xs) :
    Calls Tryz.prog 21 #[.slice a xs.length c] w (RefRawPost xs w) := by
  obtain ⟨w1, hw1⟩ : ∃ w1, w1 = w.alloc (.cells #[.string ⟨#[]⟩, .string ⟨#[]⟩, .slice none 0 0, .slice none 0 0] 29) := ⟨_, rfl⟩
  have hb1 : Below w.heap.size w w1 := by rw [hw1]; exact (Below.refl _ _).alloc (Nat.le_refl _) _
  have hres : w1.heap[w.heap.size]? = some (.cells #[.string ⟨#[]⟩, .string ⟨#[]⟩, .slice none 0 0, .slice none 0 0] 29 (0, 0)) := by rw [hw1]; exact World.alloc_heap_new _ _
  have hl1 : w.heap.size + 1 ≤ w1.heap.size := by rw [hw1]; simp
  have HND := Sp.hid (node_any xs hxl a c xs.length 0 (2 * xs.length + 1) w1 (by omega) (Nat.zero_le _) (by omega) ((hs.below (fun k h => h) hb1).mono fun k hk => by have : k < w.heap.size := hk; omega))
  have HW1 := Sp.hid hw1
  have HB1 := Sp.hid hb1
  have HR1 := Sp.hid hres
  clear hs hw1 hb1 hres
  go_enter Tryz.func21, Tryz.ntmps21
  go_wp2_with fail
  rw [← HW1.out]
  refine HND.out.mono ?_
  rintro e w2 ⟨hb2, ⟨T, q, vs, hpar, hq1, hq2, rfl, hrep⟩ | ⟨hpar, rfl⟩⟩
  · have hs2 := hb2.size
    rw [List.drop_zero, Nat.sub_zero] at *
    obtain ⟨d, hd⟩ : ∃ d, xs.length = d + 1 := ⟨xs.length - 1, by omega⟩
    have hrep' := hrep
    rw [hd] at hrep'
    obtain ⟨-, aa, ca, ka, ck, hvs, -, -⟩ := tree_open hrep'
    subst hvs
    have hxp : 0 < xs.length := by omega
    clear hd
    have HREP := Sp.hid hrep
    have HPAR := Sp.hid hpar
    have hres2 := (hb2.block _ (by omega)).trans HR1.out
    have HB2 := Sp.hid (HB1.out.trans (hb2.mono (by omega)))
    have hres3 : (w2.alloc (.cells #[.string T.label, .string T.text, .slice aa T.attrs.length ca, .slice ka T.kids.length ck] 29)).heap[w.heap.size]? = some (.cells #[.string ⟨#[]⟩, .string ⟨#[]⟩, .slice none 0 0, .slice none 0 0] 29 (0, 0)) := (Below.heap_alloc _ _ _ (by omega)).trans hres2
    have r0 : (w2.alloc (.cells #[.string T.label, .string T.text, .slice aa T.attrs.length ca, .slice ka T.kids.length ck] 29)).cell? ⟨w.heap.size, 0, none⟩ = some (.string ⟨#[]⟩) := cell_at hres3 0
    have r1 : (w2.alloc (.cells #[.string T.label, .string T.text, .slice aa T.attrs.length ca, .slice ka T.kids.length ck] 29)).cell? ⟨w.heap.size, 1, none⟩ = some (.string ⟨#[]⟩) := cell_at hres3 1
    have r2 : (w2.alloc (.cells #[.string T.label, .string T.text, .slice aa T.attrs.length ca, .slice ka T.kids.length ck] 29)).cell? ⟨w.heap.size, 2, none⟩ = some (.slice none 0 0) := cell_at hres3 2
    have r3 : (w2.alloc (.cells #[.string T.label, .string T.text, .slice aa T.attrs.length ca, .slice ka T.kids.length ck] 29)).cell? ⟨w.heap.size, 3, none⟩ = some (.slice none 0 0) := cell_at hres3 3
    have fr := frozenN hres3
    have hxpos : (0 : Int) < ((xs.length : Nat) : Int) := by omega
    have HB3 := Sp.hid (show Below w.heap.size w (w2.alloc (.cells #[.string T.label, .string T.text, .slice aa T.attrs.length ca, .slice ka T.kids.length ck] 29)) from HB2.out.alloc HB2.out.size _)
    clear hrep hrep' hpar hb2 hres2 hres3
    by_cases hqe : q = xs.length
    · have hqi : (((q : Nat) : Int) == ((xs.length : Nat) : Int)) = true := by rw [hqe]; simp
      have HRI := Sp.hid (show RawIs xs T from ⟨by rw [HPAR.out, hqe, List.drop_length], by omega⟩)
      clear hqe
      go_wp2
      all_goals
        refine bodyPost_ret (v := .tuple #[.agg #[.string T.label, .string T.text, .slice aa T.attrs.length ca, .slice ka T.kids.length ck], .bool true]) (by simp [results, Tryz.f21, go_sem, r0, r1, r2, r3]) rfl ⟨?_, [.string T.label, .string T.text, .slice aa T.attrs.length ca, .slice ka T.kids.length ck], true, ⟨_, _, _, _, _, _, _, _, rfl⟩, rfl, fun _ => ⟨T, HRI.out, ?_⟩⟩
        · exact (((HB3.out.setCell (Nat.le_refl _) _).setCell (Nat.le_refl _) _).setCell (Nat.le_refl _) _).setCell (Nat.le_refl _) _
        · refine (treeS _).mono ((treeS _).frame HREP.out fun b hb => ?_) fun b hb => ⟨by have := hb.1; omega, by have := hb.2; simp only [World.size_setCell, World.size_alloc]; omega⟩
          have h1 := hb.1
          rw [Below.heap_setCell _ _ _ _ (by show b ≠ w.heap.size; omega), Below.heap_setCell _ _ _ _ (by show b ≠ w.heap.size; omega), Below.heap_setCell _ _ _ _ (by show b ≠ w.heap.size; omega), Below.heap_setCell _ _ _ _ (by show b ≠ w.heap.size; omega)]
          exact Below.heap_alloc _ _ _ hb.2
    · have hqi : (((q : Nat) : Int) == ((xs.length : Nat) : Int)) = false := by rw [beq_eq_false_iff_ne]; omega
      clear hqe
      go_wp2
      all_goals
        refine bodyPost_ret (v := .tuple #[.agg #[.string T.label, .string T.text, .slice aa T.attrs.length ca, .slice ka T.kids.length ck], .bool false]) (by simp [results, Tryz.f21, go_sem, r0, r1, r2, r3]) rfl ⟨?_, [.string T.label, .string T.text, .slice aa T.attrs.length ca, .slice ka T.kids.length ck], false, ⟨_, _, _, _, _, _, _, _, rfl⟩, rfl, fun h => by cases h⟩
        exact (((HB3.out.setCell (Nat.le_refl _) _).setCell (Nat.le_refl _) _).setCell (Nat.le_refl _) _).setCell (Nat.le_refl _) _
  · have hs2 := hb2.size
    have hres2 := (hb2.block _ (by omega)).trans HR1.out
    have HB2 := Sp.hid (HB1.out.trans (hb2.mono (by omega)))
    have hres3 : (w2.alloc (.cells #[.string ⟨#[]⟩, .string ⟨#[]⟩, .slice none 0 0, .slice none 0 0] 29)).heap[w.heap.size]? = some (.cells #[.string ⟨#[]⟩, .string ⟨#[]⟩, .slice none 0 0, .slice none 0 0] 29 (0, 0)) := (Below.heap_alloc _ _ _ (by omega)).trans hres2
    have r0 : (w2.alloc (.cells #[.string ⟨#[]⟩, .string ⟨#[]⟩, .slice none 0 0, .slice none 0 0] 29)).cell? ⟨w.heap.size, 0, none⟩ = some (.string ⟨#[]⟩) := cell_at hres3 0
    have r1 : (w2.alloc (.cells #[.string ⟨#[]⟩, .string ⟨#[]⟩, .slice none 0 0, .slice none 0 0] 29)).cell? ⟨w.heap.size, 1, none⟩ = some (.string ⟨#[]⟩) := cell_at hres3 1
    have r2 : (w2.alloc (.cells #[.string ⟨#[]⟩, .string ⟨#[]⟩, .slice none 0 0, .slice none 0 0] 29)).cell? ⟨w.heap.size, 2, none⟩ = some (.slice none 0 0) := cell_at hres3 2
    have r3 : (w2.alloc (.cells #[.string ⟨#[]⟩, .string ⟨#[]⟩, .slice none 0 0, .slice none 0 0] 29)).cell? ⟨w.heap.size, 3, none⟩ = some (.slice none 0 0) := cell_at hres3 3
    have fr := frozenN hres3
    have HB3 := Sp.hid (show Below w.heap.size w (w2.alloc (.cells #[.string ⟨#[]⟩, .string ⟨#[]⟩, .slice none 0 0, .slice none 0 0] 29)) from HB2.out.alloc HB2.out.size _)
    have hqi : ((-1 : Int) == ((xs.length : Nat) : Int)) = false := by rw [beq_eq_false_iff_ne]; omega
    clear hpar hb2 hres2 hres3
    go_wp2
    all_goals
      refine bodyPost_ret (v := .tuple #[.agg #[.string ⟨#[]⟩, .string ⟨#[]⟩, .slice none 0 0, .slice none 0 0], .bool false]) (by simp [results, Tryz.f21, go_sem, r0, r1, r2, r3]) rfl ⟨?_, [.string ⟨#[]⟩, .string ⟨#[]⟩, .slice none 0 0, .slice none 0 0], false, ⟨_, _, _, _, _, _, _, _, rfl⟩, rfl, fun h => by cases h⟩
      first | exact HB3.out | exact (((HB3.out.setCell (Nat.le_refl _) _).setCell (Nat.le_refl _) _).setCell (Nat.le_refl _) _).setCell (Nat.le_refl _) _

theorem forall_take_nextR {α : Type} {p : α → Prop} {l : List α} {k : Nat} (hk : k < l.length) (h : ∀ x ∈ l.take k, p x) (hp : p l[k]) : ∀ x ∈ l.take (k + 1), p x := by
  rw [List.take_succ_eq_append_getElem hk]
  intro x hx
  rcases List.mem_append.1 hx with hx | hx
  · exact h x hx
  · rw [List.mem_singleton.1 hx]; exact hp
def LawRawPost (xs : List Stp) (w : World) (e : Ending) (w' : World) : Prop := Below w.heap.size w w' ∧
  ∃ (vs : List Value) (b : Bool), TreeVals vs ∧ e = .returned (.tuple #[.agg vs.toArray, .bool b]) ∧ (b = true → (∀ s ∈ xs, s.kind = 1 → s.name.toList.isEmpty = false) ∧ ∃ T, RawIs xs T ∧ (treeS xs.length).rep (fun b => w.heap.size ≤ b ∧ b < w'.heap.size) w' vs T)

set_option maxRecDepth 100000 in
set_option maxHeartbeats 8000000 in
theorem lawRaw_any (xs : List Stp) (hxl : xs.length ≤ 1048576) (a : Option Addr) (c : Nat) (w : World) (hs : Sl stpS (· < w.heap.size) w a xs) :
    Calls Tryz.prog 5 #[.slice a xs.length c] w (LawRawPost xs w) := by
  obtain ⟨w1, hw1⟩ : ∃ w1, w1 = w.alloc (.cells #[.string ⟨#[]⟩, .string ⟨#[]⟩, .slice none 0 0, .slice none 0 0] 29) := ⟨_, rfl⟩
  have hb1 : Below w.heap.size w w1 := by rw [hw1]; exact (Below.refl _ _).alloc (Nat.le_refl _) _
  have hres : w1.heap[w.heap.size]? = some (.cells #[.string ⟨#[]⟩, .string ⟨#[]⟩, .slice none 0 0, .slice none 0 0] 29 (0, 0)) := by rw [hw1]; exact World.alloc_heap_new _ _
  have hl1 : w.heap.size + 1 ≤ w1.heap.size := by rw [hw1]; simp
  have hs1 := (hs.below (fun k h => h) hb1).mono (G := (· < w1.heap.size)) fun k hk => by have : k < w.heap.size := hk; show k < w1.heap.size; omega
  have HS1 := Sp.hid hs1
  have HPL := Sp.hid (law4Plain_any (· < w1.heap.size) xs a c w1 hs1 (fun k h => h) hxl)
  have HW1 := Sp.hid hw1
  have HB1 := Sp.hid hb1
  have HR1 := Sp.hid hres
  clear hs hs1 hw1 hb1 hres
  go_enter Tryz.func5, Tryz.ntmps5
  go_wp2
  rw [← HW1.out]
  go_loopw [4] (fun i wr => ∃ k : Nat, k ≤ xs.length ∧ i = .int .i64 k ∧ wr = w1 ∧ (∀ s ∈ xs.take k, s.kind = 1 → s.name.toList.isEmpty = false)) (fun i _ => xs.length - (intOf i).toNat)
  case atStart => exact ⟨0, Nat.zero_le _, rfl, rfl, by simp⟩
  case round =>
    obtain ⟨k, hk, rfl, hwr, hall⟩ := hrel
    subst hwr
    by_cases hlt : k < xs.length
    · obtain ⟨b, o, rfl, fb, -, -, e1, e2, e3⟩ := stp_cells HS1.out k hlt
      have HALL := Sp.hid (fun h => forall_take_nextR (p := fun s : Stp => s.kind = 1 → s.name.toList.isEmpty = false) hlt hall h)
      obtain ⟨q, hq⟩ : ∃ q, q = xs[k] := ⟨_, rfl⟩
      rw [← hq] at e1 e2 e3 HALL
      have hbl : b < wr.heap.size := fb
      clear hq hall fb
      by_cases h1 : q.kind = 1
      · have h1' : (q.kind == 1) = true := by rw [h1]; rfl
        cases hn : q.name.toList.isEmpty
        · have hn' : (q.name.toList == []) = false := by rw [beq_eq_false_iff_ne]; intro e; rw [e] at hn; cases hn
          have HNX := Sp.hid (HALL.out (fun _ => hn))
          clear HALL
          go_wp2
          go_roundw
          case rel => exact ⟨k + 1, by omega, by go_num, (by first | trivial | rfl), HNX.out⟩
          case measure => simp [intOf]; omega
        · have hn' : (q.name.toList == []) = true := by rw [beq_iff_eq]; exact List.isEmpty_iff.1 hn
          have hres := HR1.out
          have r0 : wr.cell? ⟨w.heap.size, 0, none⟩ = some (.string ⟨#[]⟩) := cell_at hres 0
          have r1 : wr.cell? ⟨w.heap.size, 1, none⟩ = some (.string ⟨#[]⟩) := cell_at hres 1
          have r2 : wr.cell? ⟨w.heap.size, 2, none⟩ = some (.slice none 0 0) := cell_at hres 2
          have r3 : wr.cell? ⟨w.heap.size, 3, none⟩ = some (.slice none 0 0) := cell_at hres 3
          have fr := frozenN hres
          clear HALL hres
          go_wp2
          refine bodyPost_ret (v := .tuple #[.agg #[.string ⟨#[]⟩, .string ⟨#[]⟩, .slice none 0 0, .slice none 0 0], .bool false]) (by simp [results, Tryz.f5, go_sem, r0, r1, r2, r3]) rfl ⟨?_, [.string ⟨#[]⟩, .string ⟨#[]⟩, .slice none 0 0, .slice none 0 0], false, ⟨_, _, _, _, _, _, _, _, rfl⟩, rfl, fun h => by cases h⟩
          first | exact HB1.out | exact (((HB1.out.setCell (Nat.le_refl _) _).setCell (Nat.le_refl _) _).setCell (Nat.le_refl _) _).setCell (Nat.le_refl _) _
      · have h1' : (q.kind == 1) = false := by simpa using h1
        have HNX := Sp.hid (HALL.out (fun h => absurd h h1))
        clear HALL h1
        go_wp2
        go_roundw
        case rel => exact ⟨k + 1, by omega, by go_num, (by first | trivial | rfl), HNX.out⟩
        case measure => simp [intOf]; omega
    · obtain rfl : k = xs.length := by omega
      rw [List.take_length] at hall
      have HALL := Sp.hid hall
      clear hall
      go_wp2_with fail
      refine HPL.out.mono ?_
      rintro e w2 ⟨hb2, a2, c2, rfl, hs2⟩
      have hz2 := hb2.size
      have HRW := Sp.hid (refRaw_any xs hxl a2 c2 w2 (hs2.mono fun k hk => hk.2))
      have HB2 := Sp.hid (HB1.out.trans (hb2.mono (by omega)))
      have HR2 := Sp.hid ((hb2.block _ (by omega)).trans HR1.out)
      clear hb2 hs2
      go_wp2_with fail
      refine HRW.out.mono ?_
      rintro e w3 ⟨hb3, vs, bb, hvl, rfl, hrep⟩
      obtain ⟨l0, l1, aa, na, ca, ka, nk, ck, rfl⟩ := hvl
      have hz3 := hb3.size
      have HB3 := Sp.hid (HB2.out.trans (hb3.mono HB2.out.size))
      have hres := (hb3.block _ (by omega)).trans HR2.out
      have r0 : w3.cell? ⟨w.heap.size, 0, none⟩ = some (.string ⟨#[]⟩) := cell_at hres 0
      have r1 : w3.cell? ⟨w.heap.size, 1, none⟩ = some (.string ⟨#[]⟩) := cell_at hres 1
      have r2 : w3.cell? ⟨w.heap.size, 2, none⟩ = some (.slice none 0 0) := cell_at hres 2
      have r3 : w3.cell? ⟨w.heap.size, 3, none⟩ = some (.slice none 0 0) := cell_at hres 3
      have fr := frozenN hres
      have HREP := Sp.hid hrep
      clear hb3 hres hrep
      go_wp2
      refine bodyPost_ret (v := .tuple #[.agg #[.string l0, .string l1, .slice aa na ca, .slice ka nk ck], .bool bb]) (by simp [results, Tryz.f5, go_sem, r0, r1, r2, r3]) rfl ⟨?_, [.string l0, .string l1, .slice aa na ca, .slice ka nk ck], bb, ⟨_, _, _, _, _, _, _, _, rfl⟩, rfl, fun hbt => ⟨HALL.out, ?_⟩⟩
      · exact (((HB3.out.setCell (Nat.le_refl _) _).setCell (Nat.le_refl _) _).setCell (Nat.le_refl _) _).setCell (Nat.le_refl _) _
      · obtain ⟨T, h1, h2⟩ := HREP.out hbt
        refine ⟨T, h1, ?_⟩
        refine (treeS _).mono ((treeS _).frame h2 fun b hb => ?_) fun b hb => ⟨by have := hb.1; omega, by have := hb.2; simp only [World.size_setCell]; omega⟩
        have h1 := hb.1
        rw [Below.heap_setCell _ _ _ _ (by show b ≠ w.heap.size; omega), Below.heap_setCell _ _ _ _ (by show b ≠ w.heap.size; omega), Below.heap_setCell _ _ _ _ (by show b ≠ w.heap.size; omega), Below.heap_setCell _ _ _ _ (by show b ≠ w.heap.size; omega)]

end Go.Proofs.YtoknglpfchjbjaaGreatDoor
