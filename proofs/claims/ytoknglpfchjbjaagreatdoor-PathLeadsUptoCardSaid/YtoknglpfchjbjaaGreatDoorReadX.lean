/- Merged: What path.Parse reads, on lists of bytes · A region that draws its order and whose operations each have one value, whatever the order, and leave old memory alone · The reader of path.Parse: is, mark, letter · The reader of path.Parse: a letter, a word. Conditions: those of the parts. -/
import Derived.Test.YtoknglpfchjbjaaGreatDoorPathData
import Derived.Test.YtoknglpfchjbjaaGreatDoorNames
import Derived.Test.YtoknglpfchjbjaaGreatDoorBase
import Derived.Test.YtoknglpfchjbjaaGreatDoorRegion
import Derived.Test.YtoknglpfchjbjaaGreatDoorLeadX
import Derived.Test.YtoknglpfchjbjaaGreatDoorRegionX
import Derived.Scope
/- What path.Parse reads, on lists of bytes. Plain: no program in sight. Conditions: none. -/
namespace Go.Proofs.YtoknglpfchjbjaaGreatDoor
open Go.RowKit Go.Sp

abbrev mkWord : ByteArray := ⟨#[48, 49, 50, 51, 52, 53, 54, 55, 56, 57, 45, 46]⟩
abbrev mkDig : ByteArray := ⟨#[48, 49, 50, 51, 52, 53, 54, 55, 56, 57]⟩
abbrev mkQuot : ByteArray := ⟨#[39, 34]⟩
def letB (c : UInt8) : Bool := isLetter (c.toNat : Nat)
/-- How many bytes of a word stand there. -/
def wordN : Bool → List UInt8 → Nat
  | _, [] => 0
  | first, c :: l => if letB c || (!first && hasB mkWord c) then wordN false l + 1 else 0
/-- The number, and how many digits. k: digits that may still come. -/
def placeN : Nat → Int → List UInt8 → Int × Nat
  | 0, n, _ => (n, 0)
  | _ + 1, n, [] => (n, 0)
  | k + 1, n, c :: l => if hasB mkDig c && !(k + 1 == 4 && c == 48) then ((placeN k (n * 10 + ((c.toNat : Int) - 48)) l).1, (placeN k (n * 10 + ((c.toNat : Int) - 48)) l).2 + 1) else (n, 0)
def markL (c : UInt8) : List UInt8 → Option (List UInt8)
  | [] => none
  | x :: l => if x = c then some l else none
def quotedL : List UInt8 → Option (List UInt8 × List UInt8)
  | [] => none
  | c :: l => if hasB mkQuot c then (if Lib.indexByte l c < 0 then none else some (l.take (Lib.indexByte l c).toNat, l.drop ((Lib.indexByte l c).toNat + 1))) else none
def bsOf (l : List UInt8) : ByteArray := ⟨l.toArray⟩
def predL (l : List UInt8) : Option (PredM × List UInt8) :=
  match markL 64 l with
  | some r => if wordN true r = 0 then none else
    match markL 61 (r.drop (wordN true r)) with
    | none => none
    | some r2 => match quotedL r2 with
      | none => none
      | some (v, r3) => match markL 93 r3 with
        | none => none
        | some r4 => some (⟨bsOf (r.take (wordN true r)), bsOf v, 0⟩, r4)
  | none => if 0 < (placeN 4 0 l).1 then
      match markL 93 (l.drop (placeN 4 0 l).2) with
      | none => none
      | some r => some (⟨⟨#[]⟩, ⟨#[]⟩, (placeN 4 0 l).1⟩, r)
    else none
def predsL : Nat → List UInt8 → Option (List PredM × List UInt8)
  | 0, _ => none
  | f + 1, l => match markL 91 l with
    | none => some ([], l)
    | some r => match predL r with
      | none => none
      | some (q, r2) => (predsL f r2).map fun x => (q :: x.1, x.2)
/-- What follows a step's first mark: its name, and what stands behind it. -/
def nameL (l : List UInt8) : List UInt8 × List UInt8 :=
  match markL 42 l with
  | some r => ([42], r)
  | none => (l.take (wordN true l), l.drop (wordN true l))
def stepL (l : List UInt8) : Option (StepM × List UInt8) :=
  if (nameL ((markL 64 l).getD l)).1 = [] then none else
    (predsL ((nameL ((markL 64 l).getD l)).2.length + 1) (nameL ((markL 64 l).getD l)).2).map fun x => (⟨(markL 64 l).isSome, bsOf (nameL ((markL 64 l).getD l)).1, x.1⟩, x.2)
def stepsL : Nat → List UInt8 → Option (List StepM)
  | 0, _ => none
  | f + 1, l => match stepL l with
    | none => none
    | some (x, r) => if r = [] then some [x] else match markL 47 r with
      | none => none
      | some r2 => (stepsL f r2).map (x :: ·)
/-- What Parse returns: a path, or what is wrong. -/
noncomputable def parseM (s : ByteArray) : Except Int (List StepM) :=
  if 65536 < s.size then .error 17 else
    match (if s.data.toList = [46] then some [] else stepsL (s.size + 1) s.data.toList) with
    | none => .error 12
    | some l => if pcheckM l = 0 then .ok l else .error (pcheckM l)

theorem markL_len {c : UInt8} {l r : List UInt8} (h : markL c l = some r) : l = c :: r := by
  cases l with
  | nil => cases h
  | cons x l =>
    simp only [markL] at h
    split at h
    · rename_i e; rw [e, Option.some.inj h]
    · cases h
theorem wordN_le : ∀ (b : Bool) (l : List UInt8), wordN b l ≤ l.length
  | _, [] => Nat.le_refl _
  | b, c :: l => by
    unfold wordN
    split
    · have := wordN_le false l; simp; omega
    · exact Nat.zero_le _
theorem placeN_le : ∀ (k : Nat) (n : Int) (l : List UInt8), (placeN k n l).2 ≤ l.length ∧ (placeN k n l).2 ≤ k
  | 0, _, _ => by simp [placeN]
  | k + 1, n, [] => by simp [placeN]
  | k + 1, n, c :: l => by
    unfold placeN
    split
    · have := placeN_le k (n * 10 + ((c.toNat : Int) - 48)) l
      simp only [List.length_cons]; omega
    · exact ⟨Nat.zero_le _, Nat.zero_le _⟩
theorem indexByte_lt {l : List UInt8} {c : UInt8} (h : ¬ Lib.indexByte l c < 0) : (Lib.indexByte l c).toNat < l.length := by
  rcases idxB_spec l c with ⟨h1, _⟩ | ⟨i, hi, h1, _⟩
  · rw [h1] at h; exact absurd (by decide) h
  · rw [h1]; simpa using hi
theorem quotedL_len {l v r : List UInt8} (h : quotedL l = some (v, r)) : r.length + v.length + 2 = l.length := by
  cases l with
  | nil => cases h
  | cons c l =>
    simp only [quotedL] at h
    split at h
    · split at h
      · cases h
      · rename_i h1
        have h2 := indexByte_lt h1
        cases h
        simp only [List.length_take, List.length_drop, List.length_cons]; omega
    · cases h
theorem predL_len {l r : List UInt8} {q : PredM} (h : predL l = some (q, r)) : r.length < l.length := by
  unfold predL at h
  split at h
  · rename_i r1 h1
    split at h
    · cases h
    · split at h
      · cases h
      · rename_i r2 h2
        split at h
        · cases h
        · rename_i v r3 h3
          split at h
          · cases h
          · rename_i r4 h4
            cases h
            have e1 := congrArg List.length (markL_len h1)
            have e2 := congrArg List.length (markL_len h2)
            have e3 := quotedL_len h3
            have e4 := congrArg List.length (markL_len h4)
            simp only [List.length_cons, List.length_drop] at e1 e2 e3 e4
            omega
  · split at h
    · split at h
      · cases h
      · rename_i r1 h1
        cases h
        have e1 := congrArg List.length (markL_len h1)
        simp only [List.length_cons, List.length_drop] at e1
        omega
    · cases h
theorem predsL_len : ∀ {f : Nat} {l r : List UInt8} {qs : List PredM}, predsL f l = some (qs, r) → r.length + qs.length ≤ l.length
  | 0, _, _, _, h => by cases h
  | f + 1, l, r, qs, h => by
    unfold predsL at h
    split at h
    · cases h; simp
    · rename_i r1 h1
      split at h
      · cases h
      · rename_i q r2 h2
        cases h3 : predsL f r2 with
        | none => rw [h3] at h; cases h
        | some x =>
          rw [h3] at h
          cases h
          have e1 := congrArg List.length (markL_len h1)
          have e2 := predL_len h2
          have e3 := predsL_len (f := f) (l := r2) (r := x.2) (qs := x.1) h3
          simp only [List.length_cons] at e1 ⊢
          omega
/-- Enough fuel is enough. -/
theorem predsL_fuel : ∀ (f g : Nat) (l : List UInt8), l.length < f → l.length < g → predsL f l = predsL g l
  | 0, _, _, h, _ => absurd h (Nat.not_lt_zero _)
  | _ + 1, 0, _, _, h => absurd h (Nat.not_lt_zero _)
  | f + 1, g + 1, l, h1, h2 => by
    unfold predsL
    cases hm : markL 91 l with
    | none => rfl
    | some r =>
      dsimp only
      cases hp : predL r with
      | none => rfl
      | some x =>
        have e1 := congrArg List.length (markL_len hm)
        have e2 := predL_len (q := x.1) (r := x.2) hp
        simp only [List.length_cons] at e1
        obtain ⟨q, r2⟩ := x
        dsimp only at e2 ⊢
        rw [predsL_fuel f g r2 (by omega) (by omega)]
theorem nameL_len {l : List UInt8} : (nameL l).1.length + (nameL l).2.length = l.length := by
  unfold nameL
  split
  · rename_i r h
    rw [markL_len h]
    simp only [List.length_cons, List.length_nil]; omega
  · have := wordN_le true l
    simp only [List.length_take, List.length_drop]; omega
theorem stepL_len {l r : List UInt8} {x : StepM} (h : stepL l = some (x, r)) : r.length < l.length := by
  unfold stepL at h
  split at h
  · cases h
  · rename_i hn
    cases hp : predsL ((nameL ((markL 64 l).getD l)).2.length + 1) (nameL ((markL 64 l).getD l)).2 with
    | none => rw [hp] at h; cases h
    | some y =>
      rw [hp] at h
      cases h
      have e1 := predsL_len (r := y.2) (qs := y.1) hp
      have e2 := @nameL_len ((markL 64 l).getD l)
      have e3 : 0 < (nameL ((markL 64 l).getD l)).1.length := List.length_pos_iff.2 hn
      have e4 : ((markL 64 l).getD l).length ≤ l.length := by
        cases hm : markL 64 l with
        | none => exact Nat.le_refl _
        | some r =>
          have := congrArg List.length (markL_len hm)
          simp only [List.length_cons] at this
          simp only [Option.getD_some]; omega
      omega
theorem stepsL_fuel : ∀ (f g : Nat) (l : List UInt8), l.length < f → l.length < g → stepsL f l = stepsL g l
  | 0, _, _, h, _ => absurd h (Nat.not_lt_zero _)
  | _ + 1, 0, _, _, h => absurd h (Nat.not_lt_zero _)
  | f + 1, g + 1, l, h1, h2 => by
    unfold stepsL
    cases hm : stepL l with
    | none => rfl
    | some x =>
      obtain ⟨x, r⟩ := x
      dsimp only
      have e2 := stepL_len hm
      split
      · rfl
      · cases h3 : markL 47 r with
        | none => rfl
        | some r2 =>
          dsimp only
          have e1 := congrArg List.length (markL_len h3)
          simp only [List.length_cons] at e1
          rw [stepsL_fuel f g r2 (by omega) (by omega)]

end Go.Proofs.YtoknglpfchjbjaaGreatDoor

/- A region that draws its order and whose operations each have one value, whatever the order, and leave old memory alone. General: no program in sight. Conditions: none. -/
namespace Go.Sp
open Go.RowKit

theorem any_text : (Region.Mode.any == Region.Mode.text) = false := rfl
theorem any_gc : (Region.Mode.any == Region.Mode.gc) = false := rfl
/-- The value is x. -/
def isV (x : Value) : Value → World → Prop := fun v _ => v = x

theorem isV_at {Fs : List (Value → World → Prop)} {i : Nat} {x : Value} {w : World} (h : Fs[i]? = some (isV x)) : factAt Fs i x w := by
  unfold factAt; rw [h]; rfl

theorem rd_close {R : World → World → Prop} {Fi : Value → World → Prop} {a0 a' : Act} {dst : Option Nat} {w w' : World} {v : Value} (hR : R w w') (ha : a' = Act.put a0 dst v) (hF : Fi v w') : StepPost (StepK R Fi a0 dst w) .normal a' w' := ⟨hR, v, ha, hF⟩

theorem stable_isV {G : World → Prop} {R : Nat → World → World → Prop} : ∀ (Vs : List Value) (k : Nat), StableAll G R k (Vs.map isV)
  | [], _ => trivial
  | _ :: r, k => ⟨fun _ _ _ _ _ _ _ h => h, stable_isV r (k + 1)⟩

theorem fillFrom_congr (slots : List (Option Nat)) {u u' : Nat → Value} (h : ∀ i, i < slots.length → u i = u' i) : ∀ (l : List Value) (j : Nat), fillFrom slots u j l = fillFrom slots u' j l
  | [], _ => rfl
  | x :: l, j => by
    unfold fillFrom
    rw [fillFrom_congr slots h l (j + 1)]
    cases hi : slots.idxOf? (some j) with
    | none => rfl
    | some i =>
      have hlt : i < slots.length := by
        have := List.of_findIdx?_eq_some hi
        cases hs : slots[i]? with
        | none => rw [hs] at this; simp at this
        | some _ => exact (List.getElem?_eq_some_iff.1 hs).1
      dsimp only
      rw [h i hlt]
theorem allF_vals : ∀ (Vs : List Value) (k : Nat) {u : Nat → Value} {w : World}, AllF u w k (Vs.map isV) → ∀ i, i < Vs.length → u (k + i) = (Vs[i]?).getD undef
  | [], _, _, _, _, i, hi => absurd hi (Nat.not_lt_zero _)
  | v :: r, k, u, w, h, 0, _ => h.1
  | v :: r, k, u, w, h, i + 1, hi => by
    have := allF_vals r (k + 1) h.2 i (by simpa using hi)
    rw [show k + (i + 1) = k + 1 + i from by omega, this]; rfl

theorem wp_region_read {P : Program} {Q : Exit → Act → World → Prop} {l : List Oper} {id : Nat} {base : List Value} {df : List Deferred} {w : World} (hm : P.follows .mixedOrders = true)
    (slots : List (Option Nat)) (Vs : List Value) (hsl : l.map (·.dst) = slots) (hok : slotsOk slots = true) (hd : edgesDown l = true) (hlen : (Vs.length == l.length) = true)
    (fr : (Nat → Value) → Array Value) (hfr : ∀ u, (fillFrom slots u 0 base).toArray = fr u)
    (step : StepAll P l.toArray (factAt (Vs.map isV)) (fun w' => Below w.heap.size w w') (fun _ w w' => Below w.heap.size w w') df fr 0 l)
    (fin : ∀ w', Below w.heap.size w w' → Q .normal ⟨fr fun i => (Vs[i]?).getD undef, df⟩ w') :
    (Code.region id l.toArray true).wp P Q ⟨base.toArray, df⟩ w := by
  have hlen' : Vs.length = slots.length := by rw [← hsl]; simpa using hlen
  refine wp_region_facts hm slots (Vs.map isV) (fun w' => Below w.heap.size w w') (fun _ w w' => Below w.heap.size w w') hsl hok hd (by simpa using hlen) fr hfr
    (Below.refl _ _).drew (fun _ _ _ h1 h2 => h1.trans (h2.mono h1.size)) (stable_isV Vs 0) step (fun u w' hb hF => ?_)
  have e : fr u = fr fun i => (Vs[i]?).getD undef := by
    rw [← hfr, ← hfr]
    congr 1
    exact fillFrom_congr slots (fun i hi => by have := allF_vals Vs 0 hF i (by omega); rwa [Nat.zero_add] at this) base 0
  rw [e]
  exact fin w' hb
section
variable {P : Program} {ops : Array Oper} {Q : Exit → Act → World → Prop}
/-- THE RULE WHERE THE LAST OPERATION WAITS FOR ALL THE OTHERS: it may do to the world what it likes. -/
theorem wp_region_lastD {l : List Oper} {id : Nat} {base : List Value} {df : List Deferred} {w : World} (hm : P.follows .mixedOrders = true)
    (slots : List (Option Nat)) (Fs : List (Value → World → Prop)) (G : World → Prop) (R : Nat → World → World → Prop)
    (hsl : l.dropLast.map (·.dst) = slots) (hok : slotsOk slots = true) (hd : edgesDown l = true) (hlast : lastWaits l = true) (hlen : (Fs.length + 1 == l.length) = true)
    (fr : (Nat → Value) → Array Value) (hfr : ∀ u, (fillFrom slots u 0 base).toArray = fr u)
    (G0 : G w.drew) (GR : ∀ i w w', G w → R i w w' → G w') (FR : StableAll G R 0 Fs)
    (step : StepInit P l.toArray (factAt Fs) G R df fr 0 l)
    (o : Oper) (ho : l.getLast? = some o)
    (fin : ∀ u w', G w' → AllF u w' 0 Fs → wpList P l.toArray (StepPost (normally Q)) [o] ⟨fr u, df⟩ w') :
    (Code.region id l.toArray true).wp P Q ⟨base.toArray, df⟩ w := by
  subst hsl
  have hlen' : Fs.length + 1 = l.length := by simpa using hlen
  have hol : l[l.length - 1]? = some o := by rw [← List.getLast?_eq_getElem?]; exact ho
  refine wp_region_any hm ?_
  have main : ∀ (fuel : Nat) (L : Array Bool) (u : Nat → Value) (w' : World), L.size = l.length → (L.toList.filter (! ·)).length ≤ fuel → L.getD (l.length - 1) true = false →
      (∀ i o, l[i]? = some o → L.getD i false = true → ∀ e ∈ o.after.toList, Region.binds .any e = true → L.getD e.on false = true) → G w' → (∀ i, i < l.length → L.getD i false = true → factAt Fs i (u i) w') →
      wpAny P .any l.toArray Q fuel L ⟨fr u, df⟩ w' := by
    intro fuel
    induction fuel with
    | zero =>
      intro L u w' hs hc hnl _ _ _
      exfalso
      have hnil : L.toList.filter (! ·) = [] := List.length_eq_zero_iff.1 (by omega)
      have hLs : l.length - 1 < L.size := by omega
      have : L[l.length - 1] ∈ L.toList := by simp
      have h2 := List.filter_eq_nil_iff.1 hnil _ this
      rw [Array.getD_eq_getD_getElem?, Array.getElem?_eq_getElem hLs, Option.getD_some] at hnl
      rw [hnl] at h2
      simp at h2
    | succ fuel ih =>
      intro L u w' hs hc hnl hcl hG hF
      have hLs : l.length - 1 < L.size := by omega
      have hnl' : L.getD (l.length - 1) false = false := by
        rw [Array.getD_eq_getD_getElem?, Array.getElem?_eq_getElem hLs, Option.getD_some] at hnl ⊢
        exact hnl
      refine ⟨fun hr => ?_, fun i hi => ?_⟩
      · have := all_listed hd hs hr (l.length - 1) (by omega)
        rw [hnl'] at this; cases this
      obtain ⟨hlt, hLi, hdl⟩ := ready_mem hs hi
      have ho : l[i]? = some l[i] := List.getElem?_eq_getElem hlt
      by_cases hil : i = l.length - 1
      · -- the last one: all the others have been
        have hoi : l[i] = o := by rw [← hil] at hol; rw [ho] at hol; exact Option.some.inj hol
        have hothers : ∀ j, j < l.length → j ≠ i → L.getD j false = true := by
          intro j hj hji
          have hin := List.all_eq_true.1 hlast j (List.mem_range.2 hj)
          have hcl' : ∀ k o', l[k]? = some o' → (L.setIfInBounds i true).getD k false = true → ∀ e ∈ o'.after.toList, Region.binds .any e = true → (L.setIfInBounds i true).getD e.on false = true := by
            intro k o' hk hLk e he hb
            by_cases hki : k = i
            · subst hki
              rw [ho] at hk
              cases hk
              exact getD_set_mono (hdl e he hb)
            · exact getD_set_mono (hcl k o' hk (getD_set hLk hki) e he hb)
          have := needs_listed hcl' l.length [l.length - 1] (fun k hk => by
            simp at hk; subst hk; rw [← hil]
            have : i < L.size := by omega
            rw [Array.getD_eq_getD_getElem?, Array.getElem?_setIfInBounds_self]
            simp [this]) j (by simpa using hin)
          exact getD_set this hji
        have hst := fin u w' hG (allF_of Fs 0 fun j hj => by rw [Nat.zero_add]; exact hF j (by omega) (hothers j (by omega) (by omega)))
        rw [← hoi] at hst
        refine wpOp_mono ?_ (wpOp_of_list (Q := Q) (by simp [ho]) hst)
        intro a' w'' hq
        have hall : ∀ j, j < l.length → (L.setIfInBounds i true).getD j false = true := by
          intro j hj
          by_cases hji : j = i
          · subst hji
            have : j < L.size := by omega
            rw [Array.getD_eq_getD_getElem?, Array.getElem?_setIfInBounds_self]
            simp [this]
          · exact getD_set_mono (hothers j hj hji)
        have hrn := ready_nil (l := l) (L := L.setIfInBounds i true) (by simp [hs]) hall
        cases fuel with
        | zero => exact ⟨hrn, hq⟩
        | succ fuel => exact ⟨fun _ => hq, fun j hj => by rw [hrn] at hj; cases hj⟩
      · have hdeps : DepsHold (factAt Fs) u w' l[i].after.toList := by
          refine depsHold_of _ fun e he hb => ?_
          have := hdl e he hb
          have hes : e.on < L.size := by
            rcases Nat.lt_or_ge e.on L.size with h | h
            · exact h
            · simp [Array.getD, Nat.not_lt.2 h] at this
          exact hF e.on (by omega) this
        have hst := step.get (i := i) (o := l[i]) (by omega) ho u w' hG hdeps
        rw [Nat.zero_add] at hst
        refine wpOp_mono ?_ (wpOp_of_list (Q := Q) (by simp [ho]) hst)
        rintro a' w'' ⟨hR, v, rfl, hFi⟩
        have hfru : Act.put ⟨fr u, df⟩ l[i].dst v = ⟨fr (updU u i v), df⟩ := by
          have hsl : (l.dropLast.map (·.dst))[i]? = some l[i].dst := by
            rw [List.getElem?_map, List.getElem?_dropLast, if_pos (by omega), ho]; rfl
          cases hdst : l[i].dst with
          | none =>
            rw [hdst] at hsl
            simp only [Act.put]
            rw [← hfr, ← hfr, fill_none u base i hsl v]
          | some d =>
            rw [hdst] at hsl
            simp only [Act.put]
            rw [← hfr, ← hfr, fill_put hok u base i d hsl v]
        rw [hfru]
        refine ih _ _ _ (by simp [hs]) ?_ ?_ ?_ (GR _ _ _ hG hR) fun j hj hLj => ?_
        · have := count_set L.toList i hLi
          simp only [Array.toList_setIfInBounds]
          omega
        · rw [Array.getD_eq_getD_getElem?] at hnl ⊢
          rw [Array.getElem?_setIfInBounds_ne hil]
          exact hnl
        · intro k o' hk hLk e he hb
          by_cases hki : k = i
          · subst hki
            rw [ho] at hk
            cases hk
            exact getD_set_mono (hdl e he hb)
          · exact getD_set_mono (hcl k o' hk (getD_set hLk hki) e he hb)
        · by_cases hji : j = i
          · subst hji; simpa [updU] using hFi
          · simp only [updU, if_neg hji]
            exact stable_of FR j i (by omega) _ _ _ hG hR (hF j hj (getD_set hLj hji))
  obtain ⟨u0, hu0⟩ := fill_self (l.dropLast.map (·.dst)) base
  rw [← hu0, hfr]
  have := main l.length (Array.replicate l.length false) u0 w.drew (by simp) (by simp) (by
    have : l.length - 1 < l.length := by omega
    simp [Array.getD, this]) (fun i o hio h => by
    have : i < l.length := (List.getElem?_eq_some_iff.1 hio).1
    simp [Array.getD, this] at h) G0 (fun i hi h => by simp [Array.getD, hi] at h)
  simpa using this
end

theorem rl_close {Q : Exit → Act → World → Prop} {a : Act} {w : World} (h : Q .normal a w) : StepPost (normally Q) .normal a w := h

theorem wp_region_read_last {P : Program} {Q : Exit → Act → World → Prop} {l : List Oper} {id : Nat} {base : List Value} {df : List Deferred} {w : World} (hm : P.follows .mixedOrders = true)
    (slots : List (Option Nat)) (Vs : List Value) (hsl : l.dropLast.map (·.dst) = slots) (hok : slotsOk slots = true) (hd : edgesDown l = true) (hlast : lastWaits l = true) (hlen : (Vs.length + 1 == l.length) = true)
    (fr : (Nat → Value) → Array Value) (hfr : ∀ u, (fillFrom slots u 0 base).toArray = fr u)
    (step : StepInit P l.toArray (factAt (Vs.map isV)) (fun w' => Below w.heap.size w w') (fun _ w w' => Below w.heap.size w w') df fr 0 l)
    (o : Oper) (ho : l.getLast? = some o)
    (fin : ∀ w', Below w.heap.size w w' → wpList P l.toArray (StepPost (normally Q)) [o] ⟨fr fun i => (Vs[i]?).getD undef, df⟩ w') :
    (Code.region id l.toArray true).wp P Q ⟨base.toArray, df⟩ w := by
  have hlen0 : Vs.length + 1 = l.length := by simpa using hlen
  have hlen' : Vs.length = slots.length := by rw [← hsl, List.length_map, List.length_dropLast]; omega
  refine wp_region_lastD hm slots (Vs.map isV) (fun w' => Below w.heap.size w w') (fun _ w w' => Below w.heap.size w w') hsl hok hd hlast (by simpa using hlen) fr hfr
    (Below.refl _ _).drew (fun _ _ _ h1 h2 => h1.trans (h2.mono h1.size)) (stable_isV Vs 0) step o ho (fun u w' hb hF => ?_)
  have e : fr u = fr fun i => (Vs[i]?).getD undef := by
    rw [← hfr, ← hfr]
    congr 1
    exact fillFrom_congr slots (fun i hi => by have := allF_vals Vs 0 hF i (by omega); rwa [Nat.zero_add] at this) base 0
  rw [e]
  exact fin w' hb
end Go.Sp

/- The reader of path.Parse: is, mark, letter. Conditions: none. -/
namespace Go.Proofs.YtoknglpfchjbjaaGreatDoor
open Go.RowKit Go.Sp Go.Maps

/-- The reader in memory. -/
def RdAt (r : Nat) (s : ByteArray) (at' : Nat) (w : World) : Prop := w.heap[r]? = some (.cells #[.string s, .int .i64 (at' : Nat)] 97 (0, 0))
def isM (marks s : ByteArray) (at' : Nat) : Bool := if h : at' < s.size then hasB marks s[at'] else false

theorem RdAt.cells {r : Nat} {s : ByteArray} {p : Nat} {w w' : World} (h : RdAt r s p w) (hb : Below w.heap.size w w') : w'.cell? ⟨r, 0, none⟩ = some (.string s) ∧ w'.cell? ⟨r, 1, none⟩ = some (.int .i64 (p : Nat)) := by
  have h2 : w'.heap[r]? = some (.cells #[.string s, .int .i64 (p : Nat)] 97 (0, 0)) := (hb.block r (Array.getElem?_eq_some_iff.1 h).1).trans h
  exact ⟨cell_at h2 0, cell_at h2 1⟩
theorem u8_back (b : UInt8) : (((b.toNat : Nat) : Int).toNat).toUInt8 = b := by simp

set_option maxRecDepth 100000 in
set_option maxHeartbeats 2000000 in
theorem rdIs_any (r : Nat) (s marks : ByteArray) (p : Nat) (w : World) (h : RdAt r s p w) (hs : s.size ≤ 65536) (hp : p ≤ s.size) :
    Calls Tryz.prog 84 #[.pointer (some ⟨r, 0, none⟩), .string marks] w fun e w' => e = .returned (.bool (isM marks s p)) ∧ Below w.heap.size w w' := by
  have HC := Sp.hid (fun w' => RdAt.cells (w' := w') h)
  have hrl : r < w.heap.size := (Array.getElem?_eq_some_iff.1 h).1
  unfold isM
  by_cases ha : p < s.size
  · rw [dif_pos ha]
    have hlt : ((p : Nat) : Int) < (s.size : Int) := by omega
    clear h
    go_enter Tryz.func84, Tryz.ntmps84
    go_wp2
    refine Sp.wp_region_read (by kernel_rfl) [some 5, some 6, some 7, some 8, some 9, some 10, some 11, some 12, some 13, some 14, some 15, some 16, some 17, some 18, some 19, some 20, some 21, some 22, some 23, some 24, some 25, some 26, some 27, some 28, some 4] [?r1v0, ?r1v1, ?r1v2, ?r1v3, ?r1v4, ?r1v5, ?r1v6, ?r1v7, ?r1v8, ?r1v9, ?r1v10, ?r1v11, ?r1v12, ?r1v13, ?r1v14, ?r1v15, ?r1v16, ?r1v17, ?r1v18, ?r1v19, ?r1v20, ?r1v21, ?r1v22, ?r1v23, ?r1v24] rfl (by kernel_rfl) (by kernel_rfl) (by kernel_rfl) ?r1fr ?r1hfr ?r1step ?r1fin
    case r1hfr => intro u; simp only [Sp.fillFrom, Sp.idx_cons, Sp.idx_nil, Option.some.injEq, reduceCtorEq, reduceIte, Nat.reduceEqDiff, Nat.reduceAdd, Option.map_some, Option.map_none]; exact rfl
    case r1step =>
      refine ⟨?_, ?_, ?_, ?_, ?_, ?_, ?_, ?_, ?_, ?_, ?_, ?_, ?_, ?_, ?_, ?_, ?_, ?_, ?_, ?_, ?_, ?_, ?_, ?_, ?_, trivial⟩
      all_goals
        intro u w1 hG hD; simp only [Sp.DepsHold, List.map_cons, List.map_nil, Sp.isV, Sp.any_text, Sp.any_gc, Bool.false_eq_true, false_implies, Sp.factAt, Region.binds, List.getElem?_cons_zero, List.getElem?_cons_succ, List.getElem?_nil, Option.getD_some, Option.getD_none, and_true, true_and, true_implies, implies_true] at hD; dsimp only
        obtain ⟨c0, c1⟩ := HC.out w1 hG
        clear hG
        repeat (obtain ⟨hE, hD⟩ := hD; (try rw [hE]); clear hE)
        try rw [hD]
        try clear hD
        go_wp2_with (go_at_call 101; refine (strIndexByte_any _ _ _).mono ?_; rintro e w2 ⟨rfl, rfl⟩)
        (with_reducible apply Sp.rd_close); (first | exact HB2.out | exact Below.refl _ _); exact rfl; refine Sp.isV_at ?_; exact rfl
    case r1fin => 
      intro w' hG; simp only [List.getElem?_cons_zero, List.getElem?_cons_succ, Option.getD_some]
      go_wp2
      go_ret
      exact ⟨rfl, hG⟩
  · rw [dif_neg ha]
    have hlt : ¬ ((p : Nat) : Int) < (s.size : Int) := by omega
    clear h
    go_enter Tryz.func84, Tryz.ntmps84
    go_wp2
    refine Sp.wp_region_read (by kernel_rfl) [some 5, some 6, some 7, some 8, some 9, some 10, some 11, some 12, some 13, some 14, some 15, some 16, some 17, some 18, some 19, some 20, some 21, some 22, some 23, some 24, some 25, some 26, some 27, some 28, some 4] [?r2v0, ?r2v1, ?r2v2, ?r2v3, ?r2v4, ?r2v5, ?r2v6, ?r2v7, ?r2v8, ?r2v9, ?r2v10, ?r2v11, ?r2v12, ?r2v13, ?r2v14, ?r2v15, ?r2v16, ?r2v17, ?r2v18, ?r2v19, ?r2v20, ?r2v21, ?r2v22, ?r2v23, ?r2v24] rfl (by kernel_rfl) (by kernel_rfl) (by kernel_rfl) ?r2fr ?r2hfr ?r2step ?r2fin
    case r2hfr => intro u; simp only [Sp.fillFrom, Sp.idx_cons, Sp.idx_nil, Option.some.injEq, reduceCtorEq, reduceIte, Nat.reduceEqDiff, Nat.reduceAdd, Option.map_some, Option.map_none]; exact rfl
    case r2step =>
      refine ⟨?_, ?_, ?_, ?_, ?_, ?_, ?_, ?_, ?_, ?_, ?_, ?_, ?_, ?_, ?_, ?_, ?_, ?_, ?_, ?_, ?_, ?_, ?_, ?_, ?_, trivial⟩
      all_goals
        intro u w1 hG hD; simp only [Sp.DepsHold, List.map_cons, List.map_nil, Sp.isV, Sp.any_text, Sp.any_gc, Bool.false_eq_true, false_implies, Sp.factAt, Region.binds, List.getElem?_cons_zero, List.getElem?_cons_succ, List.getElem?_nil, Option.getD_some, Option.getD_none, and_true, true_and, true_implies, implies_true] at hD; dsimp only
        obtain ⟨c0, c1⟩ := HC.out w1 hG
        clear hG
        repeat (obtain ⟨hE, hD⟩ := hD; (try rw [hE]); clear hE)
        try rw [hD]
        try clear hD
        go_wp2_with (fail)
        (with_reducible apply Sp.rd_close); (first | exact HB2.out | exact Below.refl _ _); exact rfl; refine Sp.isV_at ?_; exact rfl
    case r2fin => 
      intro w' hG; simp only [List.getElem?_cons_zero, List.getElem?_cons_succ, Option.getD_some]
      go_wp2
      go_ret
      exact ⟨rfl, hG⟩

/-- What stands from a place on. -/
def restB (s : ByteArray) (p : Nat) : List UInt8 := s.data.toList.drop p
theorem restB_at {s : ByteArray} {p : Nat} (h : p < s.size) : restB s p = s[p] :: restB s (p + 1) := by
  unfold restB
  have h' : p < s.data.toList.length := by simpa using h
  rw [List.drop_eq_getElem_cons h']
  rfl
theorem restB_end {s : ByteArray} {p : Nat} (h : ¬ p < s.size) : restB s p = [] := by
  unfold restB
  exact List.drop_eq_nil_of_le (by simpa using h)
theorem restB_drop (s : ByteArray) (p k : Nat) : (restB s p).drop k = restB s (p + k) := by unfold restB; rw [List.drop_drop]
theorem restB_len (s : ByteArray) (p : Nat) : (restB s p).length = s.size - p := by unfold restB; simp

theorem hasB_one (c b : UInt8) : hasB ⟨#[c]⟩ b = decide (b = c) := by
  rw [Bool.eq_iff_iff, hasB_iff]; simp
theorem isM_mark (s : ByteArray) (c : UInt8) (p : Nat) : (isM ⟨#[c]⟩ s p = true ∧ p < s.size ∧ markL c (restB s p) = some (restB s (p + 1))) ∨ (isM ⟨#[c]⟩ s p = false ∧ markL c (restB s p) = none) := by
  unfold isM
  by_cases h : p < s.size
  · rw [dif_pos h, restB_at h, hasB_one]
    by_cases hc : s[p] = c
    · left; exact ⟨by simpa using hc, h, by simp only [markL, if_pos hc]⟩
    · right; exact ⟨by simpa using hc, by simp only [markL, if_neg hc]⟩
  · rw [dif_neg h, restB_end h]
    exact .inr ⟨rfl, rfl⟩

/-- The reader moves on. -/
theorem RdAt.move {r : Nat} {s : ByteArray} {p q : Nat} {w : World} (h : RdAt r s p w) : RdAt r s q (w.setCell ⟨r, 1, none⟩ (.int .i64 (q : Nat))) ∧ w.grownBy (w.setCell ⟨r, 1, none⟩ (.int .i64 (q : Nat))) (some r) := by
  refine ⟨?_, rfl, rfl, rfl, by simp, fun j _ hj => heap_setCell_other w ⟨r, 1, none⟩ j _ (fun e => hj (by simp [e]))⟩
  have := heap_setCell_same w r 1 #[.string s, .int .i64 (p : Nat)] _ (.int .i64 (q : Nat)) h
  simpa [RdAt] using this
theorem RdAt.below {r : Nat} {s : ByteArray} {p : Nat} {w w' : World} (h : RdAt r s p w) (hb : Below w.heap.size w w') : RdAt r s p w' := (hb.block r (Array.getElem?_eq_some_iff.1 h).1).trans h

set_option maxRecDepth 100000 in
set_option maxHeartbeats 2000000 in
theorem rdMark_any (r : Nat) (s : ByteArray) (c : UInt8) (p : Nat) (w : World) (h : RdAt r s p w) (hs : s.size ≤ 65536) (hp : p ≤ s.size) :
    Calls Tryz.prog 57 #[.pointer (some ⟨r, 0, none⟩), .string ⟨#[c]⟩] w fun e w' => w.grownBy w' (some r) ∧
      ((markL c (restB s p) = some (restB s (p + 1)) ∧ p + 1 ≤ s.size ∧ e = .returned (.bool true) ∧ RdAt r s (p + 1) w') ∨ (markL c (restB s p) = none ∧ e = .returned (.bool false) ∧ RdAt r s p w')) := by
  have HIS := Sp.hid (rdIs_any r s ⟨#[c]⟩ p w h hs hp)
  have HR := Sp.hid h
  have hrl : r < w.heap.size := (Array.getElem?_eq_some_iff.1 h).1
  rcases isM_mark s c p with ⟨h1, h2, h3⟩ | ⟨h1, h3⟩
  · rw [h1] at HIS
    have H3 := Sp.hid h3
    clear h1 h3 h
    go_enter Tryz.func57, Tryz.ntmps57
    go_wp2_with fail
    refine HIS.out.mono ?_
    rintro e w1 ⟨rfl, hb⟩
    have hR1 := HR.out.below hb
    have f1 : w1.frozen? ⟨r, 1, none⟩ = false := by unfold RdAt at hR1; simp [World.frozen?, hR1]
    obtain ⟨c0, c1⟩ := hR1.cells (Below.refl _ _)
    have HR1 := Sp.hid hR1
    have HB := Sp.hid hb
    have hsz := hb.size
    clear hb hR1
    go_wp2
    go_ret
    have e1 : ((p : Nat) : Int) + 1 = ((p + 1 : Nat) : Int) := by omega
    rw [e1]
    obtain ⟨m1, m2⟩ := HR1.out.move (q := p + 1)
    exact ⟨grown_trans (grown_weak (grown_below HB.out)) m2, .inl ⟨H3.out, h2, rfl, m1⟩⟩
  · rw [h1] at HIS
    have H3 := Sp.hid h3
    clear h1 h3 h
    go_enter Tryz.func57, Tryz.ntmps57
    go_wp2_with fail
    refine HIS.out.mono ?_
    rintro e w1 ⟨rfl, hb⟩
    have HB := Sp.hid hb
    clear hb
    go_wp2
    go_ret
    exact ⟨grown_weak (grown_below HB.out), .inr ⟨H3.out, rfl, HR.out.below HB.out⟩⟩

end Go.Proofs.YtoknglpfchjbjaaGreatDoor

/- The reader of path.Parse: a letter, a word. Conditions: none. -/
namespace Go.Proofs.YtoknglpfchjbjaaGreatDoor
open Go.RowKit Go.Sp Go.Maps

theorem pathLetter_any (c : Int) (w : World) : Calls Tryz.prog 98 #[.int .u8 c] w fun e w' => e = .returned (.bool (isLetter c)) ∧ w = w' := by
  have ht : ((97 ≤ c ∧ c ≤ 122) ∨ (65 ≤ c ∧ c ≤ 90) ∨ c = 95) → isLetter c = true := fun h => by unfold isLetter; simp only [Bool.or_eq_true, Bool.and_eq_true, decide_eq_true_eq]; omega
  have hf : ¬ ((97 ≤ c ∧ c ≤ 122) ∨ (65 ≤ c ∧ c ≤ 90) ∨ c = 95) → isLetter c = false := fun h => by rw [← Bool.not_eq_true]; unfold isLetter; simp only [Bool.or_eq_true, Bool.and_eq_true, decide_eq_true_eq]; omega
  obtain ⟨b, hb⟩ : ∃ b, b = isLetter c := ⟨_, rfl⟩
  rw [← hb] at ht hf ⊢
  have HT := Sp.hid ht
  have HF := Sp.hid hf
  clear hb ht hf
  by_cases a1 : 97 ≤ c
  · by_cases a2 : c ≤ 122
    · skip
      have h := HT.out (by omega)
      subst h
      go_enter Tryz.func98, Tryz.ntmps98
      go_wp2
      go_ret
      exact ⟨rfl, rfl⟩
    · have a3 : ¬ c ≤ 90 := by omega
      have a5 : 65 ≤ c := by omega
      have a4 : (c == 95) = false := by simp; omega
      have h := HF.out (by omega)
      subst h
      go_enter Tryz.func98, Tryz.ntmps98
      go_wp2
      go_ret
      exact ⟨rfl, rfl⟩
  · by_cases a2 : 65 ≤ c
    · by_cases a3 : c ≤ 90
      · skip
        have h := HT.out (by omega)
        subst h
        go_enter Tryz.func98, Tryz.ntmps98
        go_wp2
        go_ret
        exact ⟨rfl, rfl⟩
      · by_cases a4 : c = 95
        · subst a4
          have h := HT.out (by omega)
          subst h
          go_enter Tryz.func98, Tryz.ntmps98
          go_wp2
          go_ret
          exact ⟨rfl, rfl⟩
        · have a5 : (c == 95) = false := by simpa using a4
          have h := HF.out (by omega)
          clear a4
          subst h
          go_enter Tryz.func98, Tryz.ntmps98
          go_wp2
          go_ret
          exact ⟨rfl, rfl⟩
    · have a4 : (c == 95) = false := by simp; omega
      have h := HF.out (by omega)
      subst h
      go_enter Tryz.func98, Tryz.ntmps98
      go_wp2
      go_ret
      exact ⟨rfl, rfl⟩


def rdPos (r : Nat) (w : World) : Nat := match w.heap[r]? with | some (.cells vs _ _) => (intOf (vs.getD 1 undef)).toNat | _ => 0
theorem RdAt.pos {r : Nat} {s : ByteArray} {p : Nat} {w : World} (h : RdAt r s p w) : rdPos r w = p := by
  unfold rdPos; rw [h]; simp [intOf]
theorem letB_eq (c : UInt8) : isLetter (c.toNat : Nat) = letB c := rfl
theorem isM_at {s marks : ByteArray} {p : Nat} (h : p < s.size) : isM marks s p = hasB marks s[p] := by unfold isM; rw [dif_pos h]
theorem extract_bytes (s : ByteArray) (p k : Nat) : s.extract p (p + k) = bsOf ((restB s p).take k) := by
  apply ByteArray.ext
  unfold bsOf restB
  apply Array.ext'
  simp [ByteArray.data_extract, List.take_drop]


set_option maxRecDepth 100000 in
set_option maxHeartbeats 2000000 in
theorem rdWord_any (r : Nat) (s : ByteArray) (p : Nat) (w : World) (h : RdAt r s p w) (hs : s.size ≤ 65536) (hp : p ≤ s.size) :
    Calls Tryz.prog 82 #[.pointer (some ⟨r, 0, none⟩)] w fun e w' => w.grownBy w' (some r) ∧
      e = .returned (.string (bsOf ((restB s p).take (wordN true (restB s p))))) ∧ RdAt r s (p + wordN true (restB s p)) w' := by
  have HR := Sp.hid h
  obtain ⟨c0, c1⟩ := h.cells (Below.refl _ _)
  clear h
  obtain ⟨N, hN⟩ : ∃ N, N = wordN true (restB s p) := ⟨_, rfl⟩
  have hNs : p + N ≤ s.size := by have := wordN_le true (restB s p); rw [restB_len] at this; omega
  rw [← hN]
  have HN := Sp.hid hN
  clear hN
  go_enter Tryz.func82, Tryz.ntmps82
  go_wp2
  go_loopw [] (fun wr => ∃ k : Nat, k ≤ N ∧ wordN (k == 0) (restB s (p + k)) + k = N ∧ RdAt r s (p + k) wr ∧ w.grownBy wr (some r)) (fun wr => s.size - rdPos r wr)
  case atStart => exact ⟨0, Nat.zero_le _, by simpa using HN.out.symm, by simpa using HR.out, grown_refl _ _⟩
  case round =>
    obtain ⟨k, hkN, hmk, hrk, hgr⟩ := hrel
    obtain ⟨q, hq⟩ : ∃ q, q = p + k := ⟨_, rfl⟩
    rw [← hq] at hmk hrk
    have hqs0 : q ≤ s.size := by omega
    have HC := Sp.hid (fun w' => RdAt.cells (w' := w') hrk)
    have HIS := Sp.hid (fun W (hb : Below wr.heap.size wr W) => rdIs_any r s mkWord q W (hrk.below hb) hs hqs0)
    have HRK := Sp.hid hrk
    have HGR := Sp.hid hgr
    have HQ1 := Sp.hid (show q + 1 = p + (k + 1) by omega)
    have hrl := (Array.getElem?_eq_some_iff.1 hrk).1
    have hpq0 : p ≤ q := by omega
    have HQ := Sp.hid hq
    clear hrk hgr hq c0 c1
    by_cases hlt : q < s.size
    · have HIM := Sp.hid (isM_at (marks := mkWord) hlt)
      rw [restB_at hlt] at hmk
      have hlt' : ((q : Nat) : Int) < (s.size : Int) := by omega
      cases hl : letB s[q]
      · have HLT := Sp.hid ((letB_eq s[q]).trans hl)
        by_cases hk0 : k = 0
        · subst hk0
          simp only [wordN, hl, Bool.false_or, beq_self_eq_true, Bool.not_true, Bool.false_and, Bool.false_eq_true, if_false] at hmk
          have hpq' : ¬ p < q := by have := HQ.out; omega
          have hKN := Sp.hid hmk
          clear hmk hl
          go_wp2
          refine Sp.wp_region_read (by kernel_rfl) [some 8, some 9, some 10, some 11, some 12, some 13, some 14, some 15, some 16, some 17, some 18, some 19, some 20, some 21, some 22, some 23, some 24, some 25, some 26, some 27, some 28, some 29, some 30, some 31, some 32, some 33, some 34, some 35, some 36, some 37, some 38, some 39, some 40, some 41] [?r3v0, ?r3v1, ?r3v2, ?r3v3, ?r3v4, ?r3v5, ?r3v6, ?r3v7, ?r3v8, ?r3v9, ?r3v10, ?r3v11, ?r3v12, ?r3v13, ?r3v14, ?r3v15, ?r3v16, ?r3v17, ?r3v18, ?r3v19, ?r3v20, ?r3v21, ?r3v22, ?r3v23, ?r3v24, ?r3v25, ?r3v26, ?r3v27, ?r3v28, ?r3v29, ?r3v30, ?r3v31, ?r3v32, ?r3v33] rfl (by kernel_rfl) (by kernel_rfl) (by kernel_rfl) ?r3fr ?r3hfr ?r3step ?r3fin
          case r3hfr => intro u; simp only [Sp.fillFrom, Sp.idx_cons, Sp.idx_nil, Option.some.injEq, reduceCtorEq, reduceIte, Nat.reduceEqDiff, Nat.reduceAdd, Option.map_some, Option.map_none]; exact rfl
          case r3step =>
            refine ⟨?_, ?_, ?_, ?_, ?_, ?_, ?_, ?_, ?_, ?_, ?_, ?_, ?_, ?_, ?_, ?_, ?_, ?_, ?_, ?_, ?_, ?_, ?_, ?_, ?_, ?_, ?_, ?_, ?_, ?_, ?_, ?_, ?_, ?_, trivial⟩
            all_goals
              intro u w1 hG hD; simp only [Sp.DepsHold, List.map_cons, List.map_nil, Sp.isV, Sp.any_text, Sp.any_gc, Bool.false_eq_true, false_implies, Sp.factAt, Region.binds, List.getElem?_cons_zero, List.getElem?_cons_succ, List.getElem?_nil, Option.getD_some, Option.getD_none, and_true, true_and, true_implies, implies_true] at hD; dsimp only
              have HG1 := Sp.hid hG; obtain ⟨c0, c1⟩ := HC.out w1 hG
              clear hG
              repeat (obtain ⟨hE, hD⟩ := hD; (try rw [hE]); clear hE)
              try rw [hD]
              try clear hD
              go_wp2_with (first | (go_at_call 98; refine (pathLetter_any _ _).mono ?_; rintro e w2 ⟨rfl, rfl⟩; rw [HLT.out]; have HB2 := Sp.hid (Below.refl w1.heap.size w1)) | (go_at_call 84; refine (HIS.out _ HG1.out).mono ?_; rintro e w2 ⟨rfl, hb2⟩; rw [HIM.out]; have HB2 := Sp.hid hb2; clear hb2))
              (with_reducible apply Sp.rd_close); (first | exact HB2.out | exact Below.refl _ _); exact rfl; refine Sp.isV_at ?_; exact rfl
          case r3fin => 
            intro w' hG; simp only [List.getElem?_cons_zero, List.getElem?_cons_succ, Option.getD_some]
            have hRw := HRK.out.below hG
            have hwsz := hG.size
            have HCW := Sp.hid (fun w2 => RdAt.cells (w' := w2) hRw)
            have HRW := Sp.hid hRw
            have HGW := Sp.hid hG
            have hpq : ((p : Nat) : Int) ≤ (q : Int) := by omega
            have hqs : ((q : Nat) : Int) ≤ (s.size : Int) := by omega
            clear hG hRw
            go_wp2
            refine Sp.wp_region_read (by kernel_rfl) [some 49, some 50, some 51, some 52, some 53, some 54, some 55, some 56, some 57, some 58, some 2] [?r4v0, ?r4v1, ?r4v2, ?r4v3, ?r4v4, ?r4v5, ?r4v6, ?r4v7, ?r4v8, ?r4v9, ?r4v10] rfl (by kernel_rfl) (by kernel_rfl) (by kernel_rfl) ?r4fr ?r4hfr ?r4step ?r4fin
            case r4hfr => intro u; simp only [Sp.fillFrom, Sp.idx_cons, Sp.idx_nil, Option.some.injEq, reduceCtorEq, reduceIte, Nat.reduceEqDiff, Nat.reduceAdd, Option.map_some, Option.map_none]; exact rfl
            case r4step =>
              refine ⟨?_, ?_, ?_, ?_, ?_, ?_, ?_, ?_, ?_, ?_, ?_, trivial⟩
              all_goals
                intro u w1 hG hD; simp only [Sp.DepsHold, List.map_cons, List.map_nil, Sp.isV, Sp.any_text, Sp.any_gc, Bool.false_eq_true, false_implies, Sp.factAt, Region.binds, List.getElem?_cons_zero, List.getElem?_cons_succ, List.getElem?_nil, Option.getD_some, Option.getD_none, and_true, true_and, true_implies, implies_true] at hD; dsimp only
                obtain ⟨c0, c1⟩ := HCW.out w1 hG
                clear hG
                repeat (obtain ⟨hE, hD⟩ := hD; (try rw [hE]); clear hE)
                try rw [hD]
                try clear hD
                go_wp2_with (fail)
                (with_reducible apply Sp.rd_close); (first | exact HB2.out | exact Below.refl _ _); exact rfl; refine Sp.isV_at ?_; exact rfl
            case r4fin => 
              intro w' hG; simp only [List.getElem?_cons_zero, List.getElem?_cons_succ, Option.getD_some]
              go_wp2
              go_ret
              have hqN : q = p + N := by have := HQ.out; have := hKN.out; omega
              refine ⟨grown_trans HGR.out (grown_trans (grown_weak (grown_below HGW.out)) (grown_weak (grown_below hG))), ?_, ?_⟩
              · rw [← extract_bytes, ← hqN]; rfl
              · rw [← hqN]; exact HRW.out.below hG
        · have hk0' : (k == 0) = false := by simpa using hk0
          have hpq' : p < q := by have := HQ.out; omega
          cases hb : hasB mkWord s[q]
          · rw [hb] at HIM
            simp only [wordN, hl, hb, Bool.false_or, Bool.and_false, Bool.false_eq_true, if_false] at hmk
            have hKN := Sp.hid hmk
            clear hmk hl hb hk0'
            go_wp2
            refine Sp.wp_region_read (by kernel_rfl) [some 8, some 9, some 10, some 11, some 12, some 13, some 14, some 15, some 16, some 17, some 18, some 19, some 20, some 21, some 22, some 23, some 24, some 25, some 26, some 27, some 28, some 29, some 30, some 31, some 32, some 33, some 34, some 35, some 36, some 37, some 38, some 39, some 40, some 41] [?r5v0, ?r5v1, ?r5v2, ?r5v3, ?r5v4, ?r5v5, ?r5v6, ?r5v7, ?r5v8, ?r5v9, ?r5v10, ?r5v11, ?r5v12, ?r5v13, ?r5v14, ?r5v15, ?r5v16, ?r5v17, ?r5v18, ?r5v19, ?r5v20, ?r5v21, ?r5v22, ?r5v23, ?r5v24, ?r5v25, ?r5v26, ?r5v27, ?r5v28, ?r5v29, ?r5v30, ?r5v31, ?r5v32, ?r5v33] rfl (by kernel_rfl) (by kernel_rfl) (by kernel_rfl) ?r5fr ?r5hfr ?r5step ?r5fin
            case r5hfr => intro u; simp only [Sp.fillFrom, Sp.idx_cons, Sp.idx_nil, Option.some.injEq, reduceCtorEq, reduceIte, Nat.reduceEqDiff, Nat.reduceAdd, Option.map_some, Option.map_none]; exact rfl
            case r5step =>
              refine ⟨?_, ?_, ?_, ?_, ?_, ?_, ?_, ?_, ?_, ?_, ?_, ?_, ?_, ?_, ?_, ?_, ?_, ?_, ?_, ?_, ?_, ?_, ?_, ?_, ?_, ?_, ?_, ?_, ?_, ?_, ?_, ?_, ?_, ?_, trivial⟩
              all_goals
                intro u w1 hG hD; simp only [Sp.DepsHold, List.map_cons, List.map_nil, Sp.isV, Sp.any_text, Sp.any_gc, Bool.false_eq_true, false_implies, Sp.factAt, Region.binds, List.getElem?_cons_zero, List.getElem?_cons_succ, List.getElem?_nil, Option.getD_some, Option.getD_none, and_true, true_and, true_implies, implies_true] at hD; dsimp only
                have HG1 := Sp.hid hG; obtain ⟨c0, c1⟩ := HC.out w1 hG
                clear hG
                repeat (obtain ⟨hE, hD⟩ := hD; (try rw [hE]); clear hE)
                try rw [hD]
                try clear hD
                go_wp2_with (first | (go_at_call 98; refine (pathLetter_any _ _).mono ?_; rintro e w2 ⟨rfl, rfl⟩; rw [HLT.out]; have HB2 := Sp.hid (Below.refl w1.heap.size w1)) | (go_at_call 84; refine (HIS.out _ HG1.out).mono ?_; rintro e w2 ⟨rfl, hb2⟩; rw [HIM.out]; have HB2 := Sp.hid hb2; clear hb2))
                (with_reducible apply Sp.rd_close); (first | exact HB2.out | exact Below.refl _ _); exact rfl; refine Sp.isV_at ?_; exact rfl
            case r5fin => 
              intro w' hG; simp only [List.getElem?_cons_zero, List.getElem?_cons_succ, Option.getD_some]
              have hRw := HRK.out.below hG
              have hwsz := hG.size
              have HCW := Sp.hid (fun w2 => RdAt.cells (w' := w2) hRw)
              have HRW := Sp.hid hRw
              have HGW := Sp.hid hG
              have hpq : ((p : Nat) : Int) ≤ (q : Int) := by omega
              have hqs : ((q : Nat) : Int) ≤ (s.size : Int) := by omega
              clear hG hRw
              go_wp2
              refine Sp.wp_region_read (by kernel_rfl) [some 49, some 50, some 51, some 52, some 53, some 54, some 55, some 56, some 57, some 58, some 2] [?r6v0, ?r6v1, ?r6v2, ?r6v3, ?r6v4, ?r6v5, ?r6v6, ?r6v7, ?r6v8, ?r6v9, ?r6v10] rfl (by kernel_rfl) (by kernel_rfl) (by kernel_rfl) ?r6fr ?r6hfr ?r6step ?r6fin
              case r6hfr => intro u; simp only [Sp.fillFrom, Sp.idx_cons, Sp.idx_nil, Option.some.injEq, reduceCtorEq, reduceIte, Nat.reduceEqDiff, Nat.reduceAdd, Option.map_some, Option.map_none]; exact rfl
              case r6step =>
                refine ⟨?_, ?_, ?_, ?_, ?_, ?_, ?_, ?_, ?_, ?_, ?_, trivial⟩
                all_goals
                  intro u w1 hG hD; simp only [Sp.DepsHold, List.map_cons, List.map_nil, Sp.isV, Sp.any_text, Sp.any_gc, Bool.false_eq_true, false_implies, Sp.factAt, Region.binds, List.getElem?_cons_zero, List.getElem?_cons_succ, List.getElem?_nil, Option.getD_some, Option.getD_none, and_true, true_and, true_implies, implies_true] at hD; dsimp only
                  obtain ⟨c0, c1⟩ := HCW.out w1 hG
                  clear hG
                  repeat (obtain ⟨hE, hD⟩ := hD; (try rw [hE]); clear hE)
                  try rw [hD]
                  try clear hD
                  go_wp2_with (fail)
                  (with_reducible apply Sp.rd_close); (first | exact HB2.out | exact Below.refl _ _); exact rfl; refine Sp.isV_at ?_; exact rfl
              case r6fin => 
                intro w' hG; simp only [List.getElem?_cons_zero, List.getElem?_cons_succ, Option.getD_some]
                go_wp2
                go_ret
                have hqN : q = p + N := by have := HQ.out; have := hKN.out; omega
                refine ⟨grown_trans HGR.out (grown_trans (grown_weak (grown_below HGW.out)) (grown_weak (grown_below hG))), ?_, ?_⟩
                · rw [← extract_bytes, ← hqN]; rfl
                · rw [← hqN]; exact HRW.out.below hG
          · rw [hb] at HIM
            simp only [wordN, hl, hb, hk0', Bool.false_or, Bool.not_false, Bool.and_true, if_true] at hmk
            have HK1 := Sp.hid (show k + 1 ≤ N by omega)
            have HSTEP := Sp.hid (show wordN (k + 1 == 0) (restB s (p + (k + 1))) + (k + 1) = N by rw [← HQ1.out, show (k + 1 == 0) = false from rfl]; omega)
            clear hmk hl hb hk0'
            go_wp2
            refine Sp.wp_region_read (by kernel_rfl) [some 8, some 9, some 10, some 11, some 12, some 13, some 14, some 15, some 16, some 17, some 18, some 19, some 20, some 21, some 22, some 23, some 24, some 25, some 26, some 27, some 28, some 29, some 30, some 31, some 32, some 33, some 34, some 35, some 36, some 37, some 38, some 39, some 40, some 41] [?r7v0, ?r7v1, ?r7v2, ?r7v3, ?r7v4, ?r7v5, ?r7v6, ?r7v7, ?r7v8, ?r7v9, ?r7v10, ?r7v11, ?r7v12, ?r7v13, ?r7v14, ?r7v15, ?r7v16, ?r7v17, ?r7v18, ?r7v19, ?r7v20, ?r7v21, ?r7v22, ?r7v23, ?r7v24, ?r7v25, ?r7v26, ?r7v27, ?r7v28, ?r7v29, ?r7v30, ?r7v31, ?r7v32, ?r7v33] rfl (by kernel_rfl) (by kernel_rfl) (by kernel_rfl) ?r7fr ?r7hfr ?r7step ?r7fin
            case r7hfr => intro u; simp only [Sp.fillFrom, Sp.idx_cons, Sp.idx_nil, Option.some.injEq, reduceCtorEq, reduceIte, Nat.reduceEqDiff, Nat.reduceAdd, Option.map_some, Option.map_none]; exact rfl
            case r7step =>
              refine ⟨?_, ?_, ?_, ?_, ?_, ?_, ?_, ?_, ?_, ?_, ?_, ?_, ?_, ?_, ?_, ?_, ?_, ?_, ?_, ?_, ?_, ?_, ?_, ?_, ?_, ?_, ?_, ?_, ?_, ?_, ?_, ?_, ?_, ?_, trivial⟩
              all_goals
                intro u w1 hG hD; simp only [Sp.DepsHold, List.map_cons, List.map_nil, Sp.isV, Sp.any_text, Sp.any_gc, Bool.false_eq_true, false_implies, Sp.factAt, Region.binds, List.getElem?_cons_zero, List.getElem?_cons_succ, List.getElem?_nil, Option.getD_some, Option.getD_none, and_true, true_and, true_implies, implies_true] at hD; dsimp only
                have HG1 := Sp.hid hG; obtain ⟨c0, c1⟩ := HC.out w1 hG
                clear hG
                repeat (obtain ⟨hE, hD⟩ := hD; (try rw [hE]); clear hE)
                try rw [hD]
                try clear hD
                go_wp2_with (first | (go_at_call 98; refine (pathLetter_any _ _).mono ?_; rintro e w2 ⟨rfl, rfl⟩; rw [HLT.out]; have HB2 := Sp.hid (Below.refl w1.heap.size w1)) | (go_at_call 84; refine (HIS.out _ HG1.out).mono ?_; rintro e w2 ⟨rfl, hb2⟩; rw [HIM.out]; have HB2 := Sp.hid hb2; clear hb2))
                (with_reducible apply Sp.rd_close); (first | exact HB2.out | exact Below.refl _ _); exact rfl; refine Sp.isV_at ?_; exact rfl
            case r7fin => 
              intro w' hG; simp only [List.getElem?_cons_zero, List.getElem?_cons_succ, Option.getD_some]
              obtain ⟨c0, c1⟩ := HC.out w' hG
              have hRw := HRK.out.below hG
              have hwsz := hG.size
              have f1 : w'.frozen? ⟨r, 1, none⟩ = false := by unfold RdAt at hRw; simp [World.frozen?, hRw]
              have HGW := Sp.hid hG
              have HRW := Sp.hid hRw
              clear hG hRw
              go_wp2
              have e1 : ((q : Nat) : Int) + 1 = ((q + 1 : Nat) : Int) := by omega
              rw [e1]
              obtain ⟨m1, m2⟩ := HRW.out.move (q := q + 1)
              have HM1 := Sp.hid m1
              have HM2 := Sp.hid m2
              clear m1 m2 e1
              go_roundw
              case rel => exact ⟨k + 1, HK1.out, HSTEP.out, by rw [← HQ1.out]; exact HM1.out, grown_trans (grown_trans HGR.out (grown_weak (grown_below HGW.out))) HM2.out⟩
              case measure => rw [HM1.out.pos, HRK.out.pos]; omega
      · have HLT := Sp.hid ((letB_eq s[q]).trans hl)
        simp only [wordN, hl, Bool.true_or, if_true] at hmk
        have HK1 := Sp.hid (show k + 1 ≤ N by omega)
        have HSTEP := Sp.hid (show wordN (k + 1 == 0) (restB s (p + (k + 1))) + (k + 1) = N by rw [← HQ1.out, show (k + 1 == 0) = false from rfl]; omega)
        clear hmk hl
        go_wp2
        refine Sp.wp_region_read (by kernel_rfl) [some 8, some 9, some 10, some 11, some 12, some 13, some 14, some 15, some 16, some 17, some 18, some 19, some 20, some 21, some 22, some 23, some 24, some 25, some 26, some 27, some 28, some 29, some 30, some 31, some 32, some 33, some 34, some 35, some 36, some 37, some 38, some 39, some 40, some 41] [?r8v0, ?r8v1, ?r8v2, ?r8v3, ?r8v4, ?r8v5, ?r8v6, ?r8v7, ?r8v8, ?r8v9, ?r8v10, ?r8v11, ?r8v12, ?r8v13, ?r8v14, ?r8v15, ?r8v16, ?r8v17, ?r8v18, ?r8v19, ?r8v20, ?r8v21, ?r8v22, ?r8v23, ?r8v24, ?r8v25, ?r8v26, ?r8v27, ?r8v28, ?r8v29, ?r8v30, ?r8v31, ?r8v32, ?r8v33] rfl (by kernel_rfl) (by kernel_rfl) (by kernel_rfl) ?r8fr ?r8hfr ?r8step ?r8fin
        case r8hfr => intro u; simp only [Sp.fillFrom, Sp.idx_cons, Sp.idx_nil, Option.some.injEq, reduceCtorEq, reduceIte, Nat.reduceEqDiff, Nat.reduceAdd, Option.map_some, Option.map_none]; exact rfl
        case r8step =>
          refine ⟨?_, ?_, ?_, ?_, ?_, ?_, ?_, ?_, ?_, ?_, ?_, ?_, ?_, ?_, ?_, ?_, ?_, ?_, ?_, ?_, ?_, ?_, ?_, ?_, ?_, ?_, ?_, ?_, ?_, ?_, ?_, ?_, ?_, ?_, trivial⟩
          all_goals
            intro u w1 hG hD; simp only [Sp.DepsHold, List.map_cons, List.map_nil, Sp.isV, Sp.any_text, Sp.any_gc, Bool.false_eq_true, false_implies, Sp.factAt, Region.binds, List.getElem?_cons_zero, List.getElem?_cons_succ, List.getElem?_nil, Option.getD_some, Option.getD_none, and_true, true_and, true_implies, implies_true] at hD; dsimp only
            have HG1 := Sp.hid hG; obtain ⟨c0, c1⟩ := HC.out w1 hG
            clear hG
            repeat (obtain ⟨hE, hD⟩ := hD; (try rw [hE]); clear hE)
            try rw [hD]
            try clear hD
            go_wp2_with (first | (go_at_call 98; refine (pathLetter_any _ _).mono ?_; rintro e w2 ⟨rfl, rfl⟩; rw [HLT.out]; have HB2 := Sp.hid (Below.refl w1.heap.size w1)) | (go_at_call 84; refine (HIS.out _ HG1.out).mono ?_; rintro e w2 ⟨rfl, hb2⟩; rw [HIM.out]; have HB2 := Sp.hid hb2; clear hb2))
            (with_reducible apply Sp.rd_close); (first | exact HB2.out | exact Below.refl _ _); exact rfl; refine Sp.isV_at ?_; exact rfl
        case r8fin => 
          intro w' hG; simp only [List.getElem?_cons_zero, List.getElem?_cons_succ, Option.getD_some]
          obtain ⟨c0, c1⟩ := HC.out w' hG
          have hRw := HRK.out.below hG
          have hwsz := hG.size
          have f1 : w'.frozen? ⟨r, 1, none⟩ = false := by unfold RdAt at hRw; simp [World.frozen?, hRw]
          have HGW := Sp.hid hG
          have HRW := Sp.hid hRw
          clear hG hRw
          go_wp2
          have e1 : ((q : Nat) : Int) + 1 = ((q + 1 : Nat) : Int) := by omega
          rw [e1]
          obtain ⟨m1, m2⟩ := HRW.out.move (q := q + 1)
          have HM1 := Sp.hid m1
          have HM2 := Sp.hid m2
          clear m1 m2 e1
          go_roundw
          case rel => exact ⟨k + 1, HK1.out, HSTEP.out, by rw [← HQ1.out]; exact HM1.out, grown_trans (grown_trans HGR.out (grown_weak (grown_below HGW.out))) HM2.out⟩
          case measure => rw [HM1.out.pos, HRK.out.pos]; omega
    · rw [restB_end hlt] at hmk
      simp only [wordN] at hmk
      have hKN := Sp.hid hmk
      have hlt' : ¬ ((q : Nat) : Int) < (s.size : Int) := by omega
      clear hmk
      go_wp2
      refine Sp.wp_region_read (by kernel_rfl) [some 8, some 9, some 10, some 11, some 12, some 13, some 14, some 15, some 16, some 17, some 18, some 19, some 20, some 21, some 22, some 23, some 24, some 25, some 26, some 27, some 28, some 29, some 30, some 31, some 32, some 33, some 34, some 35, some 36, some 37, some 38, some 39, some 40, some 41] [?r9v0, ?r9v1, ?r9v2, ?r9v3, ?r9v4, ?r9v5, ?r9v6, ?r9v7, ?r9v8, ?r9v9, ?r9v10, ?r9v11, ?r9v12, ?r9v13, ?r9v14, ?r9v15, ?r9v16, ?r9v17, ?r9v18, ?r9v19, ?r9v20, ?r9v21, ?r9v22, ?r9v23, ?r9v24, ?r9v25, ?r9v26, ?r9v27, ?r9v28, ?r9v29, ?r9v30, ?r9v31, ?r9v32, ?r9v33] rfl (by kernel_rfl) (by kernel_rfl) (by kernel_rfl) ?r9fr ?r9hfr ?r9step ?r9fin
      case r9hfr => intro u; simp only [Sp.fillFrom, Sp.idx_cons, Sp.idx_nil, Option.some.injEq, reduceCtorEq, reduceIte, Nat.reduceEqDiff, Nat.reduceAdd, Option.map_some, Option.map_none]; exact rfl
      case r9step =>
        refine ⟨?_, ?_, ?_, ?_, ?_, ?_, ?_, ?_, ?_, ?_, ?_, ?_, ?_, ?_, ?_, ?_, ?_, ?_, ?_, ?_, ?_, ?_, ?_, ?_, ?_, ?_, ?_, ?_, ?_, ?_, ?_, ?_, ?_, ?_, trivial⟩
        all_goals
          intro u w1 hG hD; simp only [Sp.DepsHold, List.map_cons, List.map_nil, Sp.isV, Sp.any_text, Sp.any_gc, Bool.false_eq_true, false_implies, Sp.factAt, Region.binds, List.getElem?_cons_zero, List.getElem?_cons_succ, List.getElem?_nil, Option.getD_some, Option.getD_none, and_true, true_and, true_implies, implies_true] at hD; dsimp only
          have HG1 := Sp.hid hG; obtain ⟨c0, c1⟩ := HC.out w1 hG
          clear hG
          repeat (obtain ⟨hE, hD⟩ := hD; (try rw [hE]); clear hE)
          try rw [hD]
          try clear hD
          go_wp2_with (first | (go_at_call 98; refine (pathLetter_any _ _).mono ?_; rintro e w2 ⟨rfl, rfl⟩; rw [HLT.out]; have HB2 := Sp.hid (Below.refl w1.heap.size w1)) | (go_at_call 84; refine (HIS.out _ HG1.out).mono ?_; rintro e w2 ⟨rfl, hb2⟩; rw [HIM.out]; have HB2 := Sp.hid hb2; clear hb2))
          (with_reducible apply Sp.rd_close); (first | exact HB2.out | exact Below.refl _ _); exact rfl; refine Sp.isV_at ?_; exact rfl
      case r9fin => 
        intro w' hG; simp only [List.getElem?_cons_zero, List.getElem?_cons_succ, Option.getD_some]
        have hRw := HRK.out.below hG
        have hwsz := hG.size
        have HCW := Sp.hid (fun w2 => RdAt.cells (w' := w2) hRw)
        have HRW := Sp.hid hRw
        have HGW := Sp.hid hG
        have hpq : ((p : Nat) : Int) ≤ (q : Int) := by omega
        have hqs : ((q : Nat) : Int) ≤ (s.size : Int) := by omega
        clear hG hRw
        go_wp2
        refine Sp.wp_region_read (by kernel_rfl) [some 49, some 50, some 51, some 52, some 53, some 54, some 55, some 56, some 57, some 58, some 2] [?r10v0, ?r10v1, ?r10v2, ?r10v3, ?r10v4, ?r10v5, ?r10v6, ?r10v7, ?r10v8, ?r10v9, ?r10v10] rfl (by kernel_rfl) (by kernel_rfl) (by kernel_rfl) ?r10fr ?r10hfr ?r10step ?r10fin
        case r10hfr => intro u; simp only [Sp.fillFrom, Sp.idx_cons, Sp.idx_nil, Option.some.injEq, reduceCtorEq, reduceIte, Nat.reduceEqDiff, Nat.reduceAdd, Option.map_some, Option.map_none]; exact rfl
        case r10step =>
          refine ⟨?_, ?_, ?_, ?_, ?_, ?_, ?_, ?_, ?_, ?_, ?_, trivial⟩
          all_goals
            intro u w1 hG hD; simp only [Sp.DepsHold, List.map_cons, List.map_nil, Sp.isV, Sp.any_text, Sp.any_gc, Bool.false_eq_true, false_implies, Sp.factAt, Region.binds, List.getElem?_cons_zero, List.getElem?_cons_succ, List.getElem?_nil, Option.getD_some, Option.getD_none, and_true, true_and, true_implies, implies_true] at hD; dsimp only
            obtain ⟨c0, c1⟩ := HCW.out w1 hG
            clear hG
            repeat (obtain ⟨hE, hD⟩ := hD; (try rw [hE]); clear hE)
            try rw [hD]
            try clear hD
            go_wp2_with (fail)
            (with_reducible apply Sp.rd_close); (first | exact HB2.out | exact Below.refl _ _); exact rfl; refine Sp.isV_at ?_; exact rfl
        case r10fin => 
          intro w' hG; simp only [List.getElem?_cons_zero, List.getElem?_cons_succ, Option.getD_some]
          go_wp2
          go_ret
          have hqN : q = p + N := by have := HQ.out; have := hKN.out; omega
          refine ⟨grown_trans HGR.out (grown_trans (grown_weak (grown_below HGW.out)) (grown_weak (grown_below hG))), ?_, ?_⟩
          · rw [← extract_bytes, ← hqN]; rfl
          · rw [← hqN]; exact HRW.out.below hG

end Go.Proofs.YtoknglpfchjbjaaGreatDoor
