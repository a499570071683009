/- A region that draws its order, by facts: each operation, in whatever world the others have left, yields a value of which its fact holds; facts hold on while others run. General: no program in sight. Conditions: none. -/
import Derived.WalkKit
namespace Go.Sp
open Go.RowKit

/-- The post of one step: it ends as it should. -/
def StepPost (K : Act → World → Prop) : Exit → Act → World → Prop
  | .normal, a, w => K a w
  | _, _, _ => False

def normally (Q : Exit → Act → World → Prop) (a : Act) (w : World) : Prop := Q .normal a w
theorem stepEnd {P : Program} {ops : Array Oper} {Q : Exit → Act → World → Prop} {a : Act} {w : World} (h : Q .normal a w) : wpList P ops (StepPost (normally Q)) [] a w := h

section
variable {P : Program} {ops : Array Oper} {Q : Exit → Act → World → Prop}

theorem wpOp_of_list {i : Nat} {o : Oper} {K : Act → World → Prop} {a : Act} {w : World} (ho : ops[i]? = some o) (h : wpList P ops (StepPost K) [o] a w) : wpOp P ops Q i K a w := by
  unfold wpOp
  rw [ho]
  simp only
  unfold wpList at h
  split
  · rename_i hw
    rw [if_pos hw] at h
    rcases h with h | ⟨_, _, _, h⟩
    · refine Or.inl ?_
      unfold Oper.wp at *
      generalize (execOp a.eval o).run P w = r at *
      cases r with
      | ok n w' =>
        cases n <;> simp only [Oper.upon] at h ⊢ <;>
          first
            | exact h
            | exact Calls.mono h (fun e w'' he => by cases e <;> first | exact he | exact he.elim | (obtain ⟨_, _, he⟩ := he; exact he.elim))
            | exact Rows.mono h (fun _ _ he => he)
      | halt x w' => cases x <;> simp only [Oper.upon] at h ⊢ <;> exact h.elim
    · exact h.elim
  · rename_i hw
    rw [if_neg hw] at h
    exact h

/-- The slots with the region's own ones open. -/
def fillFrom (slots : List (Option Nat)) (u : Nat → Value) : Nat → List Value → List Value
  | _, [] => []
  | j, x :: l => (match slots.idxOf? (some j) with | some i => u i | none => x) :: fillFrom slots u (j + 1) l

theorem fillFrom_length (slots : List (Option Nat)) (u : Nat → Value) : ∀ (l : List Value) (j : Nat), (fillFrom slots u j l).length = l.length
  | [], _ => rfl
  | _ :: l, j => by simp [fillFrom, fillFrom_length slots u l]

theorem fillFrom_get (slots : List (Option Nat)) (u : Nat → Value) : ∀ (l : List Value) (j k : Nat), (fillFrom slots u j l)[k]? = (l[k]?).map fun x => match slots.idxOf? (some (j + k)) with | some i => u i | none => x
  | [], _, _ => by simp [fillFrom]
  | x :: l, j, 0 => by simp [fillFrom]
  | x :: l, j, k + 1 => by
    simp only [fillFrom, List.getElem?_cons_succ]
    rw [fillFrom_get slots u l (j + 1) k, show j + 1 + k = j + (k + 1) from by omega]

def updU (u : Nat → Value) (i : Nat) (v : Value) : Nat → Value := fun j => if j = i then v else u j

/-- No slot twice. -/
def slotsOk (slots : List (Option Nat)) : Bool := (List.range slots.length).all fun i => match slots[i]? with | some (some d) => slots.idxOf? (some d) == some i | _ => true

theorem fill_put {slots : List (Option Nat)} (hok : slotsOk slots = true) (u : Nat → Value) (l : List Value) (i : Nat) (d : Nat) (hi : slots[i]? = some (some d)) (v : Value) :
    (fillFrom slots u 0 l).toArray.setIfInBounds d v = (fillFrom slots (updU u i v) 0 l).toArray := by
  have hlt : i < slots.length := (List.getElem?_eq_some_iff.1 hi).1
  have hidx : slots.idxOf? (some d) = some i := by
    have := List.all_eq_true.1 hok i (List.mem_range.2 hlt)
    rw [hi] at this
    simpa using this
  apply Array.ext'
  simp only [List.setIfInBounds_toArray]
  apply List.ext_getElem?
  intro k
  rw [List.getElem?_set]
  by_cases hk : d = k
  · subst hk
    rw [if_pos rfl, fillFrom_get]
    by_cases hl : d < l.length
    · rw [if_pos (by rw [fillFrom_length]; exact hl)]
      simp [List.getElem?_eq_getElem hl, hidx, updU]
    · rw [if_neg (by rw [fillFrom_length]; exact hl)]
      simp [List.getElem?_eq_none (Nat.le_of_not_lt hl)]
  · rw [if_neg hk, fillFrom_get, fillFrom_get]
    congr 1
    funext x
    simp only [Nat.zero_add]
    cases h : slots.idxOf? (some k) with
    | none => rfl
    | some j =>
      have hj : j ≠ i := by
        intro e
        subst e
        have hje := List.of_findIdx?_eq_some h
        rw [hi] at hje
        simp at hje
        exact hk hje
      simp [updU, hj]

/-- What the operations that o waits for have left. -/
def DepsHold (F : Nat → Value → World → Prop) (u : Nat → Value) (w : World) : List Edge → Prop
  | [] => True
  | e :: r => (Region.binds .any e = true → F e.on (u e.on) w) ∧ DepsHold F u w r

/-- What one step has to leave. -/
def StepK (R : World → World → Prop) (Fi : Value → World → Prop) (a0 : Act) (dst : Option Nat) (w : World) (a' : Act) (w' : World) : Prop := R w w' ∧ ∃ v, a' = Act.put a0 dst v ∧ Fi v w'

/-- One goal an operation. -/
def StepAll (P : Program) (ops : Array Oper) (F : Nat → Value → World → Prop) (G : World → Prop) (R : Nat → World → World → Prop) (df : List Deferred) (fr : (Nat → Value) → Array Value) : Nat → List Oper → Prop
  | _, [] => True
  | i, o :: r => (∀ u w, G w → DepsHold F u w o.after.toList → wpList P ops (StepPost (StepK (R i) (F i) ⟨fr u, df⟩ o.dst w)) [o] ⟨fr u, df⟩ w) ∧ StepAll P ops F G R df fr (i + 1) r

theorem StepAll.get {F : Nat → Value → World → Prop} {G : World → Prop} {R : Nat → World → World → Prop} {df : List Deferred} {fr : (Nat → Value) → Array Value} : ∀ {l : List Oper} {k : Nat}, StepAll P ops F G R df fr k l → ∀ {i : Nat} {o : Oper}, l[i]? = some o →
    ∀ u w, G w → DepsHold F u w o.after.toList → wpList P ops (StepPost (StepK (R (k + i)) (F (k + i)) ⟨fr u, df⟩ o.dst w)) [o] ⟨fr u, df⟩ w
  | [], _, _, i, o, hi => by simp at hi
  | x :: l, k, h, 0, o, hi => by simp at hi; subst hi; exact h.1
  | x :: l, k, h, i + 1, o, hi => by
    have := StepAll.get h.2 (i := i) (o := o) (by simpa using hi)
    rw [show k + (i + 1) = k + 1 + i from by omega]
    exact this

theorem depsHold_of {F : Nat → Value → World → Prop} {u : Nat → Value} {w : World} : ∀ (l : List Edge), (∀ e ∈ l, Region.binds .any e = true → F e.on (u e.on) w) → DepsHold F u w l
  | [], _ => trivial
  | e :: r, h => ⟨h e (by simp), depsHold_of r fun e' he => h e' (by simp [he])⟩

theorem fill_none {slots : List (Option Nat)} (u : Nat → Value) (l : List Value) (i : Nat) (hi : slots[i]? = some none) (v : Value) : (fillFrom slots (updU u i v) 0 l) = (fillFrom slots u 0 l) := by
  apply List.ext_getElem?
  intro k
  rw [fillFrom_get, fillFrom_get]
  congr 1
  funext x
  simp only [Nat.zero_add]
  cases h : slots.idxOf? (some k) with
  | none => rfl
  | some j =>
    have hj : j ≠ i := by
      intro e
      subst e
      have hje := List.of_findIdx?_eq_some h
      rw [hi] at hje
      simp at hje
    simp [updU, hj]

/-- Every operation waits for earlier ones alone. -/
def edgesDown (l : List Oper) : Bool := (List.range l.length).all fun i => ((l[i]?).map (·.after.all fun e => !Region.binds .any e || decide (e.on < i))).getD true

theorem all_listed {l : List Oper} (hd : edgesDown l = true) {L : Array Bool} (hs : L.size = l.length) (hr : Region.ready .any l.toArray L = []) : ∀ i, i < l.length → L.getD i false = true := by
  intro i
  induction i using Nat.strongRecOn with
  | _ i ih =>
    intro hi
    cases hL : L.getD i false with
    | true => rfl
    | false =>
      exfalso
      have hmem : i ∈ Region.ready .any l.toArray L := by
        unfold Region.ready
        rw [List.mem_filter]
        refine ⟨List.mem_range.2 (by simpa using hi), ?_⟩
        have hLs : i < L.size := by omega
        have h1 : L.getD i true = false := by
          simp only [Array.getD, dif_pos hLs] at hL ⊢
          exact hL
        have ho : l[i]? = some l[i] := List.getElem?_eq_getElem hi
        simp only [h1, Bool.not_false, Bool.true_and, List.getElem?_toArray, ho, Option.map_some, Option.getD_some]
        have hdi := List.all_eq_true.1 hd i (List.mem_range.2 hi)
        rw [ho] at hdi
        simp only [Option.map_some, Option.getD_some] at hdi
        rw [Array.all_eq_true_iff_forall_mem] at hdi ⊢
        intro e he
        have := hdi e he
        simp only [Bool.or_eq_true, decide_eq_true_eq] at this ⊢
        rcases this with h | h
        · exact Or.inl h
        · exact Or.inr (ih e.on h (by omega))
      rw [hr] at hmem
      cases hmem

theorem idx_cons (x y : Option Nat) (l : List (Option Nat)) : (x :: l).idxOf? y = if x = y then some 0 else (l.idxOf? y).map (· + 1) := by
  by_cases h : x = y <;> simp [List.idxOf?, List.findIdx?_cons, h]
theorem idx_nil (y : Option Nat) : ([] : List (Option Nat)).idxOf? y = none := rfl

/-- The facts, as a list. -/
def factAt (Fs : List (Value → World → Prop)) (i : Nat) (v : Value) (w : World) : Prop := (Fs[i]?.getD fun _ _ => True) v w

def AllF (u : Nat → Value) (w : World) : Nat → List (Value → World → Prop) → Prop
  | _, [] => True
  | i, p :: r => p (u i) w ∧ AllF u w (i + 1) r

theorem allF_of {u : Nat → Value} {w : World} : ∀ (Fs : List (Value → World → Prop)) (k : Nat), (∀ i, i < Fs.length → factAt Fs i (u (k + i)) w) → AllF u w k Fs
  | [], _, _ => trivial
  | p :: r, k, h => ⟨by have := h 0 (by simp); simpa [factAt] using this, allF_of r (k + 1) fun i hi => by
      have := h (i + 1) (by simp; omega)
      simp only [factAt, List.getElem?_cons_succ] at this
      rw [show k + 1 + i = k + (i + 1) from by omega]
      exact this⟩

/-- The facts hold on, one by one, whatever another operation does. -/
def StableAll (G : World → Prop) (R : Nat → World → World → Prop) : Nat → List (Value → World → Prop) → Prop
  | _, [] => True
  | k, p :: r => (∀ i, i ≠ k → ∀ v w w', G w → R i w w' → p v w → p v w') ∧ StableAll G R (k + 1) r

theorem stable_of {G : World → Prop} {R : Nat → World → World → Prop} : ∀ {Fs : List (Value → World → Prop)} {k : Nat}, StableAll G R k Fs → ∀ j i, i ≠ k + j → ∀ v w w', G w → R i w w' → factAt Fs j v w → factAt Fs j v w'
  | [], _, _, j, i, _, v, w, w', _, _, _ => by simp [factAt]
  | p :: r, k, h, 0, i, hi, v, w, w', hG, hR, hp => by
    simp only [factAt, List.getElem?_cons_zero, Option.getD_some] at hp ⊢
    exact h.1 i hi v w w' hG hR hp
  | p :: r, k, h, j + 1, i, hi, v, w, w', hG, hR, hp => by
    have := stable_of h.2 j i (by omega) v w w' hG hR
    simp only [factAt, List.getElem?_cons_succ] at this hp ⊢
    exact this hp

theorem fill_self (slots : List (Option Nat)) (base : List Value) : ∃ u, fillFrom slots u 0 base = base := by
  refine ⟨fun i => match slots[i]? with | some (some d) => base.getD d undef | _ => undef, ?_⟩
  apply List.ext_getElem?
  intro k
  rw [fillFrom_get]
  cases hb : base[k]? with
  | none => rfl
  | some x =>
    simp only [Option.map_some, Nat.zero_add, Option.some.injEq]
    cases h : slots.idxOf? (some k) with
    | none => rfl
    | some j =>
      have hje := List.of_findIdx?_eq_some h
      cases hj : slots[j]? with
      | none => rw [hj] at hje; simp at hje
      | some y =>
        rw [hj] at hje
        have hy : y = some k := by simpa using hje
        subst hy
        simp [List.getD, hb, hj]

/-- What must come ahead of the last operation, going down. -/
def needs (l : List Oper) : Nat → List Nat → List Nat
  | 0, S => S
  | i + 1, S => needs l i (if S.contains i then ((l[i]?).map fun o => (o.after.toList.filter fun e => Region.binds .any e).map (·.on)).getD [] ++ S else S)

def lastWaits (l : List Oper) : Bool :=
  let S := needs l l.length [l.length - 1]
  (List.range l.length).all fun i => S.contains i

theorem needs_listed {l : List Oper} {L : Array Bool} (hcl : ∀ i o, l[i]? = some o → L.getD i false = true → ∀ e ∈ o.after.toList, Region.binds .any e = true → L.getD e.on false = true) :
    ∀ (n : Nat) (S : List Nat), (∀ i ∈ S, L.getD i false = true) → ∀ i ∈ needs l n S, L.getD i false = true
  | 0, _, h => h
  | n + 1, S, h => by
    unfold needs
    refine needs_listed hcl n _ ?_
    split
    · rename_i hc
      have hn : L.getD n false = true := h n (by simpa using hc)
      intro i hi
      rcases List.mem_append.1 hi with hi | hi
      · cases ho : l[n]? with
        | none => simp [ho] at hi
        | some o =>
          simp only [ho, Option.map_some, Option.getD_some, List.mem_map, List.mem_filter] at hi
          obtain ⟨e, ⟨he, hb⟩, rfl⟩ := hi
          exact hcl n o ho hn e he hb
      · exact h i hi
    · exact h

theorem count_set : ∀ (xs : List Bool) (i : Nat), xs[i]? = some false → ((xs.set i true).filter (! ·)).length + 1 = (xs.filter (! ·)).length
  | [], i, h => by simp at h
  | x :: xs, 0, h => by simp at h; subst h; simp
  | x :: xs, i + 1, h => by
    have := count_set xs i (by simpa using h)
    cases x <;> simp [this]

theorem ready_mem {l : List Oper} {L : Array Bool} (hs : L.size = l.length) {i : Nat} (hi : i ∈ Region.ready .any l.toArray L) :
    ∃ (hlt : i < l.length), L.toList[i]? = some false ∧ ∀ e ∈ l[i].after.toList, Region.binds .any e = true → L.getD e.on false = true := by
  unfold Region.ready at hi
  rw [List.mem_filter] at hi
  have hlt : i < l.length := by simpa using hi.1
  have hLs : i < L.size := by omega
  have ho : l[i]? = some l[i] := List.getElem?_eq_getElem hlt
  have hcond := hi.2
  simp only [List.getElem?_toArray, ho, Option.map_some, Option.getD_some, Bool.and_eq_true] at hcond
  have hLi : L[i] = false := by
    have := hcond.1
    rw [Array.getD_eq_getD_getElem?, Array.getElem?_eq_getElem hLs, Option.getD_some] at this
    simpa using this
  refine ⟨hlt, by simp [hLs, hLi], fun e he hb => ?_⟩
  have := Array.all_eq_true_iff_forall_mem.1 hcond.2 e (by simpa using he)
  rw [hb] at this
  simpa using this

theorem ready_nil {l : List Oper} {L : Array Bool} (hs : L.size = l.length) (hall : ∀ i, i < l.length → L.getD i false = true) : Region.ready .any l.toArray L = [] := by
  unfold Region.ready
  refine List.filter_eq_nil_iff.2 fun i hi => ?_
  have hi' : i < l.length := by simpa using hi
  have hLs : i < L.size := by omega
  have h1 := hall i hi'
  rw [Array.getD_eq_getD_getElem?, Array.getElem?_eq_getElem hLs, Option.getD_some] at h1
  rw [Array.getD_eq_getD_getElem?, Array.getElem?_eq_getElem hLs, Option.getD_some, h1]
  simp

theorem getD_set {L : Array Bool} {i j : Nat} (h : (L.setIfInBounds i true).getD j false = true) (hji : j ≠ i) : L.getD j false = true := by
  rw [Array.getD_eq_getD_getElem?] at h ⊢
  rw [Array.getElem?_setIfInBounds_ne (fun e => hji e.symm)] at h
  exact h

theorem getD_set_mono {L : Array Bool} {i j : Nat} (h : L.getD j false = true) : (L.setIfInBounds i true).getD j false = true := by
  rw [Array.getD_eq_getD_getElem?] at h ⊢
  by_cases hji : i = j
  · subst hji
    rw [Array.getElem?_setIfInBounds_self]
    cases hL : L[i]? with
    | none => rw [hL] at h; cases h
    | some x => have : i < L.size := (Array.getElem?_eq_some_iff.1 hL).1; simp [this]
  · rw [Array.getElem?_setIfInBounds_ne hji]; exact h

/-- One goal an operation, the last one left out. -/
def StepInit (P : Program) (ops : Array Oper) (F : Nat → Value → World → Prop) (G : World → Prop) (R : Nat → World → World → Prop) (df : List Deferred) (fr : (Nat → Value) → Array Value) : Nat → List Oper → Prop
  | _, [] => True
  | _, [_] => True
  | i, o :: o' :: r => (∀ u w, G w → DepsHold F u w o.after.toList → wpList P ops (StepPost (StepK (R i) (F i) ⟨fr u, df⟩ o.dst w)) [o] ⟨fr u, df⟩ w) ∧ StepInit P ops F G R df fr (i + 1) (o' :: r)

theorem StepInit.get {F : Nat → Value → World → Prop} {G : World → Prop} {R : Nat → World → World → Prop} {df : List Deferred} {fr : (Nat → Value) → Array Value} : ∀ {l : List Oper} {k : Nat}, StepInit P ops F G R df fr k l → ∀ {i : Nat} {o : Oper}, i + 1 < l.length → l[i]? = some o →
    ∀ u w, G w → DepsHold F u w o.after.toList → wpList P ops (StepPost (StepK (R (k + i)) (F (k + i)) ⟨fr u, df⟩ o.dst w)) [o] ⟨fr u, df⟩ w
  | [], _, _, i, o, _, hi => by simp at hi
  | [x], k, h, i, o, hlt, hi => by simp at hlt
  | x :: y :: l, k, h, 0, o, _, hi => by simp at hi; subst hi; exact h.1
  | x :: y :: l, k, h, i + 1, o, hlt, hi => by
    have := StepInit.get h.2 (i := i) (o := o) (by simpa using hlt) (by simpa using hi)
    rw [show k + (i + 1) = k + 1 + i from by omega]
    exact this

/-- THE RULE. Fs: what each operation's value is good for; G: what holds of the world; R: what each operation may do to it. -/
theorem wp_region_facts {l : List Oper} {id : Nat} {base : List Value} {df : List Deferred} {w : World} (hm : P.follows .mixedOrders = true)
    (slots : List (Option Nat)) (Fs : List (Value → World → Prop)) (G : World → Prop) (R : Nat → World → World → Prop)
    (hsl : l.map (·.dst) = slots) (hok : slotsOk slots = true) (hd : edgesDown l = true) (hlen : (Fs.length == l.length) = true)
    (fr : (Nat → Value) → Array Value) (hfr : ∀ u, (fillFrom slots u 0 base).toArray = fr u)
    (G0 : G w.drew) (GR : ∀ i w w', G w → R i w w' → G w') (FR : StableAll G R 0 Fs)
    (step : StepAll P l.toArray (factAt Fs) G R df fr 0 l)
    (fin : ∀ u w', G w' → AllF u w' 0 Fs → Q .normal ⟨fr u, df⟩ w') :
    (Code.region id l.toArray true).wp P Q ⟨base.toArray, df⟩ w := by
  subst hsl
  have hlen' : Fs.length = l.length := by simpa using hlen
  refine wp_region_any hm ?_
  have main : ∀ (fuel : Nat) (L : Array Bool) (u : Nat → Value) (w' : World), L.size = l.length → (L.toList.filter (! ·)).length ≤ fuel → G w' → (∀ i, i < l.length → L.getD i false = true → factAt Fs i (u i) w') →
      wpAny P .any l.toArray Q fuel L ⟨fr u, df⟩ w' := by
    intro fuel
    have done : ∀ (L : Array Bool) (u : Nat → Value) (w' : World), G w' → (∀ i, i < l.length → factAt Fs i (u i) w') → Q .normal ⟨fr u, df⟩ w' := fun L u w' hG hF =>
      fin u w' hG (allF_of Fs 0 fun i hi => by rw [Nat.zero_add]; exact hF i (by omega))
    induction fuel with
    | zero =>
      intro L u w' hs hc hG hF
      have hnil : L.toList.filter (! ·) = [] := List.length_eq_zero_iff.1 (by omega)
      have hall : ∀ i, i < l.length → L.getD i false = true := by
        intro i hi
        have hLs : i < L.size := by omega
        have : L[i] ∈ L.toList := by simp
        have h2 := List.filter_eq_nil_iff.1 hnil _ this
        simp only [Array.getD, dif_pos hLs]
        simpa using h2
      exact ⟨ready_nil hs hall, done L u w' hG fun i hi => hF i hi (hall i hi)⟩
    | succ fuel ih =>
      intro L u w' hs hc hG hF
      refine ⟨fun hr => done L u w' hG fun i hi => hF i hi (all_listed hd hs hr i hi), fun i hi => ?_⟩
      obtain ⟨hlt, hLi, hdl⟩ := ready_mem hs hi
      have ho : l[i]? = some l[i] := List.getElem?_eq_getElem hlt
      have hdeps : DepsHold (factAt Fs) u w' l[i].after.toList := by
        refine depsHold_of _ fun e he hb => ?_
        have := hdl e he hb
        have hes : e.on < L.size := by
          rcases Nat.lt_or_ge e.on L.size with h | h
          · exact h
          · simp [Array.getD, Nat.not_lt.2 h] at this
        exact hF e.on (by omega) this
      have hst := step.get (i := i) (o := l[i]) ho u w' hG hdeps
      rw [Nat.zero_add] at hst
      refine wpOp_mono ?_ (wpOp_of_list (Q := Q) (by simp [ho]) hst)
      rintro a' w'' ⟨hR, v, rfl, hFi⟩
      have hfru : Act.put ⟨fr u, df⟩ l[i].dst v = ⟨fr (updU u i v), df⟩ := by
        have hsl : (l.map (·.dst))[i]? = some l[i].dst := by simp [ho]
        cases hdst : l[i].dst with
        | none =>
          rw [hdst] at hsl
          simp only [Act.put]
          rw [← hfr, ← hfr, fill_none u base i hsl v]
        | some d =>
          rw [hdst] at hsl
          simp only [Act.put]
          rw [← hfr, ← hfr, fill_put hok u base i d hsl v]
      rw [hfru]
      refine ih _ _ _ (by simp [hs]) ?_ (GR _ _ _ hG hR) fun j hj hLj => ?_
      · have := count_set L.toList i hLi
        simp only [Array.toList_setIfInBounds]
        omega
      · by_cases hji : j = i
        · subst hji; simpa [updU] using hFi
        · simp only [updU, if_neg hji]
          exact stable_of FR j i (by omega) _ _ _ hG hR (hF j hj (getD_set hLj hji))
  obtain ⟨u0, hu0⟩ := fill_self (l.map (·.dst)) base
  rw [← hu0, hfr]
  have := main l.length (Array.replicate l.length false) u0 w.drew (by simp) (by simp) G0 (fun i hi h => by simp [Array.getD, hi] at h)
  simpa using this

/-- THE RULE WHERE THE LAST OPERATION WAITS FOR ALL THE OTHERS: it may do to the world what it likes. -/
theorem wp_region_last {l : List Oper} {id : Nat} {base : List Value} {df : List Deferred} {w : World} (hm : P.follows .mixedOrders = true)
    (slots : List (Option Nat)) (Fs : List (Value → World → Prop)) (G : World → Prop) (R : Nat → World → World → Prop)
    (hsl : l.map (·.dst) = slots) (hok : slotsOk slots = true) (hd : edgesDown l = true) (hlast : lastWaits l = true) (hlen : (Fs.length + 1 == l.length) = true)
    (fr : (Nat → Value) → Array Value) (hfr : ∀ u, (fillFrom slots u 0 base).toArray = fr u)
    (G0 : G w.drew) (GR : ∀ i w w', G w → R i w w' → G w') (FR : StableAll G R 0 Fs)
    (step : StepInit P l.toArray (factAt Fs) G R df fr 0 l)
    (o : Oper) (ho : l.getLast? = some o)
    (fin : ∀ u w', G w' → AllF u w' 0 Fs → wpList P l.toArray (StepPost (normally Q)) [o] ⟨fr u, df⟩ w') :
    (Code.region id l.toArray true).wp P Q ⟨base.toArray, df⟩ w := by
  subst hsl
  have hlen' : Fs.length + 1 = l.length := by simpa using hlen
  have hol : l[l.length - 1]? = some o := by rw [← List.getLast?_eq_getElem?]; exact ho
  refine wp_region_any hm ?_
  have main : ∀ (fuel : Nat) (L : Array Bool) (u : Nat → Value) (w' : World), L.size = l.length → (L.toList.filter (! ·)).length ≤ fuel → L.getD (l.length - 1) true = false →
      (∀ i o, l[i]? = some o → L.getD i false = true → ∀ e ∈ o.after.toList, Region.binds .any e = true → L.getD e.on false = true) → G w' → (∀ i, i < l.length → L.getD i false = true → factAt Fs i (u i) w') →
      wpAny P .any l.toArray Q fuel L ⟨fr u, df⟩ w' := by
    intro fuel
    induction fuel with
    | zero =>
      intro L u w' hs hc hnl _ _ _
      exfalso
      have hnil : L.toList.filter (! ·) = [] := List.length_eq_zero_iff.1 (by omega)
      have hLs : l.length - 1 < L.size := by omega
      have : L[l.length - 1] ∈ L.toList := by simp
      have h2 := List.filter_eq_nil_iff.1 hnil _ this
      rw [Array.getD_eq_getD_getElem?, Array.getElem?_eq_getElem hLs, Option.getD_some] at hnl
      rw [hnl] at h2
      simp at h2
    | succ fuel ih =>
      intro L u w' hs hc hnl hcl hG hF
      have hLs : l.length - 1 < L.size := by omega
      have hnl' : L.getD (l.length - 1) false = false := by
        rw [Array.getD_eq_getD_getElem?, Array.getElem?_eq_getElem hLs, Option.getD_some] at hnl ⊢
        exact hnl
      refine ⟨fun hr => ?_, fun i hi => ?_⟩
      · have := all_listed hd hs hr (l.length - 1) (by omega)
        rw [hnl'] at this; cases this
      obtain ⟨hlt, hLi, hdl⟩ := ready_mem hs hi
      have ho : l[i]? = some l[i] := List.getElem?_eq_getElem hlt
      by_cases hil : i = l.length - 1
      · -- the last one: all the others have been
        have hoi : l[i] = o := by rw [← hil] at hol; rw [ho] at hol; exact Option.some.inj hol
        have hothers : ∀ j, j < l.length → j ≠ i → L.getD j false = true := by
          intro j hj hji
          have hin := List.all_eq_true.1 hlast j (List.mem_range.2 hj)
          have hcl' : ∀ k o', l[k]? = some o' → (L.setIfInBounds i true).getD k false = true → ∀ e ∈ o'.after.toList, Region.binds .any e = true → (L.setIfInBounds i true).getD e.on false = true := by
            intro k o' hk hLk e he hb
            by_cases hki : k = i
            · subst hki
              rw [ho] at hk
              cases hk
              exact getD_set_mono (hdl e he hb)
            · exact getD_set_mono (hcl k o' hk (getD_set hLk hki) e he hb)
          have := needs_listed hcl' l.length [l.length - 1] (fun k hk => by
            simp at hk; subst hk; rw [← hil]
            have : i < L.size := by omega
            rw [Array.getD_eq_getD_getElem?, Array.getElem?_setIfInBounds_self]
            simp [this]) j (by simpa using hin)
          exact getD_set this hji
        have hst := fin u w' hG (allF_of Fs 0 fun j hj => by rw [Nat.zero_add]; exact hF j (by omega) (hothers j (by omega) (by omega)))
        rw [← hoi] at hst
        refine wpOp_mono ?_ (wpOp_of_list (Q := Q) (by simp [ho]) hst)
        intro a' w'' hq
        have hall : ∀ j, j < l.length → (L.setIfInBounds i true).getD j false = true := by
          intro j hj
          by_cases hji : j = i
          · subst hji
            have : j < L.size := by omega
            rw [Array.getD_eq_getD_getElem?, Array.getElem?_setIfInBounds_self]
            simp [this]
          · exact getD_set_mono (hothers j hj hji)
        have hrn := ready_nil (l := l) (L := L.setIfInBounds i true) (by simp [hs]) hall
        cases fuel with
        | zero => exact ⟨hrn, hq⟩
        | succ fuel => exact ⟨fun _ => hq, fun j hj => by rw [hrn] at hj; cases hj⟩
      · have hdeps : DepsHold (factAt Fs) u w' l[i].after.toList := by
          refine depsHold_of _ fun e he hb => ?_
          have := hdl e he hb
          have hes : e.on < L.size := by
            rcases Nat.lt_or_ge e.on L.size with h | h
            · exact h
            · simp [Array.getD, Nat.not_lt.2 h] at this
          exact hF e.on (by omega) this
        have hst := step.get (i := i) (o := l[i]) (by omega) ho u w' hG hdeps
        rw [Nat.zero_add] at hst
        refine wpOp_mono ?_ (wpOp_of_list (Q := Q) (by simp [ho]) hst)
        rintro a' w'' ⟨hR, v, rfl, hFi⟩
        have hfru : Act.put ⟨fr u, df⟩ l[i].dst v = ⟨fr (updU u i v), df⟩ := by
          have hsl : (l.map (·.dst))[i]? = some l[i].dst := by simp [ho]
          cases hdst : l[i].dst with
          | none =>
            rw [hdst] at hsl
            simp only [Act.put]
            rw [← hfr, ← hfr, fill_none u base i hsl v]
          | some d =>
            rw [hdst] at hsl
            simp only [Act.put]
            rw [← hfr, ← hfr, fill_put hok u base i d hsl v]
        rw [hfru]
        refine ih _ _ _ (by simp [hs]) ?_ ?_ ?_ (GR _ _ _ hG hR) fun j hj hLj => ?_
        · have := count_set L.toList i hLi
          simp only [Array.toList_setIfInBounds]
          omega
        · rw [Array.getD_eq_getD_getElem?] at hnl ⊢
          rw [Array.getElem?_setIfInBounds_ne hil]
          exact hnl
        · intro k o' hk hLk e he hb
          by_cases hki : k = i
          · subst hki
            rw [ho] at hk
            cases hk
            exact getD_set_mono (hdl e he hb)
          · exact getD_set_mono (hcl k o' hk (getD_set hLk hki) e he hb)
        · by_cases hji : j = i
          · subst hji; simpa [updU] using hFi
          · simp only [updU, if_neg hji]
            exact stable_of FR j i (by omega) _ _ _ hG hR (hF j hj (getD_set hLj hji))
  obtain ⟨u0, hu0⟩ := fill_self (l.map (·.dst)) base
  rw [← hu0, hfr]
  have := main l.length (Array.replicate l.length false) u0 w.drew (by simp) (by simp) (by
    have : l.length - 1 < l.length := by omega
    simp [Array.getD, this]) (fun i o hio h => by
    have : i < l.length := (List.getElem?_eq_some_iff.1 hio).1
    simp [Array.getD, this] at h) G0 (fun i hi h => by simp [Array.getD, hi] at h)
  simpa using this
/-- One goal an operation, the last one left out; b: has s been? -/
def StepTwo (P : Program) (ops : Array Oper) (F : Nat → Value → World → Prop) (s : Nat) (anc : List Nat) (G : Bool → World → Prop) (R : Nat → World → World → Prop) (df : List Deferred) (fr : (Nat → Value) → Array Value) : Nat → List Oper → Prop
  | _, [] => True
  | _, [_] => True
  | i, o :: o' :: r => (∀ u w b, (i ∈ anc ∨ i = s → b = false) → G b w → DepsHold F u w o.after.toList → wpList P ops (StepPost (StepK (R i) (F i) ⟨fr u, df⟩ o.dst w)) [o] ⟨fr u, df⟩ w) ∧ StepTwo P ops F s anc G R df fr (i + 1) (o' :: r)

theorem StepTwo.get {F : Nat → Value → World → Prop} {s : Nat} {anc : List Nat} {G : Bool → World → Prop} {R : Nat → World → World → Prop} {df : List Deferred} {fr : (Nat → Value) → Array Value} : ∀ {l : List Oper} {k : Nat}, StepTwo P ops F s anc G R df fr k l → ∀ {i : Nat} {o : Oper}, i + 1 < l.length → l[i]? = some o →
    ∀ u w b, (k + i ∈ anc ∨ k + i = s → b = false) → G b w → DepsHold F u w o.after.toList → wpList P ops (StepPost (StepK (R (k + i)) (F (k + i)) ⟨fr u, df⟩ o.dst w)) [o] ⟨fr u, df⟩ w
  | [], _, _, i, o, _, hi => by simp at hi
  | [x], k, h, i, o, hlt, hi => by simp at hlt
  | x :: y :: l, k, h, 0, o, _, hi => by simp at hi; subst hi; exact h.1
  | x :: y :: l, k, h, i + 1, o, hlt, hi => by
    have := StepTwo.get h.2 (i := i) (o := o) (by simpa using hlt) (by simpa using hi)
    rw [show k + (i + 1) = k + 1 + i from by omega]
    exact this

/-- .. AND ONE OPERATION s AHEAD OF IT TURNS THE WORLD's WORD FROM 'G false' TO 'G true': what s waits for never runs behind it. -/
theorem wp_region_two {l : List Oper} {id : Nat} {base : List Value} {df : List Deferred} {w : World} (hm : P.follows .mixedOrders = true)
    (slots : List (Option Nat)) (Fs : List (Value → World → Prop)) (s : Nat) (anc : List Nat) (G : Bool → World → Prop) (R : Nat → World → World → Prop)
    (hsl : l.map (·.dst) = slots) (hok : slotsOk slots = true) (hd : edgesDown l = true) (hlast : lastWaits l = true) (hanc : (anc.all fun i => (needs l l.length [s]).contains i) = true) (hlen : (Fs.length + 1 == l.length) = true)
    (fr : (Nat → Value) → Array Value) (hfr : ∀ u, (fillFrom slots u 0 base).toArray = fr u)
    (G0 : G false w.drew) (GR : ∀ i b w w', G b w → R i w w' → G (b || decide (i = s)) w') (FR : StableAll (fun w => ∃ b, G b w) R 0 Fs)
    (step : StepTwo P l.toArray (factAt Fs) s anc G R df fr 0 l)
    (o : Oper) (ho : l.getLast? = some o)
    (fin : ∀ u w' b, G b w' → AllF u w' 0 Fs → wpList P l.toArray (StepPost (normally Q)) [o] ⟨fr u, df⟩ w') :
    (Code.region id l.toArray true).wp P Q ⟨base.toArray, df⟩ w := by
  subst hsl
  have hlen' : Fs.length + 1 = l.length := by simpa using hlen
  have hol : l[l.length - 1]? = some o := by rw [← List.getLast?_eq_getElem?]; exact ho
  refine wp_region_any hm ?_
  have main : ∀ (fuel : Nat) (L : Array Bool) (u : Nat → Value) (w' : World), L.size = l.length → (L.toList.filter (! ·)).length ≤ fuel → L.getD (l.length - 1) true = false →
      (∀ i o, l[i]? = some o → L.getD i false = true → ∀ e ∈ o.after.toList, Region.binds .any e = true → L.getD e.on false = true) → G (L.getD s false) w' → (∀ i, i < l.length → L.getD i false = true → factAt Fs i (u i) w') →
      wpAny P .any l.toArray Q fuel L ⟨fr u, df⟩ w' := by
    intro fuel
    induction fuel with
    | zero =>
      intro L u w' hs hc hnl _ _ _
      exfalso
      have hnil : L.toList.filter (! ·) = [] := List.length_eq_zero_iff.1 (by omega)
      have hLs : l.length - 1 < L.size := by omega
      have : L[l.length - 1] ∈ L.toList := by simp
      have h2 := List.filter_eq_nil_iff.1 hnil _ this
      rw [Array.getD_eq_getD_getElem?, Array.getElem?_eq_getElem hLs, Option.getD_some] at hnl
      rw [hnl] at h2
      simp at h2
    | succ fuel ih =>
      intro L u w' hs hc hnl hcl hG hF
      have hLs : l.length - 1 < L.size := by omega
      have hnl' : L.getD (l.length - 1) false = false := by
        rw [Array.getD_eq_getD_getElem?, Array.getElem?_eq_getElem hLs, Option.getD_some] at hnl ⊢
        exact hnl
      refine ⟨fun hr => ?_, fun i hi => ?_⟩
      · have := all_listed hd hs hr (l.length - 1) (by omega)
        rw [hnl'] at this; cases this
      obtain ⟨hlt, hLi, hdl⟩ := ready_mem hs hi
      have ho : l[i]? = some l[i] := List.getElem?_eq_getElem hlt
      by_cases hil : i = l.length - 1
      · -- the last one: all the others have been
        have hoi : l[i] = o := by rw [← hil] at hol; rw [ho] at hol; exact Option.some.inj hol
        have hothers : ∀ j, j < l.length → j ≠ i → L.getD j false = true := by
          intro j hj hji
          have hin := List.all_eq_true.1 hlast j (List.mem_range.2 hj)
          have hcl' : ∀ k o', l[k]? = some o' → (L.setIfInBounds i true).getD k false = true → ∀ e ∈ o'.after.toList, Region.binds .any e = true → (L.setIfInBounds i true).getD e.on false = true := by
            intro k o' hk hLk e he hb
            by_cases hki : k = i
            · subst hki
              rw [ho] at hk
              cases hk
              exact getD_set_mono (hdl e he hb)
            · exact getD_set_mono (hcl k o' hk (getD_set hLk hki) e he hb)
          have := needs_listed hcl' l.length [l.length - 1] (fun k hk => by
            simp at hk; subst hk; rw [← hil]
            have : i < L.size := by omega
            rw [Array.getD_eq_getD_getElem?, Array.getElem?_setIfInBounds_self]
            simp [this]) j (by simpa using hin)
          exact getD_set this hji
        have hst := fin u w' _ hG (allF_of Fs 0 fun j hj => by rw [Nat.zero_add]; exact hF j (by omega) (hothers j (by omega) (by omega)))
        rw [← hoi] at hst
        refine wpOp_mono ?_ (wpOp_of_list (Q := Q) (by simp [ho]) hst)
        intro a' w'' hq
        have hall : ∀ j, j < l.length → (L.setIfInBounds i true).getD j false = true := by
          intro j hj
          by_cases hji : j = i
          · subst hji
            have : j < L.size := by omega
            rw [Array.getD_eq_getD_getElem?, Array.getElem?_setIfInBounds_self]
            simp [this]
          · exact getD_set_mono (hothers j hj hji)
        have hrn := ready_nil (l := l) (L := L.setIfInBounds i true) (by simp [hs]) hall
        cases fuel with
        | zero => exact ⟨hrn, hq⟩
        | succ fuel => exact ⟨fun _ => hq, fun j hj => by rw [hrn] at hj; cases hj⟩
      · have hdeps : DepsHold (factAt Fs) u w' l[i].after.toList := by
          refine depsHold_of _ fun e he hb => ?_
          have := hdl e he hb
          have hes : e.on < L.size := by
            rcases Nat.lt_or_ge e.on L.size with h | h
            · exact h
            · simp [Array.getD, Nat.not_lt.2 h] at this
          exact hF e.on (by omega) this
        have hnb : i ∈ anc ∨ i = s → L.getD s false = false := by
          intro hia
          cases hLs' : L.getD s false with
          | false => rfl
          | true =>
            exfalso
            have hLi2 : L.getD i false = false := by
              have h2 : L[i]? = some false := by simpa using hLi
              rw [Array.getD_eq_getD_getElem?, h2]; rfl
            rcases hia with hia | rfl
            · have := List.all_eq_true.1 hanc i hia
              have := needs_listed hcl l.length [s] (fun k hk => by simp at hk; subst hk; exact hLs') i (by simpa using this)
              rw [hLi2] at this; cases this
            · rw [hLi2] at hLs'; cases hLs'
        have hst := step.get (i := i) (o := l[i]) (by omega) ho u w' (L.getD s false) (by rw [Nat.zero_add]; exact hnb) hG hdeps
        rw [Nat.zero_add] at hst
        refine wpOp_mono ?_ (wpOp_of_list (Q := Q) (by simp [ho]) hst)
        rintro a' w'' ⟨hR, v, rfl, hFi⟩
        have hfru : Act.put ⟨fr u, df⟩ l[i].dst v = ⟨fr (updU u i v), df⟩ := by
          have hsl : (l.map (·.dst))[i]? = some l[i].dst := by simp [ho]
          cases hdst : l[i].dst with
          | none =>
            rw [hdst] at hsl
            simp only [Act.put]
            rw [← hfr, ← hfr, fill_none u base i hsl v]
          | some d =>
            rw [hdst] at hsl
            simp only [Act.put]
            rw [← hfr, ← hfr, fill_put hok u base i d hsl v]
        rw [hfru]
        have hGn : G ((L.setIfInBounds i true).getD s false) w'' := by
          have h2 := GR _ _ _ _ hG hR
          by_cases his : i = s
          · subst his
            have hlt2 : i < L.size := by omega
            have : (L.setIfInBounds i true).getD i false = true := by
              rw [Array.getD_eq_getD_getElem?, Array.getElem?_setIfInBounds_self]; simp [hlt2]
            rw [this]
            simpa using h2
          · have : (L.setIfInBounds i true).getD s false = L.getD s false := by
              rw [Array.getD_eq_getD_getElem?, Array.getD_eq_getD_getElem?, Array.getElem?_setIfInBounds_ne his]
            rw [this]
            simpa [his] using h2
        refine ih _ _ _ (by simp [hs]) ?_ ?_ ?_ hGn fun j hj hLj => ?_
        · have := count_set L.toList i hLi
          simp only [Array.toList_setIfInBounds]
          omega
        · rw [Array.getD_eq_getD_getElem?] at hnl ⊢
          rw [Array.getElem?_setIfInBounds_ne hil]
          exact hnl
        · intro k o' hk hLk e he hb
          by_cases hki : k = i
          · subst hki
            rw [ho] at hk
            cases hk
            exact getD_set_mono (hdl e he hb)
          · exact getD_set_mono (hcl k o' hk (getD_set hLk hki) e he hb)
        · by_cases hji : j = i
          · subst hji; simpa [updU] using hFi
          · simp only [updU, if_neg hji]
            exact stable_of FR j i (by omega) _ _ _ ⟨_, hG⟩ hR (hF j hj (getD_set hLj hji))
  obtain ⟨u0, hu0⟩ := fill_self (l.map (·.dst)) base
  rw [← hu0, hfr]
  have := main l.length (Array.replicate l.length false) u0 w.drew (by simp) (by simp) (by
    have : l.length - 1 < l.length := by omega
    simp [Array.getD, this]) (fun i o hio h => by
    have : i < l.length := (List.getElem?_eq_some_iff.1 hio).1
    simp [Array.getD, this] at h) (by
    have : (Array.replicate l.length false).getD s false = false := by rw [Array.getD_eq_getD_getElem?]; by_cases h : s < l.length <;> simp [h]
    rw [this]; exact G0) (fun i hi h => by simp [Array.getD, hi] at h)
  simpa using this
end

theorem grown_trans {w w1 w2 : World} {r : Option Nat} (h : w.grownBy w1 r) (k : w1.grownBy w2 r) : w.grownBy w2 r :=
  ⟨k.os.trans h.os, k.tape.trans h.tape, k.output.trans h.output, Nat.le_trans h.size k.size, fun j hj hne => (k.block j (Nat.lt_of_lt_of_le hj h.size) hne).trans (h.block j hj hne)⟩
theorem grown_weak {w w1 : World} {r : Option Nat} (h : w.grownBy w1 none) : w.grownBy w1 r := ⟨h.os, h.tape, h.output, h.size, fun j hj _ => h.block j hj (by simp)⟩
theorem grown_refl (w : World) (r : Option Nat) : w.grownBy w r := ⟨rfl, rfl, rfl, Nat.le_refl _, fun _ _ _ => rfl⟩
theorem grown_below {w w1 : World} (h : Below w.heap.size w w1) : w.grownBy w1 none := ⟨h.os, h.tape, h.output, h.size, fun j hj _ => h.block j hj⟩
end Go.Sp
