/- Merged: What a path leads to, part by part; parts of a path that may be (the pure part of PartsX, for the seat without spyglasslaw16.ahead) · The answer's hits, step by step, are what the path leads to · spyglassref16.Select: the answer's hits · spyglassref16.Value: the value of a hit · What the answer's hits are at, and which values they have: as the path's. Conditions: those of the parts. -/
import Derived.Test.YtoknglpfchjbjaaGreatDoorHitAt
import Derived.Test.YtoknglpfchjbjaaGreatDoorRefGX
import Derived.Test.YtoknglpfchjbjaaGreatDoorRawX
import Derived.Laws.Concat
import Derived.Test.YtoknglpfchjbjaaGreatDoorRefCX
/- What a path leads to, part by part; parts of a path that may be (the pure part of PartsX, for the seat without spyglasslaw16.ahead). Plain: no program in sight. Conditions: none. -/
namespace Go.Proofs.YtoknglpfchjbjaaGreatDoor
open Go.RowKit Go.Sp Go.Maps

theorem shallow_le : ∀ {d : Nat} {T : TT}, shallow d T = true → shallow (d + 1) T = true
  | 0, _, h => by cases h
  | d + 1, T, h => by
    unfold shallow at h ⊢
    rw [List.all_eq_true] at h ⊢
    exact fun k hk => shallow_le (h k hk)
theorem shallow_at : ∀ (p : List Int) {d : Nat} {T T' : TT}, shallow d T = true → atM p T = some T' → shallow d T' = true
  | [], d, T, T', h, ha => by cases ha; exact h
  | i :: p, 0, T, T', h, _ => by cases h
  | i :: p, d + 1, T, T', h, ha => by
    simp only [atM] at ha
    split at ha
    · cases ha
    · cases hk : T.kids[i.toNat]? with
      | none => rw [hk] at ha; cases ha
      | some kid =>
        rw [hk, Option.bind_some] at ha
        unfold shallow at h
        rw [List.all_eq_true] at h
        exact shallow_le (shallow_at p (h kid (List.mem_of_getElem? hk)) ha)
theorem checkM_parts {n : Nat} {T : TT} (h : checkM n T = 0) : shallow 32 T = true ∧ (nodesM n T).length ≤ 4096 ∧ ∀ p, p < 6 → ∀ T' ∈ nodesM n T, faultB p T' = false := by
  unfold checkM at h
  split at h
  · rename_i h1; exact ⟨h1.1, h1.2, firstFault_zero h⟩
  · cases h
/-- A node of a tree without a fault is one. -/
theorem check_sub {n : Nat} {T T' : TT} {p : List Int} (ht : Thin n T) (h : checkM n T = 0) (ha : atM p T = some T') : checkM n T' = 0 := by
  obtain ⟨h1, h2, h3⟩ := checkM_parts h
  obtain ⟨_, h5, h6⟩ := at_nodes p ht ha
  unfold checkM
  rw [if_pos ⟨shallow_at p h1 ha, by omega⟩]
  exact firstFault_none fun q hq t hm => h3 q hq t (h5 t hm)

/-- With a path ahead. -/
def preN (p : List Int) (y : NX) : NX := (p ++ y.1, y.2)
def preH (p : List Int) (h : List Int × ByteArray) : List Int × ByteArray := (p ++ h.1, h.2)
theorem thoseM_pre (q : PredM) (p : List Int) (l : List NX) : thoseM q (l.map (preN p)) = (thoseM q l).map (preN p) := by
  unfold thoseM
  rw [List.length_map]
  exact (thoseL_map q (·.2) (preN p) l l.length).symm
theorem kids0_pre (s : StepM) (p ats : List Int) (kids : List TT) (k : Nat) : kids0 s (p ++ ats) kids k = (kids0 s ats kids k).map (preN p) := by
  unfold kids0
  rw [List.map_filterMap]
  congr 1
  funext i
  cases kids[i]? with
  | none => rfl
  | some t =>
    simp only [Option.bind_some]
    split
    · simp [preN]
    · rfl
theorem kidsM_pre (s : StepM) (p : List Int) (x : NX) : kidsM s (preN p x) = (kidsM s x).map (preN p) := by
  unfold kidsM
  have main : ∀ (ps : List PredM) (l : List NX), ps.foldl (fun l q => thoseM q l) (l.map (preN p)) = (ps.foldl (fun l q => thoseM q l) l).map (preN p) := by
    intro ps
    induction ps with
    | nil => exact fun _ => rfl
    | cons q ps ih =>
      intro l
      rw [List.foldl_cons, List.foldl_cons, thoseM_pre, ih]
  have e : (preN p x).2 = x.2 := rfl
  have e1 : (preN p x).1 = p ++ x.1 := rfl
  rw [e, e1, kids0_pre, main]
theorem leadM_pre : ∀ (steps : List StepM) (p : List Int) (x : NX), leadM steps (preN p x) = (leadM steps x).map (preH p)
  | [], p, x => rfl
  | s :: r, p, x => by
    unfold leadM
    split
    · rw [List.map_map]; rfl
    · rw [kidsM_pre, List.flatMap_map, List.map_flatMap]
      congr 1
      funext y
      exact leadM_pre r p y
theorem leadM_at (steps : List StepM) (ats : List Int) (T : TT) : leadM steps (ats, T) = (leadM steps ([], T)).map (preH ats) := by
  have := leadM_pre steps ats ([], T)
  rw [← this]
  unfold preN
  rw [List.append_nil]

/-- The nodes that steps lead to. -/
def leadN : List StepM → NX → List NX
  | [], x => [x]
  | s :: r, x => (kidsM s x).flatMap (leadN r)
theorem leadM_parts : ∀ (s1 : List StepM) (s2 : List StepM) (x : NX), (∀ s ∈ s1, s.isAttr = false) → leadM (s1 ++ s2) x = (leadN s1 x).flatMap (leadM s2)
  | [], s2, x, _ => by simp [leadN]
  | s :: r, s2, x, h => by
    rw [List.cons_append]
    unfold leadM leadN
    rw [if_neg (by rw [h s (List.mem_cons_self ..)]; simp), List.flatMap_assoc]
    congr 1
    funext y
    exact leadM_parts r s2 y (fun t ht => h t (List.mem_cons_of_mem _ ht))
theorem leadM_nodes (s1 : List StepM) (x : NX) (h : ∀ s ∈ s1, s.isAttr = false) : leadM s1 x = (leadN s1 x).map fun y => (y.1, ⟨#[]⟩) := by
  have := leadM_parts s1 [] x h
  rw [List.append_nil] at this
  rw [this]
  have e : (leadM [] : NX → List (List Int × ByteArray)) = fun y => [(y.1, ⟨#[]⟩)] := by funext y; rfl
  rw [e]
  induction leadN s1 x with
  | nil => rfl
  | cons y l ih => rw [List.flatMap_cons, ih]; rfl
theorem leadN_at : ∀ (s1 : List StepM) {T0 : TT} {x : NX}, atM x.1 T0 = some x.2 → ∀ y ∈ leadN s1 x, atM y.1 T0 = some y.2 ∧ y.1.length = x.1.length + s1.length
  | [], T0, x, hx, y, hy => by
    simp only [leadN, List.mem_singleton] at hy
    subst hy; exact ⟨hx, by simp⟩
  | s :: r, T0, x, hx, y, hy => by
    unfold leadN at hy
    obtain ⟨z, hz, hyz⟩ := List.mem_flatMap.1 hy
    obtain ⟨i, hk, hp⟩ := kidsM_at hz
    have hz2 : atM z.1 T0 = some z.2 := by
      rw [hp, atM_snoc, hx, Option.bind_some, if_neg (by omega)]
      exact hk
    obtain ⟨h1, h2⟩ := leadN_at r hz2 y hyz
    refine ⟨h1, ?_⟩
    rw [h2, hp, List.length_append, List.length_cons]; simp; omega

/-- One path is ahead of another one. -/
def aheadM : List Int → List Int → Bool
  | [], [] => false
  | [], _ :: _ => true
  | _ :: _, [] => false
  | x :: a, y :: b => if x = y then aheadM a b else decide (x < y)
theorem ahead_pre (p : List Int) (i j : Int) (a b : List Int) (h : i < j) : aheadM (p ++ i :: a) (p ++ j :: b) = true := by
  induction p with
  | nil => unfold aheadM; rw [List.nil_append, List.nil_append]; dsimp only; rw [if_neg (by omega)]; simpa using h
  | cons x p ih => rw [List.cons_append, List.cons_append]; unfold aheadM; rw [if_pos rfl]; exact ih
/-- What stands behind in the order of the document. -/
def HitLt (h h' : List Int × ByteArray) : Prop := aheadM h.1 h'.1 = true ∨ (h.1 = h'.1 ∧ h.2.toList < h'.2.toList)

theorem kids0_pair (s : StepM) (ats : List Int) (kids : List TT) : ∀ k, k ≤ kids.length → (kids0 s ats kids k).Pairwise (fun y z => ∃ i j : Nat, i < j ∧ y.1 = ats ++ [(i : Int)] ∧ z.1 = ats ++ [(j : Int)]) ∧ ∀ y ∈ kids0 s ats kids k, ∃ i : Nat, i < k ∧ y.1 = ats ++ [(i : Int)] := by
  intro k
  induction k with
  | zero => intro _; simp [kids0]
  | succ k ih =>
    intro hk
    obtain ⟨h1, h2⟩ := ih (by omega)
    rw [kids0_succ s ats kids k (by omega)]
    constructor
    · rw [List.pairwise_append]
      refine ⟨h1, by split <;> simp, fun y hy z hz => ?_⟩
      obtain ⟨i, hi, he⟩ := h2 y hy
      split at hz
      · rw [List.mem_singleton] at hz
        subst hz
        exact ⟨i, k, hi, he, rfl⟩
      · cases hz
    · intro y hy
      rcases List.mem_append.1 hy with hy | hy
      · obtain ⟨i, hi, he⟩ := h2 y hy
        exact ⟨i, by omega, he⟩
      · split at hy
        · rw [List.mem_singleton] at hy
          subst hy
          exact ⟨k, by omega, rfl⟩
        · cases hy
theorem kidsM_pair (s : StepM) (x : NX) : (kidsM s x).Pairwise (fun y z => ∃ i j : Nat, i < j ∧ y.1 = x.1 ++ [(i : Int)] ∧ z.1 = x.1 ++ [(j : Int)]) :=
  List.Pairwise.sublist (kidsM_sub0 s x) (kids0_pair s x.1 x.2.kids x.2.kids.length (Nat.le_refl _)).1

theorem rises_pair : ∀ {l : List (ByteArray × ByteArray)}, rises l = true → l.Pairwise (fun a b => a.1.toList < b.1.toList)
  | [], _ => List.Pairwise.nil
  | a :: l, h => List.Pairwise.cons (fun x hx => rises_lt h x hx) (rises_pair (rises_tail h))

/-- What steps lead to stands in the order of the document, each once. -/
theorem leadM_pair : ∀ (steps : List StepM) (n : Nat) (x : NX), Thin n x.2 → (∀ t ∈ nodesM n x.2, rises t.attrs = true) → (leadM steps x).Pairwise HitLt
  | [], n, x, _, _ => List.pairwise_singleton _ _
  | s :: r, 0, x, h, _ => h.elim
  | s :: r, n + 1, x, ht, hr => by
    unfold leadM
    split
    · rw [List.pairwise_map]
      refine (List.Pairwise.filter _ (rises_pair (hr x.2 (List.mem_cons_self ..)))).imp fun h => ?_
      exact .inr ⟨rfl, h⟩
    · rw [List.pairwise_flatMap]
      refine ⟨fun y hy => ?_, (kidsM_pair s x).imp fun {y z} h a ha b hb => ?_⟩
      · have hy2 := (kidsM_mem hy).1
        exact leadM_pair r n y (ht.2 y.2 hy2) fun t hm => hr t (List.mem_cons_of_mem _ (List.mem_flatMap.2 ⟨y.2, hy2, hm⟩))
      · obtain ⟨i, j, hij, h1, h2⟩ := h
        obtain ⟨y1, y2⟩ := y
        obtain ⟨z1, z2⟩ := z
        dsimp only at h1 h2 ha hb
        subst h1 h2
        rw [leadM_at] at ha hb
        obtain ⟨a', _, rfl⟩ := List.mem_map.1 ha
        obtain ⟨b', _, rfl⟩ := List.mem_map.1 hb
        refine .inl ?_
        unfold preH
        dsimp only
        rw [List.append_assoc, List.append_assoc, List.singleton_append, List.singleton_append]
        exact ahead_pre _ _ _ _ _ (by omega)

/-- A part of a path without a fault has none. -/
theorem pcheck_all {l : List StepM} : pcheckM l = 0 ↔ l.length ≤ 32 ∧ (∀ s ∈ l, manyP s = false) ∧ formedM l = true ∧ (∀ s ∈ l, namedS s = true) ∧ ∀ s ∈ l, writtenS s = true := by
  unfold pcheckM
  constructor
  · intro h
    by_cases h1 : (decide (32 < l.length) || l.any manyP) = true
    · rw [if_pos h1] at h; simp at h
    rw [if_neg h1] at h
    by_cases h2 : formedM l = false
    · rw [if_pos h2] at h; simp at h
    rw [if_neg h2] at h
    by_cases h3 : (l.any fun s => !namedS s) = true
    · rw [if_pos h3] at h; simp at h
    rw [if_neg h3] at h
    by_cases h4 : (l.any fun s => !writtenS s) = true
    · rw [if_pos h4] at h; simp at h
    simp only [Bool.not_eq_true, Bool.or_eq_false_iff, decide_eq_false_iff_not, List.any_eq_false] at h1 h3 h4
    exact ⟨by omega, fun s hs => by simpa using h1.2 s hs, by simpa using h2, fun s hs => by simpa using h3 s hs, fun s hs => by simpa using h4 s hs⟩
  · rintro ⟨h1, h2, h3, h4, h5⟩
    rw [if_neg (by simp only [Bool.not_eq_true, Bool.or_eq_false_iff, decide_eq_false_iff_not, List.any_eq_false]; exact ⟨by omega, fun s hs => by simp [h2 s hs]⟩), if_neg (by rw [h3]; simp),
      if_neg (by simp only [Bool.not_eq_true, List.any_eq_false]; exact fun s hs => by simp [h4 s hs]), if_neg (by simp only [Bool.not_eq_true, List.any_eq_false]; exact fun s hs => by simp [h5 s hs])]
theorem formed_iff {l : List StepM} : formedM l = true ↔ ∀ k (hk : k < l.length), okStep (k + 1 == l.length) l[k] = true := by
  unfold formedM
  rw [List.all_eq_true]
  constructor
  · intro h k hk
    have := h k (List.mem_range.2 hk)
    rwa [List.getElem?_eq_getElem hk, Option.map_some, Option.getD_some] at this
  · intro h k hk
    have hk' := List.mem_range.1 hk
    rw [List.getElem?_eq_getElem hk', Option.map_some, Option.getD_some]
    exact h k hk'
theorem okStep_last {s : StepM} (b : Bool) (h : okStep false s = true) : okStep b s = true ∧ s.isAttr = false := by
  unfold okStep at h ⊢
  rw [Bool.and_eq_true] at h ⊢
  obtain ⟨h1, h2⟩ := h
  cases ha : s.isAttr
  · exact ⟨⟨by simp, h2⟩, rfl⟩
  · rw [ha] at h1; simp at h1
theorem pcheck_take {l : List StepM} (h : pcheckM l = 0) (k : Nat) (hk : k ≤ l.length) : pcheckM (l.take k) = 0 ∧ (k < l.length → ∀ s ∈ l.take k, s.isAttr = false) := by
  obtain ⟨h1, h2, h3, h4, h5⟩ := pcheck_all.1 h
  have hm : ∀ s ∈ l.take k, s ∈ l := fun s hs => List.mem_of_mem_take hs
  rw [formed_iff] at h3
  refine ⟨pcheck_all.2 ⟨by rw [List.length_take]; omega, fun s hs => h2 s (hm s hs), ?_, fun s hs => h4 s (hm s hs), fun s hs => h5 s (hm s hs)⟩, fun hlt s hs => ?_⟩
  · rw [formed_iff]
    intro i hi
    rw [List.length_take, Nat.min_eq_left hk] at hi ⊢
    rw [List.getElem_take]
    have h6 := h3 i (by omega)
    by_cases he : i + 1 = l.length
    · have e1 : (i + 1 == l.length) = true := by simpa using he
      have e2 : (i + 1 == k) = true := by simp; omega
      rw [e1] at h6; rw [e2]; exact h6
    · have e1 : (i + 1 == l.length) = false := by simpa using he
      rw [e1] at h6
      exact (okStep_last _ h6).1
  · obtain ⟨i, hi, rfl⟩ := List.getElem_of_mem hs
    rw [List.length_take, Nat.min_eq_left hk] at hi
    rw [List.getElem_take]
    have h6 := h3 i (by omega)
    have e1 : (i + 1 == l.length) = false := by simp; omega
    rw [e1] at h6
    exact (okStep_last false h6).2
theorem pcheck_drop {l : List StepM} (h : pcheckM l = 0) (k : Nat) : pcheckM (l.drop k) = 0 := by
  obtain ⟨h1, h2, h3, h4, h5⟩ := pcheck_all.1 h
  have hm : ∀ s ∈ l.drop k, s ∈ l := fun s hs => List.mem_of_mem_drop hs
  rw [formed_iff] at h3
  refine pcheck_all.2 ⟨by rw [List.length_drop]; omega, fun s hs => h2 s (hm s hs), ?_, fun s hs => h4 s (hm s hs), fun s hs => h5 s (hm s hs)⟩
  rw [formed_iff]
  intro i hi
  rw [List.length_drop] at hi ⊢
  rw [List.getElem_drop]
  have h6 := h3 (k + i) (by omega)
  have e : (k + i + 1 == l.length) = (i + 1 == l.length - k) := by
    rw [Bool.eq_iff_iff, beq_iff_eq, beq_iff_eq]; omega
  rw [e] at h6; exact h6

end Go.Proofs.YtoknglpfchjbjaaGreatDoor

/- The answer's hits, step by step, are what the path leads to. Plain: no program in sight. Conditions: steps to attributes stand last. -/
namespace Go.Proofs.YtoknglpfchjbjaaGreatDoor
open Go.RowKit Go.Sp Go.Maps

/-- The answer's hits. -/
def selM (steps : List StepM) (l : List RX) : List RX := steps.foldl (fun l s => l.flatMap (goesM s)) l
def projR (x : RX) : List Int × ByteArray := (x.1, x.2.2)

theorem selM_next (steps : List StepM) (l : List RX) {k : Nat} (h : k < steps.length) : selM (steps.take (k + 1)) l = (selM (steps.take k) l).flatMap (goesM steps[k]) := by
  unfold selM
  rw [List.take_succ_eq_append_getElem h, List.foldl_append]; rfl

theorem kidsG_flat (s : StepM) (hs : s.isAttr = false) (l : List NX) : (kidsG l).flatMap (goesM s) = kidsG (l.flatMap (kidsM s)) := by
  unfold kidsG
  rw [List.flatMap_map, List.map_flatMap]
  congr 1
  funext y
  unfold goesM
  rw [hs, if_neg (by decide)]
theorem selM_kids : ∀ (steps : List StepM) (l : List NX), (∀ s ∈ steps, s.isAttr = false) → selM steps (kidsG l) = kidsG (l.flatMap (leadN steps))
  | [], l, _ => by
    show kidsG l = kidsG (l.flatMap fun x => [x])
    rw [List.flatMap_singleton']
  | s :: r, l, h => by
    show selM r ((kidsG l).flatMap (goesM s)) = _
    rw [kidsG_flat s (h s (List.mem_cons_self ..)), selM_kids r _ (fun t ht => h t (List.mem_cons_of_mem _ ht)), List.flatMap_assoc]
    rfl

/-- Before the last step all hits are nodes. -/
theorem sel_before {steps : List StepM} (hp : pcheckM steps = 0) {k : Nat} (hk : k < steps.length) (T : TT) : selM (steps.take k) [([], T, ⟨#[]⟩)] = kidsG (leadN (steps.take k) ([], T)) := by
  have h := (pcheck_take hp k (by omega)).2 hk
  have h2 := selM_kids (steps.take k) [([], T)] h
  rw [List.flatMap_singleton] at h2
  exact h2

theorem goes_proj (s : StepM) (x : NX) : (goesM s (x.1, x.2, ⟨#[]⟩)).map projR = leadM [s] x := by
  unfold goesM leadM
  cases hs : s.isAttr
  · rw [if_neg (by decide), if_neg (by decide), List.map_map]
    have : ∀ l : List NX, l.map (projR ∘ fun y => (y.1, y.2, ⟨#[]⟩)) = l.flatMap (leadM []) := by
      intro l
      induction l with
      | nil => rfl
      | cons y l ih => rw [List.map_cons, List.flatMap_cons, ih]; rfl
    exact this _
  · rw [if_pos rfl, if_pos rfl, List.map_map]
    rfl

theorem sel_lead {steps : List StepM} (hp : pcheckM steps = 0) (T : TT) : ∀ k, k ≤ steps.length → (selM (steps.take k) [([], T, ⟨#[]⟩)]).map projR = leadM (steps.take k) ([], T) := by
  intro k hk
  cases k with
  | zero => rfl
  | succ k =>
    have hlt : k < steps.length := by omega
    rw [selM_next _ _ hlt, sel_before hp hlt, List.take_succ_eq_append_getElem hlt, leadM_parts _ _ _ ((pcheck_take hp k (by omega)).2 hlt)]
    unfold kidsG
    rw [List.flatMap_map, List.map_flatMap]
    congr 1
    funext y
    exact goes_proj _ y

/-- What is asked of a node. -/
structure NodeOk (m : Nat) (T : TT) : Prop where
  kids : ∀ t ∈ nodesM m T, t.kids.length ≤ 4096
  attrs : ∀ t ∈ nodesM m T, t.attrs.length ≤ 1048576
  rise : ∀ t ∈ nodesM m T, rises t.attrs = true
  thin : Thin m T
  few : (nodesM m T).length ≤ 4096

theorem self_node {m : Nat} {T : TT} (h : Thin m T) : T ∈ nodesM m T := by
  cases m with
  | zero => exact h.elim
  | succ m => exact List.mem_cons_self ..
theorem kid_node {m : Nat} {T t : TT} (h : Thin m T) (ht : t ∈ T.kids) : t ∈ nodesM m T := by
  cases m with
  | zero => exact h.elim
  | succ m => exact List.mem_cons_of_mem _ (List.mem_flatMap.2 ⟨t, ht, self_node (h.2 t ht)⟩)

theorem sel_node {m : Nat} {T : TT} {steps : List StepM} (hp : pcheckM steps = 0) (hn : NodeOk m T) {k : Nat} (hk : k < steps.length) {x : RX} (hx : x ∈ selM (steps.take k) [([], T, ⟨#[]⟩)]) :
    x.1.length ≤ 32 ∧ x.2.1.kids.length ≤ 4096 ∧ x.2.1.attrs.length ≤ 1048576 ∧ ∀ t ∈ x.2.1.kids, rises t.attrs = true := by
  rw [sel_before hp hk] at hx
  obtain ⟨y, hy, rfl⟩ := List.mem_map.1 hx
  obtain ⟨h1, h2⟩ := leadN_at (steps.take k) (T0 := T) (x := ([], T)) rfl y hy
  obtain ⟨h3, h4, -⟩ := at_nodes y.1 hn.thin h1
  have hl := (pcheck_all.1 hp).1
  refine ⟨?_, hn.kids _ (h4 _ (self_node h3)), hn.attrs _ (h4 _ (self_node h3)), fun t ht => hn.rise _ (h4 _ (kid_node h3 ht))⟩
  dsimp only
  rw [h2, List.length_take]
  simp only [List.length_nil]
  omega

theorem sel_few {m : Nat} {T : TT} {steps : List StepM} (hp : pcheckM steps = 0) (hn : NodeOk m T) {k : Nat} (hk : k ≤ steps.length) : (selM (steps.take k) [([], T, ⟨#[]⟩)]).length ≤ 4294967296 := by
  have h := congrArg List.length (sel_lead hp T k hk)
  rw [List.length_map] at h
  rw [h]
  exact Nat.le_trans (leadM_length rfl _ m [] T hn.thin) (Nat.mul_le_mul_right 1048576 hn.few)
theorem rflat_prefix {α β : Type} (f : α → List β) (l : List α) (k : Nat) : ((l.take k).flatMap f).length ≤ (l.flatMap f).length := by
  conv => rhs; rw [← List.take_append_drop k l, List.flatMap_append, List.length_append]
  omega
theorem rflat_nx {α β : Type} (f : α → List β) {l : List α} {k : Nat} (h : k < l.length) : (l.take (k + 1)).flatMap f = (l.take k).flatMap f ++ f l[k] := by
  rw [List.take_succ_eq_append_getElem h, List.flatMap_append]; simp

end Go.Proofs.YtoknglpfchjbjaaGreatDoor

/- spyglassref16.Select: the answer's hits. Conditions: a path without a fault; a tree of up to 4096 nodes whose attributes' names rise. -/
namespace Go.Proofs.YtoknglpfchjbjaaGreatDoor
open Go.RowKit Go.Sp Go.Maps

theorem grown_below {w w' : World} (h : Below w.heap.size w w') : w.grownBy w' none := ⟨h.os, h.tape, h.output, h.size, fun b hb _ => h.block b hb⟩
theorem below_grown {w w' : World} (h : w.grownBy w' none) : Below w.heap.size w w' := ⟨h.os, h.tape, h.output, h.size, fun b hb => h.block b hb (by simp)⟩
/-- A row stays while another one grows. -/
theorem HitsR.grown {n : Nat} {F : Nat → Prop} {base : Nat} {w w' : World} {v : Value} {L : List (List Value × RX)} {r : Option Nat} (h : HitsR n F base w v L) (hg : w.grownBy w' r) (hr : ∀ g, r = some g → g < base ∧ ¬ F g) (hF : ∀ b, F b → b < w.heap.size) : HitsR n F base w' v L := by
  have hk : ∀ b, (F b ∨ Rest base w v b) → w'.heap[b]? = w.heap[b]? := by
    rintro b (hb | ⟨h1, hb, hne⟩)
    · exact hg.block b (hF b hb) (fun e => (hr b e.symm).2 hb)
    · exact hg.block b hb.lt (fun e => by have := (hr b e.symm).1; omega)
  refine ⟨own_same h.row (fun g hg' => hg.block g (h.row.lt g hg').2 (fun e => by have := (hr g e.symm).1; have := (h.row.lt g hg').1; omega)), fun x hx => ?_⟩
  refine (rhitS n).mono ((rhitS n).frame (h.els x hx) hk) (fun b hb' => ?_)
  rcases hb' with hb' | ⟨h1, ⟨o, h2, h3⟩, h4⟩
  · exact .inl hb'
  · exact .inr ⟨h1, ⟨o, (hk b (.inr ⟨h1, ⟨o, h2, h3⟩, h4⟩)).trans h2, h3⟩, h4⟩
/-- A row over another one is one of its own. -/
theorem HitsR.lift {n : Nat} {F : Nat → Prop} {base : Nat} {w0 w : World} {v0 v : Value} {L : List (List Value × RX)} (h : HitsR n (fun b => F b ∨ Rest base w0 v0 b) w0.heap.size w v L) (hb : Below w0.heap.size w0 w) (hbase : base ≤ w0.heap.size) : HitsR n F base w v L := by
  refine ⟨Joins.ownsRow_le h.row hbase, fun x hx => (rhitS n).mono (h.els x hx) (fun b hb' => ?_)⟩
  rcases hb' with (hb' | ⟨h1, ⟨o, h2, h3⟩, h4⟩) | ⟨h1, h2, h3⟩
  · exact .inl hb'
  · have hlt := (Array.getElem?_eq_some_iff.1 h2).1
    exact .inr ⟨h1, ⟨o, (hb.block b hlt).trans h2, h3⟩, fun e => by have := (h.row.lt b e.symm).1; omega⟩
  · exact .inr ⟨by omega, h2, h3⟩

theorem hits_one {n : Nat} {F : Nat → Prop} {base : Nat} {w : World} {v : Value} {L : List (List Value × RX)} (h : HitsR n F base w v L) : ∀ u ∈ L.flatMap (·.1), u.oneCell' = true := by
  intro u hu
  obtain ⟨x, hx, hu⟩ := List.mem_flatMap.1 hu
  obtain ⟨a, c, aa, ca, ka, ck, e, -, -⟩ := rhit_parts (h.els x hx)
  rw [e] at hu
  simp at hu
  rcases hu with rfl | rfl | rfl | rfl | rfl | rfl <;> rfl
theorem hits_src {n : Nat} {F : Nat → Prop} {base : Nat} {w : World} {v : Value} {L : List (List Value × RX)} (h : HitsR n F base w v L) : ∃ a c, v = .slice a L.length c ∧ (L.length ≠ 0 → ∃ b, a = some b ∧ ∀ j u, (L.flatMap (·.1))[j]? = some u → w.cell? (b.add j) = some u) := by
  rcases Joins.ownsRow_forms h.row with ⟨hv, hk0⟩ | ⟨g1, cap1, hv⟩
  · exact ⟨none, 0, by rw [hk0]; exact hv, fun h => absurd hk0 h⟩
  · refine ⟨some ⟨g1, 0, none⟩, cap1, hv, fun _ => ⟨_, rfl, fun j u hj => ?_⟩⟩
    have hlt := (List.getElem?_eq_some_iff.1 hj).1
    have hlen := h.row.1
    have hadd : (⟨g1, 0, none⟩ : Addr).add j = ⟨g1, j, none⟩ := by unfold Addr.add; split <;> simp_all
    have hr := h.row
    rw [hv] at hr
    rw [hadd, hr.cellAt _ (by omega)]
    exact hj

/-- The row of hits and what goes behind it. -/
def GoesOut (m : Nat) (F : Nat → Prop) (base : Nat) (L : List (List Value × RX)) (l : List RX) (v : Value) (w : World) : Prop := ∃ L9, HitsR m F base w v (L ++ L9) ∧ L9.map (·.2) = l

set_option maxRecDepth 100000 in
set_option maxHeartbeats 16000000 in
theorem rselect_any (m : Nat) (F : Nat → Prop) (T : TT) (aa ka : Option Addr) (ca ck : Nat) (steps : List StepM) (sa : Option Addr) (sc : Nat) (w : World) (htr : (treeS m).rep F w [.string T.label, .string T.text, .slice aa T.attrs.length ca, .slice ka T.kids.length ck] T) (hsl : Sl pstepS F w sa steps) (hF : ∀ b, F b → b < w.heap.size)
    (hp : pcheckM steps = 0) (hn : NodeOk m T) :
    Calls Tryz.prog 15 #[.agg #[.string T.label, .string T.text, .slice aa T.attrs.length ca, .slice ka T.kids.length ck], .slice sa steps.length sc] w fun e w' =>
      ∃ v' L, e = .returned v' ∧ HitsR m F w.heap.size w' v' L ∧ L.map (·.2) = selM steps [([], T, ⟨#[]⟩)] ∧ Below w.heap.size w w' := by
  obtain ⟨i0, hi0, hz0, hz1, hz2⟩ := info_parts infoRHit
  obtain ⟨w0, hw0⟩ : ∃ w0, w0 = (w.alloc (.cells #[.string T.label, .string T.text, .slice aa T.attrs.length ca, .slice ka T.kids.length ck] 29)).alloc (.cells #[.slice none 0 0, .string T.label, .string T.text, .slice aa T.attrs.length ca, .slice ka T.kids.length ck, .string ⟨#[]⟩] 55) := ⟨_, rfl⟩
  have hb0 : Below w.heap.size w w0 := by rw [hw0]; exact ((Below.refl _ _).alloc (Nat.le_refl _) _).alloc (by simp) _
  have hs0 : w.heap.size + 2 ≤ w0.heap.size := by rw [hw0]; simp
  have hH0 : w0.heap[w.heap.size + 1]? = some (.cells #[.slice none 0 0, .string T.label, .string T.text, .slice aa T.attrs.length ca, .slice ka T.kids.length ck, .string ⟨#[]⟩] 55 (0, 0)) := by
    rw [hw0]; have := heap_alloc_new (w.alloc (.cells #[.string T.label, .string T.text, .slice aa T.attrs.length ca, .slice ka T.kids.length ck] 29)) (.cells #[.slice none 0 0, .string T.label, .string T.text, .slice aa T.attrs.length ca, .slice ka T.kids.length ck, .string ⟨#[]⟩] 55); simpa using this
  have hstart : HitsR m F w.heap.size w0 (.slice (some ⟨w.heap.size + 1, 0, none⟩) 1 1) [([.slice none 0 0, .string T.label, .string T.text, .slice aa T.attrs.length ca, .slice ka T.kids.length ck, .string ⟨#[]⟩], ([], T, ⟨#[]⟩))] := by
    refine ⟨⟨rfl, .inr ⟨w.heap.size + 1, 1, _, rfl, by omega, hH0, Nat.le_refl _, by decide, rfl, rfl⟩⟩, fun x hx => ?_⟩
    rw [List.mem_singleton] at hx
    subst hx
    exact (rhitS m).mono (F := F) (rhit_mk (c := 0) (ats := []) Sl.nil ((treeS m).frame htr (fun b hb => hb0.block b (hF b hb)))) (fun b hb => .inl hb)
  have HST := Sp.hid hstart
  have HB0 := Sp.hid hb0
  have HW0 := Sp.hid hw0
  have HSL := Sp.hid (fun W (hW : Below w.heap.size w W) => hsl.below hF hW)
  have HF := Sp.hid hF
  have HP := Sp.hid hp
  have HN := Sp.hid hn
  have hst := (pcheck_all.1 hp).1
  have hpr : ∀ s ∈ steps, ∀ q ∈ s.preds, formedP q = true := by
    intro s hs
    obtain ⟨i, hi, rfl⟩ := List.getElem_of_mem hs
    have := formed_all.1 (pcheck_all.1 hp).2.2.1 i hi
    unfold okStep at this
    rw [Bool.and_eq_true, List.all_eq_true] at this
    exact this.2
  have hpl : ∀ s ∈ steps, s.preds.length ≤ 8 := by
    intro s hs
    have := (pcheck_all.1 hp).2.1 s hs
    unfold manyP at this
    simpa using this
  have HPR := Sp.hid hpr
  have HPL := Sp.hid hpl
  clear htr hsl hF hp hn hb0 hH0 hstart hpr hpl
  go_enter Tryz.func15, Tryz.ntmps15
  go_wp2
  rw [← HW0.out]
  clear hw0
  go_loopw [5, 6] (fun v i wr => ∃ (k : Nat) (L : List (List Value × RX)), k ≤ steps.length ∧ i = .int .i64 k ∧ HitsR m F w.heap.size wr v L ∧ L.map (·.2) = selM (steps.take k) [([], T, ⟨#[]⟩)] ∧ Below w.heap.size w wr) (fun _ i _ => steps.length - (intOf i).toNat)
  case atStart => exact ⟨0, _, Nat.zero_le _, rfl, HST.out, rfl, HB0.out⟩
  case round =>
    clear HST
    obtain ⟨k, L, hk, rfl, hnr, hL, hb⟩ := hrel
    have hsw := hb.size
    have HNR := Sp.hid hnr
    have HL := Sp.hid hL
    have HB := Sp.hid hb
    obtain ⟨vo, hvo⟩ : ∃ vo : Value, vo = u5 := ⟨_, rfl⟩
    subst hvo
    by_cases hlt : k < steps.length
    · obtain ⟨wo, rfl⟩ : ∃ wo : World, wo = wr := ⟨_, rfl⟩
      obtain ⟨ao, co, hvo2⟩ : ∃ ao co, vo = .slice ao L.length co := by
        rcases Joins.ownsRow_forms hnr.row with ⟨hv, hk0⟩ | ⟨g1, cap1, hv⟩
        · exact ⟨_, _, by rw [hk0]; exact hv⟩
        · exact ⟨_, _, hv⟩
      have HVO := Sp.hid hvo2
      have hlf : L.length ≤ 4294967296 := by
        have h1 := sel_few HP.out HN.out hk
        rw [← hL, List.length_map] at h1; exact h1
      have hnx := selM_next steps [([], T, (⟨#[]⟩ : ByteArray))] hlt
      rw [← hL] at hnx
      have hlf2 : ((L.map (·.2)).flatMap (goesM steps[k])).length ≤ 4294967296 := by
        rw [← hnx]
        exact sel_few HP.out HN.out (by omega)
      have HNX := Sp.hid hnx
      have HLF2 := Sp.hid hlf2
      have HNODE := Sp.hid (fun x (hx : x ∈ L.map (·.2)) => sel_node HP.out HN.out hlt (x := x) (by rw [← hL]; exact hx))
      obtain ⟨s, hs⟩ : ∃ s, s = steps[k] := ⟨_, rfl⟩
      have HSK := Sp.hid hs
      have HPRK := Sp.hid (HPR.out _ (List.getElem_mem hlt))
      have HPLK := Sp.hid (HPL.out _ (List.getElem_mem hlt))
      rw [← hs] at HNX HLF2 HPRK HPLK
      have HROW := Sp.hid hnr.row
      have HELS := Sp.hid hnr.els
      have HFF := Sp.hid (show ∀ b, (F b ∨ Rest w.heap.size wo vo b) → b < wo.heap.size from fun b hb' => by
        rcases hb' with hb' | ⟨_, hb', _⟩
        · have := HF.out b hb'; omega
        · exact hb'.lt)
      obtain ⟨F', hF'⟩ : ∃ F', F' = fun b => F b ∨ Rest w.heap.size wo vo b := ⟨_, rfl⟩
      have HFE := Sp.hid hF'
      have HFS := Sp.hid (show ∀ b, F b → F' b from fun b hb => by rw [hF']; exact .inl hb)
      rw [hvo2] at HROW ⊢
      have hels : ∀ x ∈ L, (rhitS m).rep F' wo x.1 x.2 := by rw [hF']; exact HELS.out
      rw [← show F' = fun b => F b ∨ Rest w.heap.size wo vo b from hF'] at HELS
      have hff : ∀ b, F' b → b < wo.heap.size := by rw [hF']; exact HFF.out
      clear HFF HELS
      have HELS := Sp.hid hels
      have HFF := Sp.hid hff
      clear hnr hL hb hnx hlf2 hvo2 hs hF' hels hff
      go_wp2
      go_loopw [7, 8] (fun v i wr => ∃ (j : Nat) (L1 : List (List Value × RX)), j ≤ L.length ∧ i = .int .i64 j ∧ HitsR m F' wo.heap.size wr v L1 ∧ L1.map (·.2) = ((L.map (·.2)).take j).flatMap (goesM s) ∧ Below wo.heap.size wo wr) (fun _ i _ => L.length - (intOf i).toNat)
      case atStart => exact ⟨0, [], Nat.zero_le _, rfl, HitsR.nil _ _ _ _, rfl, Below.refl _ _⟩
      case round =>
        obtain ⟨j, L1, hj, rfl, hnr, hL1, hbi⟩ := hrel
        have hsi := hbi.size
        have HNRI := Sp.hid hnr
        have HL1 := Sp.hid hL1
        have HBI := Sp.hid hbi
        have HBWI := Sp.hid (HB.out.trans (hbi.mono hsw) : Below w.heap.size w wr)
        obtain ⟨vn, hvn⟩ : ∃ vn : Value, vn = u7 := ⟨_, rfl⟩
        subst hvn
        by_cases hjt : j < L.length
        · have hjm : j < (L.map (·.2)).length := by rw [List.length_map]; exact hjt
          have hnx2 := rflat_nx (goesM s) hjm
          have hpre := rflat_prefix (goesM s) (L.map (·.2)) (j + 1)
          obtain ⟨g, cg, hg⟩ := Joins.ownsRow_form HROW.out (by omega : 0 < L.length)
          simp only [Value.slice.injEq, true_and] at hg
          obtain ⟨rfl, rfl⟩ := hg
          have hgl : g < wo.heap.size := (HROW.out.lt g rfl).2
          have hlen6 : ∀ x ∈ L, x.1.length = 6 := fun x hx => (rhitS m).len (HELS.out x hx)
          have hcell0 : ∀ i, i < 6 → wo.cell? ⟨g, j * 6 + i, none⟩ = (L[j].1)[i]? := fun i hi => by
            rw [HROW.out.cellAt _ (by omega), flat_at hlen6 j i hjt hi]
          have hel := HELS.out L[j] (List.getElem_mem hjt)
          obtain ⟨hx1, hx2, hx3, hx4⟩ := HNODE.out L[j].2 (List.mem_map_of_mem (List.getElem_mem hjt))
          have hmj : (L.map (·.2))[j] = L[j].2 := by rw [List.getElem_map]
          rw [hmj] at hnx2
          obtain ⟨x, hx⟩ : ∃ x, x = L[j] := ⟨_, rfl⟩
          rw [← hx] at hel hcell0 hx1 hx2 hx3 hx4 hnx2
          obtain ⟨xv, xat, xT, xn⟩ := x
          dsimp only at hel hcell0 hx1 hx2 hx3 hx4 hnx2
          obtain ⟨xa, xc, xaa, xca, xka, xck, rfl, hints, htree⟩ := rhit_parts hel
          dsimp only at hcell0 hints htree
          obtain ⟨b, o, pa, pc, rfl, fb, -, hpsl, c0, c1, c2⟩ := pstep_cells (HSL.out wr HBWI.out) k hlt
          have hbl : b < wr.heap.size := World.block_lt_of_cell? _ _ c0
          rw [← HSK.out] at hpsl c0 c1 c2
          have hgr : g < wr.heap.size := by omega
          have HD := Sp.hid (And.intro ((hbi.cell (p := ⟨g, j * 6 + 0, none⟩) hgl).trans (hcell0 0 (by decide))) (And.intro ((hbi.cell (p := ⟨g, j * 6 + 1, none⟩) hgl).trans (hcell0 1 (by decide))) (And.intro ((hbi.cell (p := ⟨g, j * 6 + 2, none⟩) hgl).trans (hcell0 2 (by decide))) (And.intro ((hbi.cell (p := ⟨g, j * 6 + 3, none⟩) hgl).trans (hcell0 3 (by decide))) (And.intro ((hbi.cell (p := ⟨g, j * 6 + 4, none⟩) hgl).trans (hcell0 4 (by decide))) ((hbi.cell (p := ⟨g, j * 6 + 5, none⟩) hgl).trans (hcell0 5 (by decide))))))))
          simp only [Nat.add_zero, List.getElem?_cons_zero, List.getElem?_cons_succ] at HD
          have HDP := Sp.hid (And.intro c0 (And.intro c1 c2))
          have HG := Sp.hid (fun Y (hY : Below wr.heap.size wr Y) => goes_any m F' s pa pc xat xa xc xT xn xaa xka xca xck Y
            (((hpsl.frame (fun b hb' => hY.block b (by have := HF.out b hb'; have := HBWI.out.size; omega))).mono HFS.out)) (hints.frame (fun b hb' => (hbi.trans (hY.mono hsi)).block b (HFF.out b hb'))) ((treeS m).frame htree (fun b hb' => (hbi.trans (hY.mono hsi)).block b (HFF.out b hb')))
            (fun b hb' => by have := HFF.out b hb'; have := hY.size; omega) (by have := HPLK.out; omega) (by omega) hx2 hx3 HPRK.out hx4)
          have HNX2 := Sp.hid hnx2
          have hle1 : L1.length + (goesM s (xat, xT, xn)).length ≤ 4294967296 := by
            have h1 := congrArg List.length hL1
            rw [List.length_map] at h1
            have h2 := congrArg List.length hnx2
            rw [List.length_append] at h2
            have h3 := HLF2.out
            omega
          have HLE1 := Sp.hid hle1
          have hvnb : ∀ g, vn.ownBlock = some g → wo.heap.size ≤ g ∧ g < wr.heap.size := fun g hg => hnr.row.lt g hg
          have HVNB := Sp.hid hvnb
          clear hnr hL1 hbi hnx2 hpre hlen6 hcell0 hel hx1 hx2 hx3 hx4 hints htree hpsl c0 c1 c2 hx hmj fb hle1 hvnb
          go_wp2
          refine wp_region_two_own (by kernel_rfl) [some 24, some 25, some 26, some 27, some 28, some 29, some 30, some 31, some 32, some 33, some 34, none]
            [fun v _ => v = vn, fun v _ => v = .slice (some ⟨g, 0, none⟩) L.length co, fun v _ => v = .int .i64 (j : Nat), fun v _ => v = .pointer (some ⟨g, j * 6, none⟩), fun v _ => v = .agg #[.slice xa xat.length xc, .string xT.label, .string xT.text, .slice xaa xT.attrs.length xca, .slice xka xT.kids.length xck, .string xn],
              fun v _ => v = .slice (some ⟨b, o, none⟩) steps.length sc, fun v _ => v = .int .i64 (k : Nat), fun v _ => v = .pointer (some ⟨b, o + k * 3, none⟩), fun v _ => v = .agg #[.bool s.isAttr, .string s.name, .slice pa s.preds.length pc],
              GoesOut m F' wr.heap.size [] (goesM s (xat, xT, xn)), GoesOut m F' wo.heap.size L1 (goesM s (xat, xT, xn))]
            10 [9, 8, 7, 6, 5, 4, 3, 2, 1, 0]
            (fun b Y => wr.grownBy Y (if b then vn.ownBlock else none)) (fun i Y Y' => Y.grownBy Y' (if i = 10 then vn.ownBlock else none)) rfl (by kernel_rfl) (by kernel_rfl) (by kernel_rfl) (by kernel_rfl) (by kernel_rfl) ?fr ?hfr ?G0 ?GR ?FR ?step _ rfl ?fin
          case hfr => intro u; simp only [Sp.fillFrom, Sp.idx_cons, Sp.idx_nil, Option.some.injEq, reduceCtorEq, reduceIte, Nat.reduceEqDiff, Nat.reduceAdd, Option.map_some, Option.map_none]; exact rfl
          case G0 => exact ⟨rfl, rfl, rfl, Nat.le_refl _, fun _ _ _ => rfl⟩
          case GR =>
            intro i b y1 y2 hG hR
            cases b
            · by_cases hi : i = 10
              · simp only [hi, if_true] at hR ⊢; exact grown_trans (grown_weak hG) hR
              · simp only [if_neg hi] at hR; simp only [hi, decide_false, Bool.or_false]; exact grown_trans hG hR
            · simp only [if_true, Bool.true_or] at hG ⊢
              by_cases hi : i = 10
              · simp only [hi, if_true] at hR; exact grown_trans hG hR
              · simp only [if_neg hi] at hR; exact grown_trans hG (grown_weak hR)
          case FR =>
            iterate 9 (refine ⟨fun _ _ _ _ _ _ _ h => h, ?_⟩)
            refine ⟨?_, ?_, trivial⟩
            · rintro i hi v y1 y2 ⟨b', hG⟩ hR ⟨L9, h9, he9⟩
              have hys : wr.heap.size ≤ y1.heap.size := by cases b' <;> exact hG.size
              refine ⟨L9, h9.grown hR (fun g' hg' => ?_) (fun b hb' => by have := HFF.out b hb'; omega), he9⟩
              have hg2 : vn.ownBlock = some g' := by
                by_cases h10 : i = 10
                · rw [if_pos h10] at hg'; exact hg'
                · rw [if_neg h10] at hg'; cases hg'
              have := HVNB.out g' hg2
              exact ⟨this.2, fun h => by have := HFF.out g' h; omega⟩
            · rintro i hi v y1 y2 ⟨b', hG⟩ hR ⟨L9, h9, he9⟩
              have hys : wr.heap.size ≤ y1.heap.size := by cases b' <;> exact hG.size
              rw [if_neg hi] at hR
              exact ⟨L9, h9.grown hR (fun g' hg' => by cases hg') (fun b hb' => by have := HFF.out b hb'; omega), he9⟩
          case step =>
            refine ⟨?_, ?_, ?_, ?_, ?_, ?_, ?_, ?_, ?_, ?_, ?_, trivial⟩
            all_goals
              intro u y1 b' hbb hG hD
              simp only [Sp.DepsHold, Sp.factAt, Region.binds, List.getElem?_cons_zero, List.getElem?_cons_succ, Option.getD_some, and_true, true_implies] at hD
              dsimp only
            iterate 9
              · obtain rfl : b' = false := hbb (.inl (by simp))
                obtain ⟨d0, d1, d2, d3, d4, d5⟩ := HD.out
                obtain ⟨p0, p1, p2⟩ := HDP.out
                have q0 := hG.cell (a := ⟨g, j * 6, none⟩) d0 (by simp)
                have q1 := hG.cell (a := ⟨g, j * 6 + 1, none⟩) d1 (by simp)
                have q2 := hG.cell (a := ⟨g, j * 6 + 2, none⟩) d2 (by simp)
                have q3 := hG.cell (a := ⟨g, j * 6 + 3, none⟩) d3 (by simp)
                have q4 := hG.cell (a := ⟨g, j * 6 + 4, none⟩) d4 (by simp)
                have q5 := hG.cell (a := ⟨g, j * 6 + 5, none⟩) d5 (by simp)
                have r0 := hG.cell (a := ⟨b, o + k * 3, none⟩) p0 (by simp)
                have r1 := hG.cell (a := ⟨b, o + k * 3 + 1, none⟩) p1 (by simp)
                have r2 := hG.cell (a := ⟨b, o + k * 3 + 2, none⟩) p2 (by simp)
                clear hG hbb d0 d1 d2 d3 d4 d5 p0 p1 p2
                repeat (obtain ⟨hE, hD⟩ := hD; (try rw [hE]); clear hE)
                try rw [hD]
                try clear hD
                go_wp2
                exact ⟨grown_refl _ _, _, rfl, rfl⟩
            · obtain rfl : b' = false := hbb (.inl (by simp))
              have hY : Below wr.heap.size wr y1 := (below_grown hG)
              have hGY := HG.out y1 hY
              have HGY := Sp.hid hGY
              have hys := hY.size
              obtain ⟨hd4, hd8⟩ := hD
              rw [hd4, hd8]
              clear hG hbb hGY hY hd4 hd8
              go_wp2_with fail
              refine HGY.out.mono ?_
              rintro e y2 ⟨v9, L9, rfl, h9, he9, hb9⟩
              have H9 := Sp.hid (⟨L9, h9.le hys, he9⟩ : GoesOut m F' wr.heap.size [] (goesM s (xat, xT, xn)) v9 y2)
              have HB9 := Sp.hid hb9
              clear h9 he9 hb9
              go_wp2
              exact ⟨grown_below HB9.out, _, rfl, H9.out⟩
            · obtain rfl : b' = false := hbb (.inr rfl)
              have hys : wr.heap.size ≤ y1.heap.size := hG.size
              obtain ⟨h0, ⟨L9, h9, he9⟩, -⟩ := hD
              rw [List.nil_append] at h9
              have hnr1 := HNRI.out.keep (fun b hb' => by have := HFF.out b hb'; omega) (below_grown hG)
              obtain ⟨a9, c9, hv9, hsrc⟩ := hits_src h9
              have h9l : L9.length = (goesM s (xat, xT, xn)).length := by rw [← he9, List.length_map]
              have hle := HLE1.out
              rw [h0, hv9]
              refine wpList_append_slice rfl _ _ 48 rfl wo.heap.size 55 i0 _ 6 120 Tryz.underlying48 hi0 hz0 hz1 hz2 rfl (by decide) _ _ _ rfl hnr1.row a9 L9.length c9 (L9.flatMap (·.1)) rfl h9.row.1 hsrc (hits_one h9) (by unfold maxLen; omega) (by omega) (by omega) ?_
              intro v' y2 hrow' hgrow hown'
              refine wpList_nil ?_
              refine ⟨hgrow, v', rfl, L9, hnr1.more (fun b hb' => ⟨by have := HFF.out b hb'; omega, fun g' hg' => by have := (HVNB.out g' hg').1; have := HFF.out b hb'; omega⟩) hrow' hgrow (hown'.imp id fun h => ⟨_, h, Nat.le_refl _⟩) (fun x hx => (rhitS m).mono (h9.els x hx) (fun b hb' => ?_)), he9⟩
              rcases hb' with hb' | ⟨q1, q2, q3⟩
              · exact .inl hb'
              · exact .inr ⟨by omega, q2, fun e => by have := (HVNB.out b e.symm).2; omega⟩
          case fin =>
            intro u y1 b' hG hF
            simp only [Sp.AllF, and_true] at hF; (try dsimp only); generalize u 0 = u0 at *; generalize u 1 = u1 at *; generalize u 2 = u2 at *; generalize u 3 = u3 at *; generalize u 4 = u4 at *; generalize u 5 = u5 at *; generalize u 6 = u6 at *; generalize u 7 = u7 at *; generalize u 8 = u8 at *; generalize u 9 = u9 at *; generalize u 10 = u10 at *; clear u
            obtain ⟨-, -, -, -, -, -, -, -, -, -, L9, h9, he9⟩ := hF
            have hg1 : wr.grownBy y1 vn.ownBlock := by cases b'; exact grown_weak hG; exact hG
            have HNEW := Sp.hid h9
            have HMAP := Sp.hid (show (L1 ++ L9).map (·.2) = ((L.map (·.2)).take (j + 1)).flatMap (goesM s) by rw [HNX2.out, List.map_append, HL1.out, he9])
            have HBN := Sp.hid (HBI.out.grown hg1 hsi (fun g hg => (HVNB.out g hg).1))
            clear hG hg1 h9 he9
            go_wp2
            dsimp only [StepPost, normally]
            go_wp2
            go_roundw
            case rel => exact ⟨j + 1, _, by omega, by go_num, HNEW.out, HMAP.out, HBN.out⟩
            case measure => simp [intOf]; omega
        · obtain rfl : j = L.length := by omega
          have hfin : HitsR m F w.heap.size wr vn L1 := by
            have h := hnr
            rw [HFE.out] at h
            exact h.lift hbi hsw
          have HFIN := Sp.hid hfin
          have HMAP := Sp.hid (show L1.map (·.2) = selM (steps.take (k + 1)) [([], T, ⟨#[]⟩)] by
            rw [HNX.out, hL1]
            rw [List.take_of_length_le (by rw [List.length_map]; exact Nat.le_refl _)])
          clear hnr hL1 hbi hfin
          go_wp2
          go_roundw
          case rel => exact ⟨k + 1, L1, by omega, by go_num, HFIN.out, HMAP.out, HBWI.out⟩
          case measure => simp [intOf]; omega
    · obtain rfl : k = steps.length := by omega
      rw [List.take_length] at hL
      have HL2 := Sp.hid hL
      clear hnr hL hb HL
      go_wp2
      go_ret
      exact ⟨_, L, rfl, HNR.out, HL2.out, HB.out⟩

end Go.Proofs.YtoknglpfchjbjaaGreatDoor

/- spyglassref16.Value: the value of a hit. Conditions: texts of at most 2^20 bytes together. -/
namespace Go.Proofs.YtoknglpfchjbjaaGreatDoor
open Go.RowKit Go.Sp Go.Maps

theorem add_runV (P : Program) (a b : ByteArray) (h : a.size + b.size ≤ 9223372036854775807) : ∃ s : ByteArray, s.data.toList = a.data.toList ++ b.data.toList ∧ ∀ W, (Op.stringOp .add a b).run P W = .ok (.string s) W :=
  ⟨a ++ b, by simp, fun W => run_string_add_sum (w := W) a b h⟩
theorem size_listV (s : ByteArray) : s.size = s.data.toList.length := by rw [Array.length_toList]; rfl
theorem bytes_ofV {s : ByteArray} {l : List UInt8} (h : s.data.toList = l) : s = ⟨l.toArray⟩ := by
  cases s with
  | mk d => rw [← h]
/-- The texts within a tree, as the document has them. -/
def rtextM : Nat → TT → List UInt8
  | 0, _ => []
  | n + 1, T => T.text.data.toList ++ T.kids.flatMap (rtextM n)
def rvalM (n : Nat) (T : TT) (nm : ByteArray) : ByteArray := if nm.toList.isEmpty then ⟨(rtextM n T).toArray⟩ else (attrV T.attrs nm).getD ⟨(rtextM n T).toArray⟩
theorem cells6v {W : World} {b : Nat} {x0 x1 x2 x3 x4 x5 : Value} {t : TypeId} (h : W.heap[b]? = some (.cells #[x0, x1, x2, x3, x4, x5] t (0, 0))) : W.cell? ⟨b, 2, none⟩ = some x2 ∧ W.cell? ⟨b, 3, none⟩ = some x3 ∧ W.cell? ⟨b, 4, none⟩ = some x4 ∧ W.cell? ⟨b, 5, none⟩ = some x5 := by
  refine ⟨?_, ?_, ?_, ?_⟩ <;> simp [World.cell?, h]

/- HWO : Below wb.heap.size wb wo; the walk is at wo, ahead of region 6 -/

set_option maxRecDepth 100000 in
set_option maxHeartbeats 16000000 in
theorem rvalue_any : ∀ (n : Nat) (F : Nat → Prop) (T : TT) (xn : ByteArray) (a : Option Addr) (na c : Nat) (aa ka : Option Addr) (ca ck : Nat) (w : World) (_ : (treeS n).rep F w [.string T.label, .string T.text, .slice aa T.attrs.length ca, .slice ka T.kids.length ck] T) (_ : ∀ b, F b → b < w.heap.size) (_ : (rtextM n T).length ≤ 1048576),
    Calls Tryz.prog 17 #[.agg #[.slice a na c, .string T.label, .string T.text, .slice aa T.attrs.length ca, .slice ka T.kids.length ck, .string xn]] w fun e w' => e = .returned (.string (rvalM n T xn)) ∧ Below w.heap.size w w' := by
  intro n
  induction n with
  | zero => intro F T xn a na c aa ka ca ck w h; exact h.elim
  | succ n ih =>
    intro F T xn a na c aa ka ca ck w htr hF hl
    obtain ⟨⟨-, -, hal, hkl⟩, aa', ca', ka', ck', hvs, hat, hkd⟩ := treeS_parts htr
    simp only [List.cons.injEq, Value.slice.injEq, true_and, and_true, Nat.add_sub_cancel] at hvs hkd
    obtain ⟨⟨rfl, rfl⟩, rfl, rfl⟩ := hvs
    unfold maxLen at hal hkl
    have IH := Sp.hid ih
    clear ih
    obtain ⟨wb, hw1⟩ : ∃ wb, wb = w.alloc (.cells #[.slice a na c, .string T.label, .string T.text, .slice aa T.attrs.length ca, .slice ka T.kids.length ck, .string xn] 55) := ⟨_, rfl⟩
    have hs1 : w.heap.size + 1 ≤ wb.heap.size := by rw [hw1]; simp
    have hb1 : Below w.heap.size w wb := by rw [hw1]; exact (Below.refl _ _).alloc (Nat.le_refl _) _
    have hx1 : wb.heap[w.heap.size]? = some (.cells #[.slice a na c, .string T.label, .string T.text, .slice aa T.attrs.length ca, .slice ka T.kids.length ck, .string xn] 55 (0, 0)) := by rw [hw1]; exact World.alloc_heap_new _ _
    have HXC := Sp.hid (fun W (hW : Below wb.heap.size wb W) => cells6v ((hW.block _ (by omega)).trans hx1))
    have HB1 := Sp.hid hb1
    have HW1 := Sp.hid hw1
    have HT := Sp.hid (fun W (hW : Below wb.heap.size wb W) => ((hat.frame (w' := W) (fun b hb => (hb1.trans (hW.mono (by omega))).block b (hF b hb))).mono (G := (· < W.heap.size)) (fun b hb => by have := hF b hb; have := hW.size; show b < W.heap.size; omega)))
    have HK := Sp.hid (fun W (hW : Below wb.heap.size wb W) => ((hkd.frame (w' := W) (fun b hb => (hb1.trans (hW.mono (by omega))).block b (hF b hb))).mono (G := (· < W.heap.size)) (fun b hb => by have := hF b hb; have := hW.size; show b < W.heap.size; omega)))
    have HL := Sp.hid hl
    clear htr hF hl hat hkd hb1 hx1 hw1
    go_enter Tryz.func17, Tryz.ntmps17
    go_wp2
    rw [← HW1.out]
    cases hx : xn.toList.isEmpty
    · have hx' : (xn.toList == []) = false := by rw [beq_eq_false_iff_ne]; intro e; rw [e] at hx; cases hx
      have hx2 : (xn.toList != []) = true := by simpa using hx'
      go_loopw [3] (fun i wr => ∃ k : Nat, k ≤ T.attrs.length ∧ i = .int .i64 k ∧ attrV (T.attrs.take k) xn = none ∧ Below wb.heap.size wb wr) (fun i _ => T.attrs.length - (intOf i).toNat)
      case atStart => exact ⟨0, Nat.zero_le _, rfl, rfl, Below.refl _ _⟩
      case round =>
        obtain ⟨k, hk, rfl, hno, hb⟩ := hrel
        have hsw := hb.size
        have HB := Sp.hid hb
        obtain ⟨x2, x3, x4, x5⟩ := HXC.out wr hb
        have hXr : w.heap.size < wr.heap.size := by omega
        by_cases hlt : k < T.attrs.length
        · obtain ⟨b2, o2, hae, fb2, -, -, e1, e2⟩ := attr_cells (HT.out wr hb) k hlt
          have HHIT := Sp.hid (fun h => attrV_hit hlt hno h)
          have HMISS := Sp.hid (fun h => attrV_miss hlt hno h)
          obtain ⟨y, hy⟩ : ∃ y, y = T.attrs[k] := ⟨_, rfl⟩
          rw [← hy] at e1 e2 HHIT HMISS
          rw [hae] at x3
          have hb2 : b2 < wr.heap.size := World.block_lt_of_cell? _ _ e1
          have HC := Sp.hid (fun W (hG : Below wr.heap.size wr W) => And.intro (HXC.out W (hb.trans (hG.mono hsw))) (And.intro ((hG.cell (p := ⟨b2, o2 + k * 2, none⟩) hb2).trans e1) ((hG.cell (p := ⟨b2, o2 + k * 2 + 1, none⟩) hb2).trans e2)))
          rw [hae] at HC
          clear hy hno hb fb2 e1 e2 hae
          go_wp2
          clear x2 x3 x4 x5
          cases h1 : (y.1.toList == xn.toList)
          · skip
            refine Sp.wp_region_read (by kernel_rfl) [some 19, some 20, some 21, some 22, some 23, some 24, some 25, some 26, some 27, some 28] [?r1v0, ?r1v1, ?r1v2, ?r1v3, ?r1v4, ?r1v5, ?r1v6, ?r1v7, ?r1v8, ?r1v9] rfl (by kernel_rfl) (by kernel_rfl) (by kernel_rfl) ?r1fr ?r1hfr ?r1step ?r1fin
            case r1hfr => intro u; simp only [Sp.fillFrom, Sp.idx_cons, Sp.idx_nil, Option.some.injEq, reduceCtorEq, reduceIte, Nat.reduceEqDiff, Nat.reduceAdd, Option.map_some, Option.map_none]; exact rfl
            case r1step =>
              refine ⟨?_, ?_, ?_, ?_, ?_, ?_, ?_, ?_, ?_, ?_, trivial⟩
              all_goals
                intro u w1 hG hD; simp only [Sp.DepsHold, List.map_cons, List.map_nil, Sp.isV, Sp.any_text, Sp.any_gc, Bool.false_eq_true, false_implies, Sp.factAt, Region.binds, List.getElem?_cons_zero, List.getElem?_cons_succ, List.getElem?_nil, Option.getD_some, Option.getD_none, and_true, true_and, true_implies, implies_true] at hD; dsimp only
                obtain ⟨⟨-, x3, -, x5⟩, e1, -⟩ := HC.out w1 hG
                clear hG
                repeat (obtain ⟨hE, hD⟩ := hD; (try rw [hE]); clear hE)
                try rw [hD]
                try clear hD
                go_wp2_with (fail)
                (with_reducible apply Sp.rd_close); (first | exact HB2.out | exact Below.refl _ _); exact rfl; refine Sp.isV_at ?_; exact rfl
            case r1fin => 
              intro w' hG; simp only [List.getElem?_cons_zero, List.getElem?_cons_succ, Option.getD_some]
              have HG := Sp.hid (HB.out.trans (hG.mono hsw))
              have HM := Sp.hid (HMISS.out h1)
              clear hG
              go_wp2
              go_roundw
              case rel => exact ⟨k + 1, by omega, by go_num, HM.out, HG.out⟩
              case measure => simp [intOf]; omega
          · skip
            refine Sp.wp_region_read (by kernel_rfl) [some 19, some 20, some 21, some 22, some 23, some 24, some 25, some 26, some 27, some 28] [?r2v0, ?r2v1, ?r2v2, ?r2v3, ?r2v4, ?r2v5, ?r2v6, ?r2v7, ?r2v8, ?r2v9] rfl (by kernel_rfl) (by kernel_rfl) (by kernel_rfl) ?r2fr ?r2hfr ?r2step ?r2fin
            case r2hfr => intro u; simp only [Sp.fillFrom, Sp.idx_cons, Sp.idx_nil, Option.some.injEq, reduceCtorEq, reduceIte, Nat.reduceEqDiff, Nat.reduceAdd, Option.map_some, Option.map_none]; exact rfl
            case r2step =>
              refine ⟨?_, ?_, ?_, ?_, ?_, ?_, ?_, ?_, ?_, ?_, trivial⟩
              all_goals
                intro u w1 hG hD; simp only [Sp.DepsHold, List.map_cons, List.map_nil, Sp.isV, Sp.any_text, Sp.any_gc, Bool.false_eq_true, false_implies, Sp.factAt, Region.binds, List.getElem?_cons_zero, List.getElem?_cons_succ, List.getElem?_nil, Option.getD_some, Option.getD_none, and_true, true_and, true_implies, implies_true] at hD; dsimp only
                obtain ⟨⟨-, x3, -, x5⟩, e1, -⟩ := HC.out w1 hG
                clear hG
                repeat (obtain ⟨hE, hD⟩ := hD; (try rw [hE]); clear hE)
                try rw [hD]
                try clear hD
                go_wp2_with (fail)
                (with_reducible apply Sp.rd_close); (first | exact HB2.out | exact Below.refl _ _); exact rfl; refine Sp.isV_at ?_; exact rfl
            case r2fin => 
              intro w' hG; simp only [List.getElem?_cons_zero, List.getElem?_cons_succ, Option.getD_some]
              have HG := Sp.hid (HB.out.trans (hG.mono hsw))
              have HM := Sp.hid (HHIT.out h1)
              obtain ⟨⟨-, x3, -, -⟩, -, e2⟩ := HC.out w' hG
              have hXw : w.heap.size < w'.heap.size := by have := hG.size; omega
              have hb2w : b2 < w'.heap.size := by have := hG.size; omega
              have HRV := Sp.hid (show rvalM (n + 1) T xn = y.2 by unfold rvalM; rw [hx, if_neg (by decide), HM.out]; rfl)
              clear hG
              go_wp2
              go_ret
              exact ⟨by rw [HRV.out]; rfl, HB1.out.trans (HG.out.mono (by omega))⟩
        · obtain rfl : k = T.attrs.length := by omega
          rw [List.take_length] at hno
          have HEND := Sp.hid (fun (s : ByteArray) (h : s.data.toList = rtextM (n + 1) T) => (by unfold rvalM; rw [hx, if_neg (by decide), hno, bytes_ofV h]; rfl : rvalM (n + 1) T xn = s))
          have HWO := HB
          obtain ⟨wo, rfl⟩ : ∃ wo, wo = wr := ⟨_, rfl⟩
          clear hno hb x2 x4 x5 hx hx' hx2
          obtain ⟨x2, x3, x4, x5⟩ := HXC.out wo HWO.out
          have hXo : w.heap.size < wo.heap.size := by have := HWO.out.size; omega
          go_wp2
          clear x2 x3 x4 x5
          go_loopw [4, 5] (fun v i wr => ∃ (k : Nat) (s : ByteArray), k ≤ T.kids.length ∧ i = .int .i64 k ∧ v = .string s ∧ s.data.toList = T.text.data.toList ++ (T.kids.take k).flatMap (rtextM n) ∧ Below wb.heap.size wb wr) (fun _ i _ => T.kids.length - (intOf i).toNat)
          case atStart => exact ⟨0, T.text, Nat.zero_le _, rfl, rfl, by simp, HWO.out⟩
          case round =>
            obtain ⟨k, s, hk, rfl, rfl, hs, hb⟩ := hrel
            have hsw := hb.size
            have HB := Sp.hid hb
            obtain ⟨-, -, x4, -⟩ := HXC.out wr hb
            have hXr : w.heap.size < wr.heap.size := by omega
            by_cases hlt : k < T.kids.length
            · obtain ⟨b, o, aa1, ca1, ka1, ck1, hkae, fb, hkrep, e1, e2, e3, e4⟩ := tree_cells (HK.out wr hb) k hlt
              have hnx : (T.kids.take (k + 1)).flatMap (rtextM n) = (T.kids.take k).flatMap (rtextM n) ++ rtextM n T.kids[k] := by rw [List.take_succ_eq_append_getElem hlt, List.flatMap_append]; simp
              have hpre : ((T.kids.take (k + 1)).flatMap (rtextM n)).length ≤ (T.kids.flatMap (rtextM n)).length := by
                conv => rhs; rw [← List.take_append_drop (k + 1) T.kids, List.flatMap_append, List.length_append]
                omega
              have htot := HL.out
              rw [show rtextM (n + 1) T = T.text.data.toList ++ T.kids.flatMap (rtextM n) from rfl, List.length_append] at htot
              rw [hnx, List.length_append] at hpre
              obtain ⟨kid, hkid⟩ : ∃ kid, kid = T.kids[k] := ⟨_, rfl⟩
              rw [← hkid] at hkrep e1 e2 e3 e4 hnx hpre
              obtain ⟨t, ht⟩ : ∃ t : ByteArray, t = ⟨(rtextM n kid).toArray⟩ := ⟨_, rfl⟩
              have htl : t.data.toList = rtextM n kid := by rw [ht]
              have hsl := congrArg List.length hs
              rw [List.length_append] at hsl
              obtain ⟨s2, hs2, hrun⟩ := add_runV Tryz.prog s t (by rw [size_listV, size_listV, htl]; omega)
              have HS2 := Sp.hid (show s2.data.toList = T.text.data.toList ++ (T.kids.take (k + 1)).flatMap (rtextM n) by rw [hs2, hs, htl, hnx, List.append_assoc])
              have HIH := Sp.hid (fun W (hW : Below wr.heap.size wr W) => IH.out (fun b => b < wr.heap.size) kid ⟨#[]⟩ none 0 0 aa1 ka1 ca1 ck1 W (((treeS n).mono ((treeS n).frame hkrep (fun b hb' => hW.block b hb')) (fun b hb' => hb')) ) (fun b hb' => by have := hW.size; omega) (by omega))
              rw [show rvalM n kid ⟨#[]⟩ = t by unfold rvalM; rw [if_pos (by rw [ByteArray.toList_eq]; rfl), ht]] at HIH
              have hbl : b < wr.heap.size := World.block_lt_of_cell? _ _ e1
              rw [hkae] at x4
              clear hkrep hnx hpre htot hkid ht htl hsl hs2 hs hb fb hkae
              go_wp2_with fail
              refine (HIH.out wr (Below.refl _ _)).mono ?_
              rintro e w3 ⟨rfl, hb3⟩
              have HB3 := Sp.hid (HB.out.trans (hb3.mono hsw))
              clear hb3
              go_wp2
              go_roundw
              case rel => exact ⟨k + 1, s2, by omega, by go_num, rfl, HS2.out, HB3.out⟩
              case measure => simp [intOf]; omega
            · obtain rfl : k = T.kids.length := by omega
              rw [List.take_length] at hs
              have HR := Sp.hid (HEND.out s hs)
              clear hs hb
              go_wp2
              go_ret
              exact ⟨by rw [HR.out]; rfl, HB1.out.trans (HB.out.mono (by omega))⟩
    · have hx' : (xn.toList == []) = true := by rw [beq_iff_eq]; exact List.isEmpty_iff.1 hx
      have hx2 : (xn.toList != []) = false := by simpa using hx'
      have HEND := Sp.hid (fun (s : ByteArray) (h : s.data.toList = rtextM (n + 1) T) => (by unfold rvalM; rw [hx, if_pos rfl, bytes_ofV h] : rvalM (n + 1) T xn = s))
      go_loopw [3] (fun i wr => i = .int .i64 0 ∧ Below wb.heap.size wb wr) (fun i _ => 0)
      case atStart => exact ⟨rfl, Below.refl _ _⟩
      case round =>
        obtain ⟨rfl, hb⟩ := hrel
        have hsw := hb.size
        have HWO := Sp.hid hb
        obtain ⟨-, x3, -, x5⟩ := HXC.out wr hb
        obtain ⟨wo, rfl⟩ : ∃ wo, wo = wr := ⟨_, rfl⟩
        clear hb
        by_cases h0 : 0 < T.attrs.length
        · have h0' : (0 : Int) < (T.attrs.length : Int) := by omega
          obtain ⟨x2, x3, x4, x5⟩ := HXC.out wo HWO.out
          have hXo : w.heap.size < wo.heap.size := by have := HWO.out.size; omega
          go_wp2
          clear x2 x3 x4 x5
          go_loopw [4, 5] (fun v i wr => ∃ (k : Nat) (s : ByteArray), k ≤ T.kids.length ∧ i = .int .i64 k ∧ v = .string s ∧ s.data.toList = T.text.data.toList ++ (T.kids.take k).flatMap (rtextM n) ∧ Below wb.heap.size wb wr) (fun _ i _ => T.kids.length - (intOf i).toNat)
          case atStart => exact ⟨0, T.text, Nat.zero_le _, rfl, rfl, by simp, HWO.out⟩
          case round =>
            obtain ⟨k, s, hk, rfl, rfl, hs, hb⟩ := hrel
            have hsw := hb.size
            have HB := Sp.hid hb
            obtain ⟨-, -, x4, -⟩ := HXC.out wr hb
            have hXr : w.heap.size < wr.heap.size := by omega
            by_cases hlt : k < T.kids.length
            · obtain ⟨b, o, aa1, ca1, ka1, ck1, hkae, fb, hkrep, e1, e2, e3, e4⟩ := tree_cells (HK.out wr hb) k hlt
              have hnx : (T.kids.take (k + 1)).flatMap (rtextM n) = (T.kids.take k).flatMap (rtextM n) ++ rtextM n T.kids[k] := by rw [List.take_succ_eq_append_getElem hlt, List.flatMap_append]; simp
              have hpre : ((T.kids.take (k + 1)).flatMap (rtextM n)).length ≤ (T.kids.flatMap (rtextM n)).length := by
                conv => rhs; rw [← List.take_append_drop (k + 1) T.kids, List.flatMap_append, List.length_append]
                omega
              have htot := HL.out
              rw [show rtextM (n + 1) T = T.text.data.toList ++ T.kids.flatMap (rtextM n) from rfl, List.length_append] at htot
              rw [hnx, List.length_append] at hpre
              obtain ⟨kid, hkid⟩ : ∃ kid, kid = T.kids[k] := ⟨_, rfl⟩
              rw [← hkid] at hkrep e1 e2 e3 e4 hnx hpre
              obtain ⟨t, ht⟩ : ∃ t : ByteArray, t = ⟨(rtextM n kid).toArray⟩ := ⟨_, rfl⟩
              have htl : t.data.toList = rtextM n kid := by rw [ht]
              have hsl := congrArg List.length hs
              rw [List.length_append] at hsl
              obtain ⟨s2, hs2, hrun⟩ := add_runV Tryz.prog s t (by rw [size_listV, size_listV, htl]; omega)
              have HS2 := Sp.hid (show s2.data.toList = T.text.data.toList ++ (T.kids.take (k + 1)).flatMap (rtextM n) by rw [hs2, hs, htl, hnx, List.append_assoc])
              have HIH := Sp.hid (fun W (hW : Below wr.heap.size wr W) => IH.out (fun b => b < wr.heap.size) kid ⟨#[]⟩ none 0 0 aa1 ka1 ca1 ck1 W (((treeS n).mono ((treeS n).frame hkrep (fun b hb' => hW.block b hb')) (fun b hb' => hb')) ) (fun b hb' => by have := hW.size; omega) (by omega))
              rw [show rvalM n kid ⟨#[]⟩ = t by unfold rvalM; rw [if_pos (by rw [ByteArray.toList_eq]; rfl), ht]] at HIH
              have hbl : b < wr.heap.size := World.block_lt_of_cell? _ _ e1
              rw [hkae] at x4
              clear hkrep hnx hpre htot hkid ht htl hsl hs2 hs hb fb hkae
              go_wp2_with fail
              refine (HIH.out wr (Below.refl _ _)).mono ?_
              rintro e w3 ⟨rfl, hb3⟩
              have HB3 := Sp.hid (HB.out.trans (hb3.mono hsw))
              clear hb3
              go_wp2
              go_roundw
              case rel => exact ⟨k + 1, s2, by omega, by go_num, rfl, HS2.out, HB3.out⟩
              case measure => simp [intOf]; omega
            · obtain rfl : k = T.kids.length := by omega
              rw [List.take_length] at hs
              have HR := Sp.hid (HEND.out s hs)
              clear hs hb
              go_wp2
              go_ret
              exact ⟨by rw [HR.out]; rfl, HB1.out.trans (HB.out.mono (by omega))⟩
        · have h0' : ¬ (0 : Int) < (T.attrs.length : Int) := by omega
          obtain ⟨x2, x3, x4, x5⟩ := HXC.out wo HWO.out
          have hXo : w.heap.size < wo.heap.size := by have := HWO.out.size; omega
          go_wp2
          clear x2 x3 x4 x5
          go_loopw [4, 5] (fun v i wr => ∃ (k : Nat) (s : ByteArray), k ≤ T.kids.length ∧ i = .int .i64 k ∧ v = .string s ∧ s.data.toList = T.text.data.toList ++ (T.kids.take k).flatMap (rtextM n) ∧ Below wb.heap.size wb wr) (fun _ i _ => T.kids.length - (intOf i).toNat)
          case atStart => exact ⟨0, T.text, Nat.zero_le _, rfl, rfl, by simp, HWO.out⟩
          case round =>
            obtain ⟨k, s, hk, rfl, rfl, hs, hb⟩ := hrel
            have hsw := hb.size
            have HB := Sp.hid hb
            obtain ⟨-, -, x4, -⟩ := HXC.out wr hb
            have hXr : w.heap.size < wr.heap.size := by omega
            by_cases hlt : k < T.kids.length
            · obtain ⟨b, o, aa1, ca1, ka1, ck1, hkae, fb, hkrep, e1, e2, e3, e4⟩ := tree_cells (HK.out wr hb) k hlt
              have hnx : (T.kids.take (k + 1)).flatMap (rtextM n) = (T.kids.take k).flatMap (rtextM n) ++ rtextM n T.kids[k] := by rw [List.take_succ_eq_append_getElem hlt, List.flatMap_append]; simp
              have hpre : ((T.kids.take (k + 1)).flatMap (rtextM n)).length ≤ (T.kids.flatMap (rtextM n)).length := by
                conv => rhs; rw [← List.take_append_drop (k + 1) T.kids, List.flatMap_append, List.length_append]
                omega
              have htot := HL.out
              rw [show rtextM (n + 1) T = T.text.data.toList ++ T.kids.flatMap (rtextM n) from rfl, List.length_append] at htot
              rw [hnx, List.length_append] at hpre
              obtain ⟨kid, hkid⟩ : ∃ kid, kid = T.kids[k] := ⟨_, rfl⟩
              rw [← hkid] at hkrep e1 e2 e3 e4 hnx hpre
              obtain ⟨t, ht⟩ : ∃ t : ByteArray, t = ⟨(rtextM n kid).toArray⟩ := ⟨_, rfl⟩
              have htl : t.data.toList = rtextM n kid := by rw [ht]
              have hsl := congrArg List.length hs
              rw [List.length_append] at hsl
              obtain ⟨s2, hs2, hrun⟩ := add_runV Tryz.prog s t (by rw [size_listV, size_listV, htl]; omega)
              have HS2 := Sp.hid (show s2.data.toList = T.text.data.toList ++ (T.kids.take (k + 1)).flatMap (rtextM n) by rw [hs2, hs, htl, hnx, List.append_assoc])
              have HIH := Sp.hid (fun W (hW : Below wr.heap.size wr W) => IH.out (fun b => b < wr.heap.size) kid ⟨#[]⟩ none 0 0 aa1 ka1 ca1 ck1 W (((treeS n).mono ((treeS n).frame hkrep (fun b hb' => hW.block b hb')) (fun b hb' => hb')) ) (fun b hb' => by have := hW.size; omega) (by omega))
              rw [show rvalM n kid ⟨#[]⟩ = t by unfold rvalM; rw [if_pos (by rw [ByteArray.toList_eq]; rfl), ht]] at HIH
              have hbl : b < wr.heap.size := World.block_lt_of_cell? _ _ e1
              rw [hkae] at x4
              clear hkrep hnx hpre htot hkid ht htl hsl hs2 hs hb fb hkae
              go_wp2_with fail
              refine (HIH.out wr (Below.refl _ _)).mono ?_
              rintro e w3 ⟨rfl, hb3⟩
              have HB3 := Sp.hid (HB.out.trans (hb3.mono hsw))
              clear hb3
              go_wp2
              go_roundw
              case rel => exact ⟨k + 1, s2, by omega, by go_num, rfl, HS2.out, HB3.out⟩
              case measure => simp [intOf]; omega
            · obtain rfl : k = T.kids.length := by omega
              rw [List.take_length] at hs
              have HR := Sp.hid (HEND.out s hs)
              clear hs hb
              go_wp2
              go_ret
              exact ⟨by rw [HR.out]; rfl, HB1.out.trans (HB.out.mono (by omega))⟩

end Go.Proofs.YtoknglpfchjbjaaGreatDoor

/- What the answer's hits are at, and which values they have: as the path's. Plain: no program in sight. Conditions: a tree and a path without a fault; texts of up to 100 bytes. -/
namespace Go.Proofs.YtoknglpfchjbjaaGreatDoor
open Go.RowKit Go.Sp Go.Maps

theorem node_kidlen : ∀ {m : Nat} {T : TT}, Thin m T → ∀ t ∈ nodesM m T, t.kids.length ≤ (nodesM m T).length
  | 0, _, h, _, _ => h.elim
  | m + 1, T, h, t, ht => by
    have hone : ∀ l : List TT, (∀ k ∈ l, Thin m k) → l.length ≤ (l.flatMap (nodesM m)).length := by
      intro l
      induction l with
      | nil => intro _; simp
      | cons k l ih =>
        intro hl
        rw [List.flatMap_cons, List.length_append, List.length_cons]
        have h1 := ih (fun x hx => hl x (List.mem_cons_of_mem _ hx))
        have h2 := List.length_pos_of_mem (self_node (hl k (List.mem_cons_self ..)))
        omega
    show _ ≤ (T :: T.kids.flatMap (nodesM m)).length
    have ht' : t ∈ T :: T.kids.flatMap (nodesM m) := ht
    rcases List.mem_cons.1 ht' with rfl | ht'
    · have := hone t.kids h.2
      rw [List.length_cons]; omega
    · obtain ⟨k, hk, htk⟩ := List.mem_flatMap.1 ht'
      have h1 := node_kidlen (h.2 k hk) t htk
      have h2 : (nodesM m k).length ≤ (T.kids.flatMap (nodesM m)).length := by
        obtain ⟨l1, l2, e⟩ := List.append_of_mem hk
        rw [e, List.flatMap_append, List.flatMap_cons, List.length_append, List.length_append]
        omega
      rw [List.length_cons]; omega
theorem node_attrs : ∀ {m : Nat} {T : TT}, Thin m T → ∀ t ∈ nodesM m T, t.attrs.length ≤ 1048576
  | 0, _, h, _, _ => h.elim
  | m + 1, T, h, t, ht => by
    have ht' : t ∈ T :: T.kids.flatMap (nodesM m) := ht
    rcases List.mem_cons.1 ht' with rfl | ht'
    · exact h.1
    · obtain ⟨k, hk, htk⟩ := List.mem_flatMap.1 ht'
      exact node_attrs (h.2 k hk) t htk
theorem nodeOk_of {m : Nat} {T : TT} (hc : checkM m T = 0) (ht : Thin m T) : NodeOk m T := by
  obtain ⟨-, h2, h3⟩ := checkM_parts hc
  refine ⟨fun t h => Nat.le_trans (node_kidlen ht t h) h2, node_attrs ht, fun t h => ?_, ht, h2⟩
  have := h3 4 (by omega) t h
  unfold faultB at this
  simpa using this

theorem rtext_texts : ∀ (n : Nat) (T : TT), (∀ t ∈ nodesM n T, faultB 0 t = false) → rtextM n T = textsM n T
  | 0, T, _ => rfl
  | n + 1, T, h => by
    have h0 := h T (List.mem_cons_self ..)
    have hk : ∀ k ∈ T.kids, rtextM n k = textsM n k := fun k hk => rtext_texts n k fun t ht => h t (List.mem_cons_of_mem _ (List.mem_flatMap.2 ⟨k, hk, ht⟩))
    have e : textsM (n + 1) T = textOf T ++ T.kids.flatMap (textsM n) := by
      unfold textsM
      rw [nodesM_succ, List.flatMap_cons, List.flatMap_assoc]
    rw [e, ← flat_congr hk]
    show T.text.data.toList ++ _ = _
    congr 1
    have h1 : fault1B T.label T.text T.attrs.length T.kids.length = false := h0
    unfold fault1B at h1
    unfold textOf
    cases hl : T.label.toList.isEmpty
    · rw [hl, if_neg (by decide)] at h1
      rw [if_neg (by decide)]
      have h2 : T.text.toList.isEmpty = true := by simpa using h1
      rw [ByteArray.toList_eq] at h2
      exact List.isEmpty_iff.1 h2
    · rw [if_pos rfl]

theorem textOf_len {t : TT} (h : t.text.size ≤ 100) : (textOf t).length ≤ 100 := by
  unfold textOf
  split
  · rw [Array.length_toList]; exact h
  · simp
theorem texts_few {n : Nat} {T : TT} (hw : (nodesM n T).length ≤ 4096) (htx : ∀ t ∈ nodesM n T, t.text.size ≤ 100) : (textsM n T).length ≤ 409600 := by
  have main : ∀ l : List TT, (∀ t ∈ l, t.text.size ≤ 100) → (l.flatMap textOf).length ≤ l.length * 100 := by
    intro l
    induction l with
    | nil => intro _; simp
    | cons t l ih =>
      intro hl
      rw [List.flatMap_cons, List.length_append, List.length_cons, Nat.add_mul]
      have h1 := ih (fun x hx => hl x (by simp [hx]))
      have h2 := textOf_len (hl t (by simp))
      omega
  have := main _ htx
  unfold textsM
  omega

/-- Where the answer's hits are. -/
theorem sel_at {steps : List StepM} (hp : pcheckM steps = 0) (T : TT) : ∀ k, k ≤ steps.length → ∀ x ∈ selM (steps.take k) [([], T, ⟨#[]⟩)], atM x.1 T = some x.2.1 ∧ (x.2.2 = ⟨#[]⟩ ∨ ∃ a ∈ x.2.1.attrs, a.1 = x.2.2) := by
  intro k hk x hx
  cases k with
  | zero =>
    have hx' : x ∈ [(([] : List Int), T, (⟨#[]⟩ : ByteArray))] := hx
    rw [List.mem_singleton] at hx'
    subst hx'
    exact ⟨rfl, .inl rfl⟩
  | succ k =>
    have hlt : k < steps.length := by omega
    rw [selM_next _ _ hlt, sel_before hp hlt] at hx
    obtain ⟨y, hy, hxy⟩ := List.mem_flatMap.1 hx
    obtain ⟨z, hz, rfl⟩ := List.mem_map.1 hy
    have hat := (leadN_at (steps.take k) (T0 := T) (x := ([], T)) rfl z hz).1
    unfold goesM at hxy
    split at hxy
    · obtain ⟨a, ha, rfl⟩ := List.mem_map.1 hxy
      exact ⟨hat, .inr ⟨a, (List.mem_filter.1 ha).1, rfl⟩⟩
    · obtain ⟨u, hu, rfl⟩ := List.mem_map.1 hxy
      obtain ⟨i, hi, hp1⟩ := kidsM_at hu
      refine ⟨?_, .inl rfl⟩
      dsimp only at hi hp1 ⊢
      rw [hp1, atM_snoc, hat, Option.bind_some, if_neg (by omega)]
      exact hi

theorem attrV_some : ∀ {l : List (ByteArray × ByteArray)} {a : ByteArray × ByteArray}, a ∈ l → ∃ v, attrV l a.1 = some v
  | b :: l, a, h => by
    cases he : (b.1.toList == a.1.toList)
    · have e1 : attrV (b :: l) a.1 = attrV l a.1 := by unfold attrV; rw [List.find?_cons, he]
      rcases List.mem_cons.1 h with rfl | h
      · simp at he
      · rw [e1]; exact attrV_some h
    · exact ⟨b.2, by unfold attrV; rw [List.find?_cons, he]; rfl⟩

/-- Their values. -/
theorem sel_vals {m : Nat} {T : TT} {steps : List StepM} (hp : pcheckM steps = 0) (hc : checkM m T = 0) (ht : Thin m T) (htx : ∀ t ∈ nodesM m T, t.text.size ≤ 100) : ∀ x ∈ selM steps [([], T, ⟨#[]⟩)],
    valOf m ((atM x.1 T).getD T) x.2.2 = rvalM m x.2.1 x.2.2 ∧ (rtextM m x.2.1).length ≤ 1048576 := by
  intro x hx
  have h := sel_at hp T steps.length (Nat.le_refl _) x (by rw [List.take_length]; exact hx)
  obtain ⟨ha, hn⟩ := h
  obtain ⟨h1, h2, h3⟩ := at_nodes x.1 ht ha
  obtain ⟨-, hw, hf⟩ := checkM_parts hc
  have hr := rtext_texts m x.2.1 fun t htt => hf 0 (by omega) t (h2 t htt)
  refine ⟨?_, by rw [hr]; have := texts_few (n := m) (T := x.2.1) (by omega) fun t htt => htx t (h2 t htt); omega⟩
  rw [ha, Option.getD_some]
  unfold valOf rvalM
  rw [hr]
  cases he : x.2.2.toList.isEmpty
  · rw [if_neg (by decide), if_neg (by decide)]
    rcases hn with hn | ⟨a, ham, hae⟩
    · rw [hn, empty_nil] at he; cases he
    · obtain ⟨v, hv⟩ := attrV_some ham
      rw [hae] at hv
      rw [hv]; rfl
  · rw [if_pos rfl, if_pos rfl]

/-- A tree of few steps: what is asked of it. -/
theorem raw_tree {xs : List Stp} {T : TT} (hraw : parL (2 * xs.length + 1) none xs = some (T, [])) (hn : NamesOk xs) : formT xs.length T ∧ stepsM xs.length T = xs := by
  obtain ⟨n, h1, h2, h3⟩ := (parL_steps _).1 xs T [] hraw hn
  rw [List.append_nil] at h2
  obtain ⟨h4, h5, -⟩ := formT_le (m := xs.length) (by simpa using h1) h3
  exact ⟨h4, by rw [h5, ← h2]⟩
theorem raw_texts {m : Nat} {T : TT} (h : formT m T) (hs : ∀ s ∈ stepsM m T, s.text.size ≤ 100) : ∀ t ∈ nodesM m T, t.text.size ≤ 100 := by
  have h1 := steps_any (fun s => decide (100 < s.text.size)) (fun t => decide (100 < t.text.size) || t.attrs.any fun a => decide (100 < a.2.size))
    (fun T hl ha => by rw [ha]; simp) (fun T hl ht => by simp [ht]) (by decide) m T h
  have h2 : (stepsM m T).any (fun s => decide (100 < s.text.size)) = false := by
    rw [← Bool.not_eq_true, List.any_eq_true]
    rintro ⟨s, hs', hd⟩
    have := hs s hs'
    simp only [decide_eq_true_eq] at hd
    omega
  rw [h2] at h1
  intro t ht
  have h3 := h1.symm
  rw [← Bool.not_eq_true, List.any_eq_true] at h3
  by_cases hh : t.text.size ≤ 100
  · exact hh
  · exact absurd ⟨t, ht, by simp only [Bool.or_eq_true, decide_eq_true_eq]; left; omega⟩ h3

end Go.Proofs.YtoknglpfchjbjaaGreatDoor
