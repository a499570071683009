/- Merged: What a path leads to: in order; by a part of the path, and then by the rest · spyglasslaw16.ahead: is a path ahead of another one? Conditions: none · Pieces of the walk of PathParts: Select and At where they succeed; a part of a slice; integers appended · A region of thirteen operations: tree.At is called, and what it returns is laid into a new block · Where a part of what steps lead to stands in the whole. Conditions: those of the parts. -/
import Derived.Test.YtoknglpfchjbjaaDoorHitAt
import Derived.Test.YtoknglpfchjbjaaDoorAwakeX
import Derived.Test.YtoknglpfchjbjaaDoorLawS
import Derived.Test.YtoknglpfchjbjaaDoorRawB
import Derived.Deep.AppendSrc
import Derived.Deep.Upon
/- What a path leads to: in order; by a part of the path, and then by the rest. Plain: no program in sight. Conditions: none. -/
namespace Go.Proofs.YtoknglpfchjbjaaDoor
open Go.RowKit Go.Sp Go.Maps

theorem shallow_le : ∀ {d : Nat} {T : TT}, shallow d T = true → shallow (d + 1) T = true
  | 0, _, h => by cases h
  | d + 1, T, h => by
    unfold shallow at h ⊢
    rw [List.all_eq_true] at h ⊢
    exact fun k hk => shallow_le (h k hk)
theorem shallow_at : ∀ (p : List Int) {d : Nat} {T T' : TT}, shallow d T = true → atM p T = some T' → shallow d T' = true
  | [], d, T, T', h, ha => by cases ha; exact h
  | i :: p, 0, T, T', h, _ => by cases h
  | i :: p, d + 1, T, T', h, ha => by
    simp only [atM] at ha
    split at ha
    · cases ha
    · cases hk : T.kids[i.toNat]? with
      | none => rw [hk] at ha; cases ha
      | some kid =>
        rw [hk, Option.bind_some] at ha
        unfold shallow at h
        rw [List.all_eq_true] at h
        exact shallow_le (shallow_at p (h kid (List.mem_of_getElem? hk)) ha)
theorem checkM_parts {n : Nat} {T : TT} (h : checkM n T = 0) : shallow 32 T = true ∧ (nodesM n T).length ≤ 4096 ∧ ∀ p, p < 6 → ∀ T' ∈ nodesM n T, faultB p T' = false := by
  unfold checkM at h
  split at h
  · rename_i h1; exact ⟨h1.1, h1.2, firstFault_zero h⟩
  · cases h
/-- A node of a tree without a fault is one. -/
theorem check_sub {n : Nat} {T T' : TT} {p : List Int} (ht : Thin n T) (h : checkM n T = 0) (ha : atM p T = some T') : checkM n T' = 0 := by
  obtain ⟨h1, h2, h3⟩ := checkM_parts h
  obtain ⟨_, h5, h6⟩ := at_nodes p ht ha
  unfold checkM
  rw [if_pos ⟨shallow_at p h1 ha, by omega⟩]
  exact firstFault_none fun q hq t hm => h3 q hq t (h5 t hm)

/-- With a path ahead. -/
def preN (p : List Int) (y : NX) : NX := (p ++ y.1, y.2)
def preH (p : List Int) (h : List Int × ByteArray) : List Int × ByteArray := (p ++ h.1, h.2)
theorem thoseM_pre (q : PredM) (p : List Int) (l : List NX) : thoseM q (l.map (preN p)) = (thoseM q l).map (preN p) := by
  unfold thoseM
  rw [List.length_map]
  exact (thoseL_map q (·.2) (preN p) l l.length).symm
theorem kids0_pre (s : StepM) (p ats : List Int) (kids : List TT) (k : Nat) : kids0 s (p ++ ats) kids k = (kids0 s ats kids k).map (preN p) := by
  unfold kids0
  rw [List.map_filterMap]
  congr 1
  funext i
  cases kids[i]? with
  | none => rfl
  | some t =>
    simp only [Option.bind_some]
    split
    · simp [preN]
    · rfl
theorem kidsM_pre (s : StepM) (p : List Int) (x : NX) : kidsM s (preN p x) = (kidsM s x).map (preN p) := by
  unfold kidsM
  have main : ∀ (ps : List PredM) (l : List NX), ps.foldl (fun l q => thoseM q l) (l.map (preN p)) = (ps.foldl (fun l q => thoseM q l) l).map (preN p) := by
    intro ps
    induction ps with
    | nil => exact fun _ => rfl
    | cons q ps ih =>
      intro l
      rw [List.foldl_cons, List.foldl_cons, thoseM_pre, ih]
  have e : (preN p x).2 = x.2 := rfl
  have e1 : (preN p x).1 = p ++ x.1 := rfl
  rw [e, e1, kids0_pre, main]
theorem leadM_pre : ∀ (steps : List StepM) (p : List Int) (x : NX), leadM steps (preN p x) = (leadM steps x).map (preH p)
  | [], p, x => rfl
  | s :: r, p, x => by
    unfold leadM
    split
    · rw [List.map_map]; rfl
    · rw [kidsM_pre, List.flatMap_map, List.map_flatMap]
      congr 1
      funext y
      exact leadM_pre r p y
theorem leadM_at (steps : List StepM) (ats : List Int) (T : TT) : leadM steps (ats, T) = (leadM steps ([], T)).map (preH ats) := by
  have := leadM_pre steps ats ([], T)
  rw [← this]
  unfold preN
  rw [List.append_nil]

/-- The nodes that steps lead to. -/
def leadN : List StepM → NX → List NX
  | [], x => [x]
  | s :: r, x => (kidsM s x).flatMap (leadN r)
theorem leadM_parts : ∀ (s1 : List StepM) (s2 : List StepM) (x : NX), (∀ s ∈ s1, s.isAttr = false) → leadM (s1 ++ s2) x = (leadN s1 x).flatMap (leadM s2)
  | [], s2, x, _ => by simp [leadN]
  | s :: r, s2, x, h => by
    rw [List.cons_append]
    unfold leadM leadN
    rw [if_neg (by rw [h s (List.mem_cons_self ..)]; simp), List.flatMap_assoc]
    congr 1
    funext y
    exact leadM_parts r s2 y (fun t ht => h t (List.mem_cons_of_mem _ ht))
theorem leadM_nodes (s1 : List StepM) (x : NX) (h : ∀ s ∈ s1, s.isAttr = false) : leadM s1 x = (leadN s1 x).map fun y => (y.1, ⟨#[]⟩) := by
  have := leadM_parts s1 [] x h
  rw [List.append_nil] at this
  rw [this]
  have e : (leadM [] : NX → List (List Int × ByteArray)) = fun y => [(y.1, ⟨#[]⟩)] := by funext y; rfl
  rw [e]
  induction leadN s1 x with
  | nil => rfl
  | cons y l ih => rw [List.flatMap_cons, ih]; rfl
theorem leadN_at : ∀ (s1 : List StepM) {T0 : TT} {x : NX}, atM x.1 T0 = some x.2 → ∀ y ∈ leadN s1 x, atM y.1 T0 = some y.2 ∧ y.1.length = x.1.length + s1.length
  | [], T0, x, hx, y, hy => by
    simp only [leadN, List.mem_singleton] at hy
    subst hy; exact ⟨hx, by simp⟩
  | s :: r, T0, x, hx, y, hy => by
    unfold leadN at hy
    obtain ⟨z, hz, hyz⟩ := List.mem_flatMap.1 hy
    obtain ⟨i, hk, hp⟩ := kidsM_at hz
    have hz2 : atM z.1 T0 = some z.2 := by
      rw [hp, atM_snoc, hx, Option.bind_some, if_neg (by omega)]
      exact hk
    obtain ⟨h1, h2⟩ := leadN_at r hz2 y hyz
    refine ⟨h1, ?_⟩
    rw [h2, hp, List.length_append, List.length_cons]; simp; omega

/-- One path is ahead of another one. -/
def aheadM : List Int → List Int → Bool
  | [], [] => false
  | [], _ :: _ => true
  | _ :: _, [] => false
  | x :: a, y :: b => if x = y then aheadM a b else decide (x < y)
theorem ahead_pre (p : List Int) (i j : Int) (a b : List Int) (h : i < j) : aheadM (p ++ i :: a) (p ++ j :: b) = true := by
  induction p with
  | nil => unfold aheadM; rw [List.nil_append, List.nil_append]; dsimp only; rw [if_neg (by omega)]; simpa using h
  | cons x p ih => rw [List.cons_append, List.cons_append]; unfold aheadM; rw [if_pos rfl]; exact ih
/-- What stands behind in the order of the document. -/
def HitLt (h h' : List Int × ByteArray) : Prop := aheadM h.1 h'.1 = true ∨ (h.1 = h'.1 ∧ h.2.toList < h'.2.toList)

theorem kids0_pair (s : StepM) (ats : List Int) (kids : List TT) : ∀ k, k ≤ kids.length → (kids0 s ats kids k).Pairwise (fun y z => ∃ i j : Nat, i < j ∧ y.1 = ats ++ [(i : Int)] ∧ z.1 = ats ++ [(j : Int)]) ∧ ∀ y ∈ kids0 s ats kids k, ∃ i : Nat, i < k ∧ y.1 = ats ++ [(i : Int)] := by
  intro k
  induction k with
  | zero => intro _; simp [kids0]
  | succ k ih =>
    intro hk
    obtain ⟨h1, h2⟩ := ih (by omega)
    rw [kids0_succ s ats kids k (by omega)]
    constructor
    · rw [List.pairwise_append]
      refine ⟨h1, by split <;> simp, fun y hy z hz => ?_⟩
      obtain ⟨i, hi, he⟩ := h2 y hy
      split at hz
      · rw [List.mem_singleton] at hz
        subst hz
        exact ⟨i, k, hi, he, rfl⟩
      · cases hz
    · intro y hy
      rcases List.mem_append.1 hy with hy | hy
      · obtain ⟨i, hi, he⟩ := h2 y hy
        exact ⟨i, by omega, he⟩
      · split at hy
        · rw [List.mem_singleton] at hy
          subst hy
          exact ⟨k, by omega, rfl⟩
        · cases hy
theorem kidsM_pair (s : StepM) (x : NX) : (kidsM s x).Pairwise (fun y z => ∃ i j : Nat, i < j ∧ y.1 = x.1 ++ [(i : Int)] ∧ z.1 = x.1 ++ [(j : Int)]) :=
  List.Pairwise.sublist (kidsM_sub0 s x) (kids0_pair s x.1 x.2.kids x.2.kids.length (Nat.le_refl _)).1

theorem rises_pair : ∀ {l : List (ByteArray × ByteArray)}, rises l = true → l.Pairwise (fun a b => a.1.toList < b.1.toList)
  | [], _ => List.Pairwise.nil
  | a :: l, h => List.Pairwise.cons (fun x hx => rises_lt h x hx) (rises_pair (rises_tail h))

/-- What steps lead to stands in the order of the document, each once. -/
theorem leadM_pair : ∀ (steps : List StepM) (n : Nat) (x : NX), Thin n x.2 → (∀ t ∈ nodesM n x.2, rises t.attrs = true) → (leadM steps x).Pairwise HitLt
  | [], n, x, _, _ => List.pairwise_singleton _ _
  | s :: r, 0, x, h, _ => h.elim
  | s :: r, n + 1, x, ht, hr => by
    unfold leadM
    split
    · rw [List.pairwise_map]
      refine (List.Pairwise.filter _ (rises_pair (hr x.2 (List.mem_cons_self ..)))).imp fun h => ?_
      exact .inr ⟨rfl, h⟩
    · rw [List.pairwise_flatMap]
      refine ⟨fun y hy => ?_, (kidsM_pair s x).imp fun {y z} h a ha b hb => ?_⟩
      · have hy2 := (kidsM_mem hy).1
        exact leadM_pair r n y (ht.2 y.2 hy2) fun t hm => hr t (List.mem_cons_of_mem _ (List.mem_flatMap.2 ⟨y.2, hy2, hm⟩))
      · obtain ⟨i, j, hij, h1, h2⟩ := h
        obtain ⟨y1, y2⟩ := y
        obtain ⟨z1, z2⟩ := z
        dsimp only at h1 h2 ha hb
        subst h1 h2
        rw [leadM_at] at ha hb
        obtain ⟨a', _, rfl⟩ := List.mem_map.1 ha
        obtain ⟨b', _, rfl⟩ := List.mem_map.1 hb
        refine .inl ?_
        unfold preH
        dsimp only
        rw [List.append_assoc, List.append_assoc, List.singleton_append, List.singleton_append]
        exact ahead_pre _ _ _ _ _ (by omega)

/-- A part of a path without a fault has none. -/
theorem pcheck_all {l : List StepM} : pcheckM l = 0 ↔ l.length ≤ 32 ∧ (∀ s ∈ l, manyP s = false) ∧ formedM l = true ∧ (∀ s ∈ l, namedS s = true) ∧ ∀ s ∈ l, writtenS s = true := by
  unfold pcheckM
  constructor
  · intro h
    by_cases h1 : (decide (32 < l.length) || l.any manyP) = true
    · rw [if_pos h1] at h; simp at h
    rw [if_neg h1] at h
    by_cases h2 : formedM l = false
    · rw [if_pos h2] at h; simp at h
    rw [if_neg h2] at h
    by_cases h3 : (l.any fun s => !namedS s) = true
    · rw [if_pos h3] at h; simp at h
    rw [if_neg h3] at h
    by_cases h4 : (l.any fun s => !writtenS s) = true
    · rw [if_pos h4] at h; simp at h
    simp only [Bool.not_eq_true, Bool.or_eq_false_iff, decide_eq_false_iff_not, List.any_eq_false] at h1 h3 h4
    exact ⟨by omega, fun s hs => by simpa using h1.2 s hs, by simpa using h2, fun s hs => by simpa using h3 s hs, fun s hs => by simpa using h4 s hs⟩
  · rintro ⟨h1, h2, h3, h4, h5⟩
    rw [if_neg (by simp only [Bool.not_eq_true, Bool.or_eq_false_iff, decide_eq_false_iff_not, List.any_eq_false]; exact ⟨by omega, fun s hs => by simp [h2 s hs]⟩), if_neg (by rw [h3]; simp),
      if_neg (by simp only [Bool.not_eq_true, List.any_eq_false]; exact fun s hs => by simp [h4 s hs]), if_neg (by simp only [Bool.not_eq_true, List.any_eq_false]; exact fun s hs => by simp [h5 s hs])]
theorem formed_iff {l : List StepM} : formedM l = true ↔ ∀ k (hk : k < l.length), okStep (k + 1 == l.length) l[k] = true := by
  unfold formedM
  rw [List.all_eq_true]
  constructor
  · intro h k hk
    have := h k (List.mem_range.2 hk)
    rwa [List.getElem?_eq_getElem hk, Option.map_some, Option.getD_some] at this
  · intro h k hk
    have hk' := List.mem_range.1 hk
    rw [List.getElem?_eq_getElem hk', Option.map_some, Option.getD_some]
    exact h k hk'
theorem okStep_last {s : StepM} (b : Bool) (h : okStep false s = true) : okStep b s = true ∧ s.isAttr = false := by
  unfold okStep at h ⊢
  rw [Bool.and_eq_true] at h ⊢
  obtain ⟨h1, h2⟩ := h
  cases ha : s.isAttr
  · exact ⟨⟨by simp, h2⟩, rfl⟩
  · rw [ha] at h1; simp at h1
theorem pcheck_take {l : List StepM} (h : pcheckM l = 0) (k : Nat) (hk : k ≤ l.length) : pcheckM (l.take k) = 0 ∧ (k < l.length → ∀ s ∈ l.take k, s.isAttr = false) := by
  obtain ⟨h1, h2, h3, h4, h5⟩ := pcheck_all.1 h
  have hm : ∀ s ∈ l.take k, s ∈ l := fun s hs => List.mem_of_mem_take hs
  rw [formed_iff] at h3
  refine ⟨pcheck_all.2 ⟨by rw [List.length_take]; omega, fun s hs => h2 s (hm s hs), ?_, fun s hs => h4 s (hm s hs), fun s hs => h5 s (hm s hs)⟩, fun hlt s hs => ?_⟩
  · rw [formed_iff]
    intro i hi
    rw [List.length_take, Nat.min_eq_left hk] at hi ⊢
    rw [List.getElem_take]
    have h6 := h3 i (by omega)
    by_cases he : i + 1 = l.length
    · have e1 : (i + 1 == l.length) = true := by simpa using he
      have e2 : (i + 1 == k) = true := by simp; omega
      rw [e1] at h6; rw [e2]; exact h6
    · have e1 : (i + 1 == l.length) = false := by simpa using he
      rw [e1] at h6
      exact (okStep_last _ h6).1
  · obtain ⟨i, hi, rfl⟩ := List.getElem_of_mem hs
    rw [List.length_take, Nat.min_eq_left hk] at hi
    rw [List.getElem_take]
    have h6 := h3 i (by omega)
    have e1 : (i + 1 == l.length) = false := by simp; omega
    rw [e1] at h6
    exact (okStep_last false h6).2
theorem pcheck_drop {l : List StepM} (h : pcheckM l = 0) (k : Nat) : pcheckM (l.drop k) = 0 := by
  obtain ⟨h1, h2, h3, h4, h5⟩ := pcheck_all.1 h
  have hm : ∀ s ∈ l.drop k, s ∈ l := fun s hs => List.mem_of_mem_drop hs
  rw [formed_iff] at h3
  refine pcheck_all.2 ⟨by rw [List.length_drop]; omega, fun s hs => h2 s (hm s hs), ?_, fun s hs => h4 s (hm s hs), fun s hs => h5 s (hm s hs)⟩
  rw [formed_iff]
  intro i hi
  rw [List.length_drop] at hi ⊢
  rw [List.getElem_drop]
  have h6 := h3 (k + i) (by omega)
  have e : (k + i + 1 == l.length) = (i + 1 == l.length - k) := by
    rw [Bool.eq_iff_iff, beq_iff_eq, beq_iff_eq]; omega
  rw [e] at h6; exact h6

end Go.Proofs.YtoknglpfchjbjaaDoor

/- spyglasslaw16.ahead: is a path ahead of another one? Conditions: none. -/
namespace Go.Proofs.YtoknglpfchjbjaaDoor
open Go.RowKit Go.Sp Go.Maps

theorem aheadM_skip : ∀ {k : Nat} {xs ys : List Int}, k ≤ xs.length → k ≤ ys.length → xs.take k = ys.take k → aheadM xs ys = aheadM (xs.drop k) (ys.drop k)
  | 0, xs, ys, _, _, _ => rfl
  | k + 1, [], _, h, _, _ => by simp at h
  | k + 1, _ :: _, [], _, h, _ => by simp at h
  | k + 1, x :: xs, y :: ys, h1, h2, h => by
    rw [List.take_succ_cons, List.take_succ_cons] at h
    obtain ⟨rfl, h3⟩ := List.cons.inj h
    rw [List.drop_succ_cons, List.drop_succ_cons, ← aheadM_skip (by simpa using h1) (by simpa using h2) h3]
    conv => lhs; unfold aheadM
    rw [if_pos rfl]
theorem aheadM_ne {k : Nat} {xs ys : List Int} (hx : k < xs.length) (hy : k < ys.length) (h : xs.take k = ys.take k) (hne : xs[k] ≠ ys[k]) : aheadM xs ys = decide (xs[k] < ys[k]) := by
  rw [aheadM_skip (by omega) (by omega) h, List.drop_eq_getElem_cons hx, List.drop_eq_getElem_cons hy]
  unfold aheadM
  rw [if_neg hne]
theorem aheadM_end {k : Nat} {xs ys : List Int} (hx : k ≤ xs.length) (hy : k ≤ ys.length) (hk : k = xs.length ∨ k = ys.length) (h : xs.take k = ys.take k) : aheadM xs ys = decide (xs.length < ys.length) := by
  rw [aheadM_skip hx hy h]
  rcases hk with rfl | rfl
  · rw [List.drop_length]
    by_cases hl : xs.length < ys.length
    · rw [List.drop_eq_getElem_cons hl, decide_eq_true hl]; rfl
    · rw [List.drop_eq_nil_of_le (by omega), decide_eq_false hl]; rfl
  · rw [List.drop_length]
    by_cases hl : ys.length < xs.length
    · rw [List.drop_eq_getElem_cons hl, decide_eq_false (by omega)]; rfl
    · rw [List.drop_eq_nil_of_le (by omega), decide_eq_false (by omega)]; rfl

set_option maxRecDepth 100000 in
set_option maxHeartbeats 4000000 in
theorem ahead_any (F G : Nat → Prop) (a b : Option Addr) (ca cb : Nat) (xs ys : List Int) (w : World) (hx : Sl (Shape.int .i64) F w a xs) (hy : Sl (Shape.int .i64) G w b ys) (hF : ∀ k, F k → k < w.heap.size) (hG : ∀ k, G k → k < w.heap.size) (hxl : xs.length ≤ 100000) (hyl : ys.length ≤ 100000) :
    Calls Tryd.prog 15 #[.slice a xs.length ca, .slice b ys.length cb] w (Is16 (aheadM xs ys) w) := by
  have HX := Sp.hid hx
  have HY := Sp.hid hy
  have HF := Sp.hid hF
  have HG := Sp.hid hG
  clear hx hy hF hG
  go_enter Tryd.func15, Tryd.ntmps15
  go_wp2
  go_loopw [5] (fun i wr => ∃ k : Nat, k ≤ xs.length ∧ k ≤ ys.length ∧ i = .int .i64 k ∧ xs.take k = ys.take k ∧ Below w.heap.size w wr) (fun i _ => xs.length - (intOf i).toNat)
  case atStart => exact ⟨0, by omega, by omega, rfl, rfl, Below.refl _ _⟩
  case round =>
    obtain ⟨k, hk, hk2, rfl, ht, hb⟩ := hrel
    have HT := Sp.hid ht
    have HB := Sp.hid hb
    clear ht hb
    by_cases hlt : k < xs.length
    · by_cases hlt2 : k < ys.length
      · obtain ⟨b1, o1, rfl, f1, e1⟩ := HX.out.int_cell k hlt
        obtain ⟨b2, o2, rfl, f2, e2⟩ := HY.out.int_cell k hlt2
        have c1 : wr.cell? ⟨b1, o1 + k, none⟩ = some (.int .i64 xs[k]) := by rw [HB.out.cell (p := ⟨b1, _, none⟩) (HF.out _ f1)]; exact e1
        have c2 : wr.cell? ⟨b2, o2 + k, none⟩ = some (.int .i64 ys[k]) := by rw [HB.out.cell (p := ⟨b2, _, none⟩) (HG.out _ f2)]; exact e2
        have hi0 : ((k : Int) < (xs.length : Int)) := by omega
        have hk0 : ((k : Int) < (ys.length : Int)) := by omega
        clear e1 e2
        cases hne2 : (xs[k] != ys[k])
        · have heq : xs[k] = ys[k] := by simpa using hne2
          have HE := Sp.hid heq
          clear heq
          go_wp2_with fail
          go_quiet (fail)
          go_wp2
          go_roundw
          case rel => exact ⟨k + 1, by omega, by omega, by go_num, take_next16 hlt hlt2 HT.out HE.out, below_drewN HB.out _⟩
          case measure => simp [intOf]; omega
        · have HN := Sp.hid (aheadM_ne hlt hlt2 HT.out (by simpa using hne2))
          go_wp2_with fail
          go_quiet (fail)
          go_wp2_with fail
          go_quiet (fail)
          go_wp2
          go_ret
          exact ⟨by rw [HN.out]; rfl, below_drewN (below_drewN HB.out _) _⟩
      · have HN := Sp.hid (aheadM_end hk hk2 (.inr (by omega)) HT.out)
        have hi0 : ((k : Int) < (xs.length : Int)) := by omega
        have hk0 : ¬ ((k : Int) < (ys.length : Int)) := by omega
        go_wp2
        go_ret
        exact ⟨by rw [HN.out] <;> rfl, HB.out⟩
    · have HN := Sp.hid (aheadM_end hk hk2 (.inl (by omega)) HT.out)
      have hi0 : ¬ ((k : Int) < (xs.length : Int)) := by omega
      go_wp2
      go_ret
      exact ⟨by rw [HN.out] <;> rfl, HB.out⟩

end Go.Proofs.YtoknglpfchjbjaaDoor

/- Pieces of the walk of PathParts: Select and At where they succeed; a part of a slice; integers appended. Conditions: none. -/
namespace Go.Proofs.YtoknglpfchjbjaaDoor
open Go.RowKit Go.Sp Go.Maps

/-- Select, of a tree and a path without a fault. -/
def SelOk (T : TT) (steps : List StepM) (w : World) (e : Ending) (w' : World) : Prop := Below w.heap.size w w' ∧ ∃ a c, e = .returned (.tuple #[.slice a (leadM steps ([], T)).length c, .int .i64 0]) ∧ Sl hitS (· < w'.heap.size) w' a (leadM steps ([], T))
theorem sel_ok {m n₀ : Nat} {vs : Array Value} {T : TT} {steps : List StepM} {sa : Option Addr} {sc : Nat} {w : World} (hm : m ≤ 2000000) (h : NodeAt n₀ m w vs T) (hsl : Sl pstepS (· < n₀) w sa steps) (hn₀ : n₀ ≤ w.heap.size) (hsc : steps.length ≤ sc) (hsp : SpansAt w) (hck : checkM m T = 0) (hp : pcheckM steps = 0) :
    Calls Tryd.prog 14 #[.agg vs, .agg #[.slice sa steps.length sc]] w (SelOk T steps w) := by
  refine (select_any m hm n₀ vs T steps sa sc w h hsl hn₀ hsc (by have := pcheckM_zero hp; omega) hsp).mono ?_
  rintro e w' ⟨hb, ⟨h0, -⟩ | ⟨-, h1, -⟩ | ⟨-, -, a, c, he, hs⟩⟩
  · exact absurd hck h0
  · exact absurd hp h1
  · exact ⟨hb, a, c, he, hs⟩

/-- A part of a path in memory. -/
theorem sl_take {F : Nat → Prop} {w : World} {a : Option Addr} {l : List StepM} (h : Sl pstepS F w a l) (k : Nat) : Sl pstepS F w a (l.take k) := by
  intro i hi
  rw [List.length_take] at hi
  obtain ⟨b, o, vs, h1, h2, h3, h4⟩ := h i (by omega)
  exact ⟨b, o, vs, h1, h2, by rw [List.getElem_take]; exact h3, h4⟩
theorem sl_drop {F : Nat → Prop} {w : World} {b o : Nat} {l : List StepM} (h : Sl pstepS F w (some ⟨b, o, none⟩) l) (k : Nat) : Sl pstepS F w (some ⟨b, o + k * 3, none⟩) (l.drop k) := by
  intro i hi
  rw [List.length_drop] at hi
  obtain ⟨b', o', vs, h1, h2, h3, h4⟩ := h (k + i) (by omega)
  cases h1
  refine ⟨b, o + k * 3, vs, rfl, h2, by rw [List.getElem_drop]; exact h3, ?_⟩
  have e : o + k * 3 + i * pstepS.sz = o + (k + i) * pstepS.sz := by
    show o + k * 3 + i * 3 = o + (k + i) * 3
    omega
  rw [e]; exact h4

theorem infoIntP : (Tryd.prog.info? 3).map (fun i => (i.zero, i.size, i.bytes)) = some (some (.int .i64 0), 1, 8) := by kernel_rfl

/-- Integers out of wherever they lie, appended to a row that the call owns. -/
theorem wpList_append_ints {ops : Array Oper} {rest : List Oper} {o : Oper} {a : Act} {Q : Exit → Act → World → Prop} {w : World} (hgd : o.guard = none) (s x : Operand)
    (ho : o.op = .call { callee := .builtin .append, args := #[s, x], argTypes := #[51, 51] })
    (base : Nat) (v : Value) (n : Nat) (xs : List Value) (hs : a.eval s = v) (hown : w.ownsRow base 3 1 v n xs)
    (F : Nat → Prop) (va : Option Addr) (vc : Nat) (ys : List Int) (hx : a.eval x = .slice va ys.length vc) (hsl : Sl (Shape.int .i64) F w va ys) (hl : n + ys.length ≤ 1048576) (hbase : base ≤ w.heap.size)
    (h : ∀ v' w', w'.ownsRow base 3 1 v' (n + ys.length) (xs ++ ys.map (Value.int .i64)) → w.grownBy w' v.ownBlock → wpList Tryd.prog ops Q rest (a.put o.dst v') w') :
    wpList Tryd.prog ops Q (o :: rest) a w := by
  obtain ⟨i0, hi0, hz0, hz1, hz2⟩ := info_parts infoIntP
  by_cases hy : ys = []
  · subst hy
    have hsrc : Src Tryd.prog i0.size 51 (.slice va 0 vc) 0 [] w :=
      { kind := .inl ⟨_, Tryd.underlying51⟩
        len := fun _ => by simp [Builtin.lenOf]
        cells := by cases va <;> simp [Builtin.firstCells, loadCells, loadCellsFrom]
        cellsD := by cases va <;> simp [Builtin.firstCells, loadCells, loadCellsFrom]
        newsLen := by simp
        one := by simp }
    obtain ⟨ao, c, hv, hc⟩ := own_slice_cap hown
    subst hv
    refine wpList_plain hgd fun K hK => ?_
    have hr := run_append_nothing w 51 51 o.type 3 i0 Tryd.underlying51 hi0 ao n c hc (.slice va 0 vc) hsrc
    unfold Oper.wp execOp
    simp only [List.length_nil] at hx
    simp only [ho, resolve, invoke, builtin, Sem.run_bind, Sem.run_pure, Result.andThen_ok, List.map_toArray, List.map_cons, List.map_nil, hs, hx, hr]
    exact hK _ _ (h _ w (by simpa using hown) (grown_refl _ _))
  · obtain ⟨y0, yr, hyc⟩ : ∃ y0 yr, ys = y0 :: yr := by
      cases ys with
      | nil => exact absurd rfl hy
      | cons y0 yr => exact ⟨y0, yr, rfl⟩
    obtain ⟨b, of, hva, -, -⟩ := hsl.int_cell 0 (by rw [hyc]; simp)
    subst hva
    refine wpList_append_own_at _ hgd s x 51 ho base 3 i0 _ 1 8 Tryd.underlying51 hi0 hz0 hz1 hz2 rfl (by decide) v n xs hs hown ⟨b, of, none⟩ ys.length vc (ys.map (Value.int .i64)) hx (by simp) (fun j u hj => ?_) (fun u hu => ?_) (by unfold maxLen; omega) (by omega) hbase (fun v' w' h1 h2 _ _ => h v' w' h1 h2)
    · rw [List.getElem?_map] at hj
      obtain ⟨y, hy1, rfl⟩ := Option.map_eq_some_iff.1 hj
      obtain ⟨hjl, rfl⟩ := List.getElem?_eq_some_iff.1 hy1
      obtain ⟨b', o', he, -, hc⟩ := hsl.int_cell j hjl
      cases he
      have hadd : (⟨b, of, none⟩ : Addr).add j = ⟨b, of + j, none⟩ := by unfold Addr.add; split <;> simp_all
      rw [hadd]; exact hc
    · obtain ⟨y, _, rfl⟩ := List.mem_map.1 hu
      rfl

/-- A row of integers that the call owns, as a slice. -/
theorem own_intsP {w : World} {base : Nat} {v : Value} {ys : List Int} (h : w.ownsRow base 3 1 v ys.length (ys.map (Value.int .i64))) : ∃ a c, v = .slice a ys.length c ∧ Sl (Shape.int .i64) (· < w.heap.size) w a ys := by
  rcases h.2 with ⟨rfl, h0⟩ | ⟨g, cap, cur, rfl, hg, hh, hc, hm, hs, ht⟩
  · refine ⟨none, 0, by rw [h0], ?_⟩
    have : ys = [] := List.length_eq_zero_iff.1 h0
    subst this; exact Sl.nil
  · refine ⟨some ⟨g, 0, none⟩, cap, rfl, fun i hi => ⟨g, 0, [.int .i64 ys[i]], rfl, (h.lt g rfl).2, rfl, fun j hj => ?_⟩⟩
    have hj0 : j = 0 := by simpa using hj
    subst hj0
    have := h.cells (g := g) rfl i (.int .i64 ys[i]) (by rw [List.getElem?_map, List.getElem?_eq_getElem hi]; rfl)
    have hadd : (⟨g, 0, none⟩ : Addr).add i = ⟨g, i, none⟩ := by unfold Addr.add; split <;> simp_all
    rw [hadd] at this
    have e : 0 + i * (Shape.int .i64).sz + 0 = i := by show 0 + i * 1 + 0 = i; omega
    rw [e]; exact this

theorem slice_take (a : Option Addr) (n c k : Nat) (hk : k ≤ c) (w : World) : (Instr.sliceAt 40 (.slice a n c) none (some (.int .i64 (k : Nat))) none).run Tryd.prog w = .ok (.slice a k c) w := by
  have he : Tryd.prog.elem 40 = 58 := by kernel_rfl
  have ht : Tryd.prog.underlying 40 = some (.slice (Tryd.prog.elem 40)) := by rw [he]; exact Tryd.underlying40
  rw [run_sliceAt_slice w _ _ _ _ _ ht, run_slice_h w _ _ _ _ ht .i64 _ (by omega) (by omega), he, Tryd.sizeOf58]
  simp only [Result.andThen, sliced]
  cases a <;> simp [Addr.add]
theorem slice_drop (b o n c k : Nat) (hk : k < n) (hc : n ≤ c) (w : World) : (Instr.sliceAt 40 (.slice (some ⟨b, o, none⟩) n c) (some (.int .i64 (k : Nat))) none none).run Tryd.prog w = .ok (.slice (some ⟨b, o + k * 3, none⟩) (n - k) (c - k)) w := by
  have he : Tryd.prog.elem 40 = 58 := by kernel_rfl
  have ht : Tryd.prog.underlying 40 = some (.slice (Tryd.prog.elem 40)) := by rw [he]; exact Tryd.underlying40
  rw [run_sliceAt_slice w _ _ _ _ _ ht, run_slice_l w _ _ _ _ ht .i64 _ (by omega) (by omega), he, Tryd.sizeOf58]
  simp only [Result.andThen, sliced]
  have e : ¬ c = k := by omega
  simp only [Int.toNat_natCast, if_neg e, Option.map_some]
  have hadd : (⟨b, o, none⟩ : Addr).add (k * 3) = ⟨b, o + k * 3, none⟩ := by unfold Addr.add; split <;> simp_all
  rw [hadd]

end Go.Proofs.YtoknglpfchjbjaaDoor

/- A region of thirteen operations: tree.At is called, and what it returns is laid into a new block. Conditions: none. -/
namespace Go.Proofs.YtoknglpfchjbjaaDoor
open Go.RowKit Go.Sp Go.Maps

/-- At, of a path that leads to a node. -/
theorem at_ok {n₀ n : Nat} {vs : Array Value} {T T' : TT} {F : Nat → Prop} {ats : List Int} {a : Option Addr} {c : Nat} {w : World} (ha : atM ats T = some T') (h : NodeAt n₀ n w vs T) (hn₀ : n₀ ≤ w.heap.size) (hats : Sl (Shape.int .i64) F w a ats) (hF : ∀ k, F k → k < w.heap.size) (hl : ats.length ≤ 100000) :
    Calls Tryd.prog 17 #[.agg vs, .slice a ats.length c] w fun e w' => Below w.heap.size w w' ∧ ∃ vs', e = .returned (.tuple #[.agg vs', .int .i64 0]) ∧ NodeAt n₀ n w' vs' T' := by
  have h1 := at_any n₀ n vs T F ats a c w h hn₀ hats hF hl
  rw [ha] at h1
  exact h1

abbrev zeroTV : Array Value := #[.string ⟨#[]⟩, .string ⟨#[]⟩, .slice none 0 0, .slice none 0 0]
/-- What is known of the value of an operation that has been. -/
def F21 (n₀ m B : Nat) (tv : Value) (fa : Value) (k : Nat) (ptr : Value) (sv : Value) (T : TT) (i : Nat) (L : Nat → Bool) (u : Nat → Value) (y : World) : Prop :=
  match i with
  | 0 => u 0 = tv
  | 1 => u 1 = fa
  | 2 => u 2 = .int .i64 (k : Nat)
  | 3 => u 3 = ptr
  | 4 => u 4 = ptr
  | 5 => u 5 = sv
  | 6 => ∃ vs, u 6 = .tuple #[.agg vs, .int .i64 0] ∧ NodeAt n₀ m y vs T
  | 7 => ∃ vs, u 7 = .tuple #[.agg vs, .int .i64 0] ∧ NodeAt n₀ m y vs T
  | 8 => ∃ vs, u 8 = .agg vs ∧ NodeAt n₀ m y vs T
  | 9 => u 9 = .int .i64 0
  | 10 => ∃ z, u 10 = .pointer (some ⟨z, 0, none⟩) ∧ B ≤ z ∧ (L 11 = false → y.heap[z]? = some (.cells zeroTV 27 (0, 0))) ∧ (L 11 = true → ∃ vs, y.heap[z]? = some (.cells vs 27 (0, 0)) ∧ NodeAt n₀ m y vs T)
  | 11 => L 10 = true
  | 12 => u 12 = .int .i64 0
  | _ => True
def Inv21 (n₀ m : Nat) (w9 : World) (tv : Value) (fa : Value) (k : Nat) (ptr : Value) (sv : Value) (T : TT) (L : Nat → Bool) (u : Nat → Value) (y : World) : Prop :=
  Below w9.heap.size w9 y ∧ ∀ i, L i = true → F21 n₀ m w9.heap.size tv fa k ptr sv T i L u y

section
variable {n₀ m : Nat} {w9 : World} {tv fa : Value} {k : Nat} {ptr sv : Value} {T : TT} {L : Nat → Bool} {u : Nat → Value} {y y' : World}
theorem inv21_put (hn : n₀ ≤ w9.heap.size) (h : Inv21 n₀ m w9 tv fa k ptr sv T L u y) (i : Nat) (hi : i ≠ 11) (v : Value) (hb : Below y.heap.size y y') (hnew : F21 n₀ m w9.heap.size tv fa k ptr sv T i (updB L i) (updU u i v) y') : Inv21 n₀ m w9 tv fa k ptr sv T (updB L i) (updU u i v) y' := by
  obtain ⟨h1, h2⟩ := h
  have hs := h1.size
  refine ⟨h1.trans (hb.mono hs), fun j hj => ?_⟩
  by_cases hji : j = i
  · subst hji; exact hnew
  have hL : ∀ q, q ≠ i → updB L i q = L q := fun q hq => by unfold updB; rw [if_neg hq]
  have hU : ∀ q, q ≠ i → updU u i v q = u q := fun q hq => by unfold updU; rw [if_neg hq]
  rw [hL j hji] at hj
  have hf := h2 j hj
  have hnb : ∀ vs, NodeAt n₀ m y vs T → NodeAt n₀ m y' vs T := fun vs hv => hv.below (hb.mono (by omega))
  match j, hji, hf with
  | 0, hji, hf => show updU u i v 0 = _; rw [hU 0 hji]; exact hf
  | 1, hji, hf => show updU u i v 1 = _; rw [hU 1 hji]; exact hf
  | 2, hji, hf => show updU u i v 2 = _; rw [hU 2 hji]; exact hf
  | 3, hji, hf => show updU u i v 3 = _; rw [hU 3 hji]; exact hf
  | 4, hji, hf => show updU u i v 4 = _; rw [hU 4 hji]; exact hf
  | 5, hji, hf => show updU u i v 5 = _; rw [hU 5 hji]; exact hf
  | 6, hji, hf => obtain ⟨vs, e, hv⟩ := hf; exact ⟨vs, by rw [hU 6 hji]; exact e, hnb vs hv⟩
  | 7, hji, hf => obtain ⟨vs, e, hv⟩ := hf; exact ⟨vs, by rw [hU 7 hji]; exact e, hnb vs hv⟩
  | 8, hji, hf => obtain ⟨vs, e, hv⟩ := hf; exact ⟨vs, by rw [hU 8 hji]; exact e, hnb vs hv⟩
  | 9, hji, hf => show updU u i v 9 = _; rw [hU 9 hji]; exact hf
  | 10, hji, hf =>
    obtain ⟨z, e, hz, h3, h4⟩ := hf
    refine ⟨z, by rw [hU 10 hji]; exact e, hz, fun hl => ?_, fun hl => ?_⟩
    · rw [hL 11 (Ne.symm hi)] at hl
      exact (hb.block z (Array.getElem?_eq_some_iff.1 (h3 hl)).1).trans (h3 hl)
    · rw [hL 11 (Ne.symm hi)] at hl
      obtain ⟨vs, e1, hv⟩ := h4 hl
      exact ⟨vs, (hb.block z (Array.getElem?_eq_some_iff.1 e1).1).trans e1, hnb vs hv⟩
  | 11, hji, hf =>
    show updB L i 10 = true
    by_cases h10 : (10 : Nat) = i
    · subst h10; unfold updB; simp
    · rw [hL 10 h10]; exact hf
  | 12, hji, hf => show updU u i v 12 = _; rw [hU 12 hji]; exact hf
  | _ + 13, _, _ => trivial
/-- The store. -/
theorem inv21_store (hn : n₀ ≤ w9.heap.size) (h : Inv21 n₀ m w9 tv fa k ptr sv T L u y) (h10 : L 10 = true) (v : Value) {z : Nat} (hz : u 10 = .pointer (some ⟨z, 0, none⟩)) {vs : Array Value} (hv : NodeAt n₀ m y vs T) (hzl : w9.heap.size ≤ z)
    (hk : ∀ b, b ≠ z → y'.heap[b]? = y.heap[b]?) (hsz : y'.heap.size = y.heap.size) (hos : y'.os = y.os) (htp : y'.tape = y.tape) (hou : y'.output = y.output) (hnew : y'.heap[z]? = some (.cells vs 27 (0, 0))) :
    Inv21 n₀ m w9 tv fa k ptr sv T (updB L 11) (updU u 11 v) y' := by
  obtain ⟨h1, h2⟩ := h
  have hs := h1.size
  have hb : Below w9.heap.size y y' := ⟨hos, htp, hou, by omega, fun b hb => hk b (by omega)⟩
  refine ⟨h1.trans hb, fun j hj => ?_⟩
  have hL : ∀ q, q ≠ 11 → updB L 11 q = L q := fun q hq => by unfold updB; rw [if_neg hq]
  have hU : ∀ q, q ≠ 11 → updU u 11 v q = u q := fun q hq => by unfold updU; rw [if_neg hq]
  have hnb : ∀ vs, NodeAt n₀ m y vs T → NodeAt n₀ m y' vs T := fun vs hv => hv.below (hb.mono hn)
  by_cases hj11 : j = 11
  · subst hj11; show updB L 11 10 = true; rw [hL 10 (by decide)]; exact h10
  rw [hL j hj11] at hj
  have hf := h2 j hj
  match j, hj11, hf with
  | 0, hji, hf => show updU u 11 v 0 = _; rw [hU 0 hji]; exact hf
  | 1, hji, hf => show updU u 11 v 1 = _; rw [hU 1 hji]; exact hf
  | 2, hji, hf => show updU u 11 v 2 = _; rw [hU 2 hji]; exact hf
  | 3, hji, hf => show updU u 11 v 3 = _; rw [hU 3 hji]; exact hf
  | 4, hji, hf => show updU u 11 v 4 = _; rw [hU 4 hji]; exact hf
  | 5, hji, hf => show updU u 11 v 5 = _; rw [hU 5 hji]; exact hf
  | 6, hji, hf => obtain ⟨vs, e, hv⟩ := hf; exact ⟨vs, by rw [hU 6 hji]; exact e, hnb vs hv⟩
  | 7, hji, hf => obtain ⟨vs, e, hv⟩ := hf; exact ⟨vs, by rw [hU 7 hji]; exact e, hnb vs hv⟩
  | 8, hji, hf => obtain ⟨vs, e, hv⟩ := hf; exact ⟨vs, by rw [hU 8 hji]; exact e, hnb vs hv⟩
  | 9, hji, hf => show updU u 11 v 9 = _; rw [hU 9 hji]; exact hf
  | 10, hji, hf =>
    refine ⟨z, by rw [hU 10 hji]; exact hz, hzl, fun hl => ?_, fun _ => ⟨vs, hnew, hnb vs hv⟩⟩
    unfold updB at hl; simp at hl
  | 12, hji, hf => show updU u 11 v 12 = _; rw [hU 12 hji]; exact hf
  | _ + 13, _, _ => trivial
end

end Go.Proofs.YtoknglpfchjbjaaDoor

/- Where a part of what steps lead to stands in the whole. Plain: no program in sight. Conditions: none. -/
namespace Go.Proofs.YtoknglpfchjbjaaDoor
open Go.RowKit Go.Sp Go.Maps

theorem flat_at {α β : Type} (f : α → List β) (l : List α) (k j : Nat) (hk : k < l.length) (hj : j < (f l[k]).length) :
    ∃ h : ((l.take k).flatMap f).length + j < (l.flatMap f).length, (l.flatMap f)[((l.take k).flatMap f).length + j] = (f l[k])[j] := by
  have e : l.flatMap f = (l.take k).flatMap f ++ (f l[k] ++ (l.drop (k + 1)).flatMap f) := by
    conv => lhs; rw [← List.take_append_drop k l, List.drop_eq_getElem_cons hk]
    rw [List.flatMap_append, List.flatMap_cons]
  have h : ((l.take k).flatMap f).length + j < (l.flatMap f).length := by
    rw [e, List.length_append, List.length_append]; omega
  refine ⟨h, ?_⟩
  have h2 : (l.flatMap f)[((l.take k).flatMap f).length + j]? = some (f l[k])[j] := by
    rw [e, List.getElem?_append_right (by omega), Nat.add_sub_cancel_left, List.getElem?_append_left hj, List.getElem?_eq_getElem hj]
  rw [List.getElem?_eq_getElem h] at h2
  exact Option.some.inj h2

/-- By a part of the path to a node, and from there by the rest. -/
theorem parts_at {steps : List StepM} {NB : List NX} {A : List (List Int × ByteArray)} {k nn : Nat} {y : NX} (hA : A = NB.flatMap (leadM steps)) (hn : nn = ((NB.take k).flatMap (leadM steps)).length) (hk : k < NB.length) (hy : y = NB[k]) :
    ((NB.take (k + 1)).flatMap (leadM steps)).length = nn + (leadM steps ([], y.2)).length ∧ nn + (leadM steps ([], y.2)).length ≤ A.length ∧
    ∀ j (hj : j < (leadM steps ([], y.2)).length), ∃ h : nn + j < A.length, A[nn + j] = (y.1 ++ (leadM steps ([], y.2))[j].1, (leadM steps ([], y.2))[j].2) := by
  subst hA hn hy
  have e : leadM steps NB[k] = (leadM steps ([], NB[k].2)).map (preH NB[k].1) := leadM_at steps NB[k].1 NB[k].2
  refine ⟨?_, ?_, fun j hj => ?_⟩
  · rw [List.take_succ_eq_append_getElem hk, List.flatMap_append, List.length_append, List.flatMap_cons, List.flatMap_nil, List.append_nil, e, List.length_map]
  · conv => rhs; rw [← List.take_append_drop k NB, List.drop_eq_getElem_cons hk]
    rw [List.flatMap_append, List.flatMap_cons, List.length_append, List.length_append, e, List.length_map]
    omega
  · obtain ⟨h, h2⟩ := flat_at (leadM steps) NB k j hk (by rw [e, List.length_map]; exact hj)
    refine ⟨h, h2.trans ?_⟩
    have h3 : (leadM steps NB[k])[j]? = some (preH NB[k].1 (leadM steps ([], NB[k].2))[j]) := by
      rw [e, List.getElem?_map, List.getElem?_eq_getElem hj]; rfl
    rw [List.getElem?_eq_getElem (by rw [e, List.length_map]; exact hj)] at h3
    exact Option.some.inj h3

/-- The same, with what the rest leads to named. -/
theorem parts_named {steps : List StepM} {NB : List NX} {A C : List (List Int × ByteArray)} {k nn : Nat} {y : NX} (hA : A = NB.flatMap (leadM steps)) (hn : nn = ((NB.take k).flatMap (leadM steps)).length) (hk : k < NB.length) (hy : y = NB[k]) (hC : C = leadM steps ([], y.2)) :
    ((NB.take (k + 1)).flatMap (leadM steps)).length = nn + C.length ∧ nn + C.length ≤ A.length ∧ ∀ j (hj : j < C.length), ∃ h : nn + j < A.length, A[nn + j] = (y.1 ++ C[j].1, C[j].2) := by
  subst hC
  exact parts_at hA hn hk hy

end Go.Proofs.YtoknglpfchjbjaaDoor
