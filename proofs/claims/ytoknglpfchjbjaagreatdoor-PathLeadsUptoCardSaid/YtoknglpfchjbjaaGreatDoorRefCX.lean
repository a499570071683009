/- Merged: What is wrong with steps, asked of the list, is what is wrong with their tree · The document's Is, Bytes and Read of characters · The document's names and characters: spyglassref01.All, spyglassref02.Is, Chars · spyglassref04.Count, Check: what each call returns. Conditions: those of the parts. -/
import Derived.Test.YtoknglpfchjbjaaGreatDoorCheckA
import Derived.Test.YtoknglpfchjbjaaGreatDoorRawX
import Derived.Test.YtoknglpfchjbjaaGreatDoorUtfX
import Derived.Maps.Own
import Derived.Deep.QuietTactic
import Derived.Test.YtoknglpfchjbjaaGreatDoorFaults
import Derived.Test.YtoknglpfchjbjaaGreatDoorReadX
/- What is wrong with steps, asked of the list, is what is wrong with their tree. Plain: no program in sight. Conditions: none. -/
namespace Go.Proofs.YtoknglpfchjbjaaGreatDoor
open Go.RowKit Go.Sp Go.Maps

theorem empty_of {s : ByteArray} (h : s.toList.isEmpty = true) : s = ⟨#[]⟩ := by
  rw [ByteArray.toList_eq] at h
  cases s with
  | mk d =>
    have h2 : d.toList = (#[] : Array UInt8).toList := List.isEmpty_iff.1 h
    rw [Array.toList_inj.1 h2]

theorem empty_nil : (⟨#[]⟩ : ByteArray).toList.isEmpty = true := by rw [ByteArray.toList_eq]; rfl
theorem flat_congr {α β : Type} {l : List α} {f g : α → List β} (h : ∀ x ∈ l, f x = g x) : l.flatMap f = l.flatMap g := by
  induction l with
  | nil => rfl
  | cons x l ih => rw [List.flatMap_cons, List.flatMap_cons, h x (List.mem_cons_self ..), ih fun y hy => h y (List.mem_cons_of_mem _ hy)]

/-- The steps of a tree. -/
def stepsM : Nat → TT → List Stp
  | 0, _ => []
  | n + 1, T => if T.label.toList.isEmpty then [⟨3, ⟨#[]⟩, T.text⟩] else ((⟨1, T.label, ⟨#[]⟩⟩ : Stp) :: T.attrs.map fun a => (⟨2, a.1, a.2⟩ : Stp)) ++ (T.kids.flatMap (stepsM n) ++ [⟨4, ⟨#[]⟩, ⟨#[]⟩⟩])
theorem stepsM_text {n : Nat} {T : TT} (h : T.label.toList.isEmpty = true) : stepsM (n + 1) T = [⟨3, ⟨#[]⟩, T.text⟩] := by unfold stepsM; rw [if_pos h]
theorem stepsM_elem {n : Nat} {T : TT} (h : T.label.toList.isEmpty = false) : stepsM (n + 1) T = ((⟨1, T.label, ⟨#[]⟩⟩ : Stp) :: T.attrs.map fun a => (⟨2, a.1, a.2⟩ : Stp)) ++ (T.kids.flatMap (stepsM n) ++ [⟨4, ⟨#[]⟩, ⟨#[]⟩⟩]) := by unfold stepsM; rw [if_neg (by rw [h]; decide)]
theorem nodesM_succ (n : Nat) (T : TT) : nodesM (n + 1) T = T :: T.kids.flatMap (nodesM n) := rfl
/-- A tree that steps may have. -/
def formT : Nat → TT → Prop
  | 0, _ => False
  | n + 1, T => (T.label.toList.isEmpty = true → T.attrs = [] ∧ T.kids = []) ∧ (T.label.toList.isEmpty = false → T.text = ⟨#[]⟩) ∧ ∀ k ∈ T.kids, formT n k

theorem formT_up : ∀ {n : Nat} {T : TT}, formT n T → formT (n + 1) T ∧ stepsM (n + 1) T = stepsM n T ∧ nodesM (n + 1) T = nodesM n T
  | 0, _, h => h.elim
  | n + 1, T, h => by
    obtain ⟨h1, h2, h3⟩ := h
    have ih := fun k hk => formT_up (h3 k hk)
    refine ⟨⟨h1, h2, fun k hk => (ih k hk).1⟩, ?_, ?_⟩
    · have e : T.kids.flatMap (stepsM (n + 1)) = T.kids.flatMap (stepsM n) := flat_congr fun k hk => (ih k hk).2.1
      conv => lhs; unfold stepsM
      conv => rhs; unfold stepsM
      rw [e]
    · have e : T.kids.flatMap (nodesM (n + 1)) = T.kids.flatMap (nodesM n) := flat_congr fun k hk => (ih k hk).2.2
      conv => lhs; unfold nodesM
      conv => rhs; unfold nodesM
      rw [e]
theorem formT_le {n m : Nat} (h : n ≤ m) {T : TT} (hT : formT n T) : formT m T ∧ stepsM m T = stepsM n T ∧ nodesM m T = nodesM n T := by
  obtain ⟨k, rfl⟩ := Nat.exists_eq_add_of_le h
  clear h
  induction k with
  | zero => exact ⟨hT, rfl, rfl⟩
  | succ k ih =>
    obtain ⟨h1, h2, h3⟩ := formT_up ih.1
    exact ⟨h1, h2.trans ih.2.1, h3.trans ih.2.2⟩

theorem plain_one {s : Stp} (h : plainB s = true) (h1 : s.kind = 1) : s.text = ⟨#[]⟩ := by
  unfold plainB at h
  rw [if_pos h1] at h
  exact empty_of h
theorem plain_three {s : Stp} (h : plainB s = true) (h1 : s.kind = 3) : s.name = ⟨#[]⟩ := by
  unfold plainB at h
  rw [if_neg (by rw [h1]; decide), if_pos h1] at h
  exact empty_of h
theorem plain_four {s : Stp} (h : plainB s = true) (h1 : s.kind = 4) : s = ⟨4, ⟨#[]⟩, ⟨#[]⟩⟩ := by
  unfold plainB at h
  rw [if_neg (by rw [h1]; decide), if_neg (by rw [h1]; decide)] at h
  rw [h1] at h
  have h2 : s.name.toList.isEmpty = true ∧ s.text.toList.isEmpty = true := by simpa using h
  cases s with
  | mk k n t =>
    dsimp only at h1 h2
    rw [h1, empty_of h2.1, empty_of h2.2]
theorem attrs_back : ∀ (l : List Stp), l = (attrsOf l).map (fun a => (⟨2, a.1, a.2⟩ : Stp)) ++ l.dropWhile isAt
  | [] => rfl
  | s :: l => by
    cases h : isAt s
    · rw [(attrs_stop h).1, (attrs_stop h).2]; rfl
    · rw [(attrs_step h).1, (attrs_step h).2, List.map_cons, List.cons_append, ← attrs_back l]
      have : s.kind = 2 := by simpa [isAt] using h
      cases s with
      | mk k n t => dsimp only at this; rw [this]

def NamesOk (l : List Stp) : Prop := ∀ s ∈ l, s.kind = 1 → s.name.toList.isEmpty = false

theorem parL_steps : ∀ (f : Nat), (∀ (l : List Stp) (T : TT) (r : List Stp), parL f none l = some (T, r) → NamesOk l → ∃ n, n + r.length ≤ l.length ∧ l = stepsM n T ++ r ∧ formT n T) ∧
    (∀ (lab : ByteArray) (al : List (ByteArray × ByteArray)) (ks : List TT) (l : List Stp) (T : TT) (r : List Stp), parL f (some (lab, al, ks)) l = some (T, r) → NamesOk l → ∃ n ks', n + 1 + r.length ≤ l.length ∧ T = .mk lab ⟨#[]⟩ al (ks ++ ks') ∧ l = ks'.flatMap (stepsM n) ++ (⟨4, ⟨#[]⟩, ⟨#[]⟩⟩ :: r) ∧ ∀ k ∈ ks', formT n k)
  | 0 => ⟨fun _ _ _ h => by simp [parL] at h, fun _ _ _ _ _ _ h => by simp [parL] at h⟩
  | f + 1 => by
    obtain ⟨ih1, ih2⟩ := parL_steps f
    refine ⟨fun l T r h hn => ?_, fun lab al ks l T r h hn => ?_⟩
    · cases l with
      | nil => rw [parL_end] at h; cases h
      | cons s l =>
        by_cases hb : plainB s = false ∨ (s.kind ≠ 1 ∧ s.kind ≠ 3)
        · rw [parL_bad hb] at h; cases h
        · have hp : plainB s = true := by
            cases hp : plainB s
            · exact absurd (Or.inl hp) hb
            · rfl
          by_cases h3 : s.kind = 3
          · rw [parL_text hp h3] at h
            cases h
            refine ⟨1, by simp; omega, ?_, ?_⟩
            · have e := plain_three hp h3
              cases s with
              | mk k n t => dsimp only at h3 e; subst h3 e; rw [stepsM_text (by exact empty_nil)]; rfl
            · refine ⟨fun _ => ⟨rfl, rfl⟩, fun h => ?_, fun k hk => ?_⟩
              · have h2 : (⟨#[]⟩ : ByteArray).toList.isEmpty = false := h
                rw [empty_nil] at h2; cases h2
              · cases hk
          · have h1 : s.kind = 1 := by
              by_cases h1 : s.kind = 1
              · exact h1
              · exact absurd (Or.inr ⟨h1, h3⟩) hb
            rw [parL_open hp h1] at h
            have hsub : NamesOk (l.dropWhile isAt) := fun x hx => hn x (List.mem_cons_of_mem _ ((List.dropWhile_sublist _).subset hx))
            obtain ⟨n, ks', e1, rfl, e2, e3⟩ := ih2 _ _ _ _ _ _ h hsub
            have hne := hn s (List.mem_cons_self ..) h1
            have hll : (l.dropWhile isAt).length ≤ l.length := (List.dropWhile_sublist _).length_le
            refine ⟨n + 1, by simp; omega, ?_, ?_, ?_, ?_⟩
            · rw [stepsM_elem (by exact hne)]
              simp only [TT.label, TT.attrs, TT.kids, List.nil_append]
              have e4 := plain_one hp h1
              have e5 : s = ⟨1, s.name, ⟨#[]⟩⟩ := by
                cases s with
                | mk k n t => dsimp only at h1 e4 ⊢; rw [h1, e4]
              rw [← e5, List.append_assoc, List.append_assoc, List.cons_append]
              conv => lhs; rw [attrs_back l, e2]
              rfl
            · intro he; simp only [TT.label] at he; rw [hne] at he; cases he
            · intro _; rfl
            · intro k hk; exact e3 k (by simpa [TT.kids] using hk)
    · cases l with
      | nil => rw [parL_end] at h; cases h
      | cons s l =>
        by_cases h4 : s.kind = 4
        · cases hp : plainB s
          · rw [parL_close_bad h4 hp] at h; cases h
          · rw [parL_close h4 hp] at h
            cases h
            exact ⟨0, [], by simp; omega, by simp, by rw [plain_four hp h4]; rfl, fun k hk => by cases hk⟩
        · cases hq : parL f none (s :: l) with
          | none => rw [parL_kid_bad h4 hq] at h; cases h
          | some x =>
            obtain ⟨k, r'⟩ := x
            rw [parL_kid h4 hq] at h
            obtain ⟨n1, a1, a2, a3⟩ := ih1 _ _ _ hq hn
            have hn' : NamesOk r' := fun x hx => hn x (by rw [a2]; exact List.mem_append_right _ hx)
            obtain ⟨n2, ks', b1, rfl, b2, b3⟩ := ih2 _ _ _ _ _ _ h hn'
            have hk := formT_le (Nat.le_max_left n1 n2) a3
            have hks := fun x hx => formT_le (Nat.le_max_right n1 n2) (b3 x hx)
            refine ⟨max n1 n2, k :: ks', ?_, by simp, ?_, ?_⟩
            · have : 1 ≤ n1 := by
                cases n1 with
                | zero => exact a3.elim
                | succ n => omega
              omega
            · rw [List.flatMap_cons, hk.2.1, flat_congr fun x hx => (hks x hx).2.1, List.append_assoc, ← b2, ← a2]
            · intro x hx
              rcases List.mem_cons.1 hx with rfl | hx
              · exact hk.1
              · exact (hks x hx).1

/-- Steps, adjacent ones: is any such pair there? -/
def adj (p : Stp → Stp → Bool) : List Stp → Bool
  | a :: b :: l => p a b || adj p (b :: l)
  | _ => false
def joint (p : Stp → Stp → Bool) (a b : Option Stp) : Bool := (a.bind fun x => b.map (p x)).getD false
theorem adj_append (p : Stp → Stp → Bool) : ∀ (l m : List Stp), adj p (l ++ m) = (adj p l || joint p l.getLast? m.head? || adj p m)
  | [], m => by simp [adj, joint]
  | [a], [] => by simp [adj, joint]
  | [a], b :: m => by simp [adj, joint]
  | a :: b :: l, m => by
    have ih := adj_append p (b :: l) m
    rw [List.cons_append, List.cons_append, adj, ← List.cons_append, ih, adj, List.getLast?_cons_cons]
    simp only [Bool.or_assoc]

def cstep (x : Int × Int × Int) (s : Stp) : Int × Int × Int :=
  if s.kind = 1 then (x.1 + 1, x.2.1 + 1, max x.2.2 (x.2.1 + 1)) else if s.kind = 3 then (x.1 + 1, x.2.1, max x.2.2 (x.2.1 + 1)) else if s.kind = 4 then (x.1, x.2.1 - 1, x.2.2) else x
def cntM (l : List Stp) : Int × Int × Int := l.foldl cstep (0, 0, 0)

def nameBad (s : Stp) : Bool := decide (s.kind ≤ 2) && !isName s.name
noncomputable def textBad (s : Stp) : Bool := !textB s.text
def textNone (s : Stp) : Bool := decide (s.kind = 3) && s.text.toList.isEmpty
def orderBad (a b : Stp) : Bool := decide (b.kind = 2) && decide (a.kind = 2) && !decide (a.name.toList < b.name.toList)
def thereBad (a b : Stp) : Bool := decide (b.kind = 3) && decide (a.kind = 3)
/-- What the document says is wrong with steps. -/
noncomputable def refCheckM (l : List Stp) : Int :=
  if 4096 < (cntM l).1 ∨ 32 < (cntM l).2.2 then 17 else if l.any nameBad = true then 11 else if l.any textBad = true then 10 else if l.any textNone = true then 18 else if adj orderBad l = true then 14 else if adj thereBad l = true then 15 else 0

theorem steps_cnt : ∀ (n : Nat) (T : TT) (x : Int × Int × Int), formT n T → ∃ m, (stepsM n T).foldl cstep x = (x.1 + ((nodesM n T).length : Nat), x.2.1, m) ∧ (m ≤ 32 ↔ x.2.2 ≤ 32 ∧ shallow (32 - x.2.1).toNat T = true)
  | 0, _, _, h => h.elim
  | n + 1, T, x, h => by
    obtain ⟨h1, h2, h3⟩ := h
    cases hl : T.label.toList.isEmpty
    · rw [stepsM_elem hl]
      have hattr : ∀ (l : List (ByteArray × ByteArray)) (y : Int × Int × Int), (l.map fun a => (⟨2, a.1, a.2⟩ : Stp)).foldl cstep y = y := by
        intro l
        induction l with
        | nil => intro y; rfl
        | cons a l ih => intro y; rw [List.map_cons, List.foldl_cons, ih]; simp [cstep]
      have hkids : ∀ (ks : List TT) (y : Int × Int × Int), (∀ k ∈ ks, formT n k) → ∃ m, (ks.flatMap (stepsM n)).foldl cstep y = (y.1 + ((ks.flatMap (nodesM n)).length : Nat), y.2.1, m) ∧ (m ≤ 32 ↔ y.2.2 ≤ 32 ∧ ∀ k ∈ ks, shallow (32 - y.2.1).toNat k = true) := by
        intro ks
        induction ks with
        | nil => intro y _; exact ⟨y.2.2, by simp, by simp⟩
        | cons k ks ih =>
          intro y hf
          obtain ⟨m1, e1, e2⟩ := steps_cnt n k y (hf k (List.mem_cons_self ..))
          obtain ⟨m2, e3, e4⟩ := ih (y.1 + ((nodesM n k).length : Nat), y.2.1, m1) fun z hz => hf z (List.mem_cons_of_mem _ hz)
          refine ⟨m2, ?_, ?_⟩
          · rw [List.flatMap_cons, List.foldl_append, e1, e3, List.flatMap_cons, List.length_append]
            simp only [Prod.mk.injEq, and_true]
            omega
          · rw [e4]
            dsimp only
            rw [e2]
            simp only [List.mem_cons, forall_eq_or_imp, and_assoc]
      simp only [List.foldl_append, List.foldl_cons, List.foldl_nil, hattr]
      obtain ⟨m, e1, e2⟩ := hkids T.kids (cstep x ⟨1, T.label, ⟨#[]⟩⟩) h3
      refine ⟨m, ?_, ?_⟩
      · rw [e1]
        rw [nodesM_succ, List.length_cons]
        simp [cstep]
        omega
      · rw [e2, shallow_iff]
        have e3 : (cstep x ⟨1, T.label, ⟨#[]⟩⟩) = (x.1 + 1, x.2.1 + 1, max x.2.2 (x.2.1 + 1)) := by simp [cstep]
        rw [e3]
        dsimp only
        have e4 : (32 - (x.2.1 + 1)).toNat = (32 - x.2.1).toNat - 1 := by omega
        rw [e4]
        constructor
        · rintro ⟨a, b⟩; exact ⟨by omega, by omega, b⟩
        · rintro ⟨a, b, c⟩; exact ⟨by omega, c⟩
    · rw [stepsM_text hl]
      obtain ⟨ha, hk⟩ := h1 hl
      refine ⟨max x.2.2 (x.2.1 + 1), by simp [cstep, nodesM, hk], ?_⟩
      rw [shallow_iff, hk]
      constructor
      · intro a; exact ⟨by omega, by omega, fun k hk => by cases hk⟩
      · rintro ⟨a, b, -⟩; omega

theorem any_flat {α β : Type} (l : List α) (f : α → List β) (p : β → Bool) : (l.flatMap f).any p = l.any fun x => (f x).any p := by
  induction l with
  | nil => rfl
  | cons x l ih => rw [List.flatMap_cons, List.any_append, ih, List.any_cons]
theorem any_congr {α : Type} {l : List α} {p q : α → Bool} (h : ∀ x ∈ l, p x = q x) : l.any p = l.any q := by
  induction l with
  | nil => rfl
  | cons x l ih => rw [List.any_cons, List.any_cons, h x (List.mem_cons_self ..), ih fun y hy => h y (List.mem_cons_of_mem _ hy)]

theorem textB_nil : textB ⟨#[]⟩ = true := by
  have h : isText ⟨#[]⟩ := ⟨[], ⟨rfl, Nat.le_refl _, rfl⟩, rfl⟩
  unfold textB
  simpa using h

theorem steps_any (p : Stp → Bool) (q : TT → Bool)
    (h0 : ∀ T : TT, T.label.toList.isEmpty = true → T.attrs = [] → p ⟨3, ⟨#[]⟩, T.text⟩ = q T)
    (h1 : ∀ T : TT, T.label.toList.isEmpty = false → T.text = ⟨#[]⟩ → (p ⟨1, T.label, ⟨#[]⟩⟩ || T.attrs.any fun a => p ⟨2, a.1, a.2⟩) = q T)
    (h4 : p ⟨4, ⟨#[]⟩, ⟨#[]⟩⟩ = false) : ∀ (n : Nat) (T : TT), formT n T → (stepsM n T).any p = (nodesM n T).any q
  | 0, _, h => h.elim
  | n + 1, T, h => by
    obtain ⟨a1, a2, a3⟩ := h
    rw [nodesM_succ]
    cases hl : T.label.toList.isEmpty
    · rw [stepsM_elem hl]
      simp only [List.any_append, List.any_cons, List.any_nil, List.any_map, any_flat, h4, Bool.or_false, Function.comp_def]
      rw [any_congr fun k hk => steps_any p q h0 h1 h4 n k (a3 k hk), ← h1 T hl (a2 hl)]
    · rw [stepsM_text hl, (a1 hl).2]
      simp [h0 T hl (a1 hl).1]

theorem steps_head {n : Nat} {T : TT} (h : formT n T) : ∃ s, (stepsM n T).head? = some s ∧ (s.kind = 3 ↔ T.label.toList.isEmpty = true) ∧ s.kind ≠ 2 := by
  cases n with
  | zero => exact h.elim
  | succ n =>
    cases hl : T.label.toList.isEmpty
    · exact ⟨⟨1, T.label, ⟨#[]⟩⟩, by rw [stepsM_elem hl]; simp, by simp, by simp⟩
    · exact ⟨⟨3, ⟨#[]⟩, T.text⟩, by rw [stepsM_text hl]; simp, by simp, by simp⟩
theorem steps_last {n : Nat} {T : TT} (h : formT n T) : ∃ s, (stepsM n T).getLast? = some s ∧ (s.kind = 3 ↔ T.label.toList.isEmpty = true) ∧ s.kind ≠ 2 := by
  cases n with
  | zero => exact h.elim
  | succ n =>
    cases hl : T.label.toList.isEmpty
    · exact ⟨⟨4, ⟨#[]⟩, ⟨#[]⟩⟩, by rw [stepsM_elem hl, ← List.append_assoc, List.getLast?_append]; simp, by simp, by simp⟩
    · exact ⟨⟨3, ⟨#[]⟩, T.text⟩, by rw [stepsM_text hl]; simp, by simp, by simp⟩

theorem joint_no {p : Stp → Stp → Bool} {a b : Option Stp} (h : ∀ x y, a = some x → b = some y → p x y = false) : joint p a b = false := by
  cases a with
  | none => rfl
  | some x => cases b with
    | none => rfl
    | some y => exact h x y rfl rfl

theorem flat_head {n : Nat} {ks : List TT} (h : ∀ k ∈ ks, formT n k) (m : List Stp) : ∀ y, (ks.flatMap (stepsM n) ++ m).head? = some y → (m.head? = some y ∧ ks = []) ∨ ∃ k r, ks = k :: r ∧ (stepsM n k).head? = some y := by
  intro y hy
  cases ks with
  | nil => exact .inl ⟨hy, rfl⟩
  | cons k r =>
    obtain ⟨s, hs, -⟩ := steps_head (h k (List.mem_cons_self ..))
    rw [List.flatMap_cons, List.append_assoc, List.head?_append, hs] at hy
    exact .inr ⟨k, r, rfl, by rw [hs]; exact hy⟩
theorem flat_last {n : Nat} : ∀ {ks : List TT}, (∀ k ∈ ks, formT n k) → ∀ y, (ks.flatMap (stepsM n)).getLast? = some y → ∃ k ∈ ks, (stepsM n k).getLast? = some y
  | [], _, y, hy => by cases hy
  | k :: r, h, y, hy => by
    rw [List.flatMap_cons, List.getLast?_append] at hy
    cases hr : (r.flatMap (stepsM n)).getLast? with
    | none => rw [hr] at hy; exact ⟨k, List.mem_cons_self .., by simpa using hy⟩
    | some z =>
      rw [hr] at hy
      obtain ⟨k', hk', e⟩ := flat_last (fun x hx => h x (List.mem_cons_of_mem _ hx)) z hr
      exact ⟨k', List.mem_cons_of_mem _ hk', by rw [e]; simpa using hy⟩

theorem attrs_last (lab : ByteArray) (al : List (ByteArray × ByteArray)) : ∀ y, ((⟨1, lab, ⟨#[]⟩⟩ : Stp) :: al.map fun a => (⟨2, a.1, a.2⟩ : Stp)).getLast? = some y → y.kind ≠ 3 := by
  intro y hy
  have hm := List.mem_of_getLast? hy
  rcases List.mem_cons.1 hm with rfl | hm
  · simp
  · obtain ⟨a, _, rfl⟩ := List.mem_map.1 hm
    simp

theorem adj_attrs (lab : ByteArray) : ∀ (al : List (ByteArray × ByteArray)), adj orderBad ((⟨1, lab, ⟨#[]⟩⟩ : Stp) :: al.map fun a => (⟨2, a.1, a.2⟩ : Stp)) = !rises al
  | [] => rfl
  | a :: l => by
    have main : ∀ (l : List (ByteArray × ByteArray)) (a : ByteArray × ByteArray), adj orderBad ((a :: l).map fun a => (⟨2, a.1, a.2⟩ : Stp)) = !rises (a :: l) := by
      intro l
      induction l with
      | nil => intro a; rfl
      | cons b l ih =>
        intro a
        have h := ih b
        rw [List.map_cons] at h
        rw [List.map_cons, List.map_cons, adj, h, rises, bytesLess_eq]
        simp [orderBad]
    have h := main l a
    rw [List.map_cons] at h
    rw [List.map_cons, adj, h]
    simp [orderBad]

theorem steps_order : ∀ (n : Nat) (T : TT), formT n T → adj orderBad (stepsM n T) = (nodesM n T).any fun t => !rises t.attrs
  | 0, _, h => h.elim
  | n + 1, T, h => by
    obtain ⟨a1, a2, a3⟩ := h
    rw [nodesM_succ]
    cases hl : T.label.toList.isEmpty
    · rw [stepsM_elem hl, adj_append, adj_attrs, adj_append, List.any_cons, any_flat]
      have j1 : joint orderBad ((⟨1, T.label, ⟨#[]⟩⟩ : Stp) :: T.attrs.map fun a => (⟨2, a.1, a.2⟩ : Stp)).getLast? (T.kids.flatMap (stepsM n) ++ [(⟨4, ⟨#[]⟩, ⟨#[]⟩⟩ : Stp)]).head? = false := by
        refine joint_no fun x y _ hy => ?_
        have : y.kind ≠ 2 := by
          rcases flat_head a3 _ y hy with ⟨h, -⟩ | ⟨k, r, hk, h⟩
          · cases h; decide
          · obtain ⟨s, hs, -, h2⟩ := steps_head (a3 k (by rw [hk]; exact List.mem_cons_self ..))
            rw [hs] at h; cases h; exact h2
        simp [orderBad, this]
      have j2 : joint orderBad (T.kids.flatMap (stepsM n)).getLast? [(⟨4, ⟨#[]⟩, ⟨#[]⟩⟩ : Stp)].head? = false := joint_no fun x y _ hy => by cases hy; simp [orderBad]
      have hk : ∀ ks : List TT, (∀ k ∈ ks, formT n k) → adj orderBad (ks.flatMap (stepsM n)) = ks.any fun k => (nodesM n k).any fun t => !rises t.attrs := by
        intro ks
        induction ks with
        | nil => intro _; rfl
        | cons k ks ih =>
          intro hf
          rw [List.flatMap_cons, adj_append, List.any_cons, steps_order n k (hf k (List.mem_cons_self ..)), ih fun z hz => hf z (List.mem_cons_of_mem _ hz)]
          have : joint orderBad (stepsM n k).getLast? (ks.flatMap (stepsM n)).head? = false := by
            refine joint_no fun x y hx _ => ?_
            obtain ⟨s, hs, -, h2⟩ := steps_last (hf k (List.mem_cons_self ..))
            rw [hs] at hx; cases hx
            simp [orderBad, h2]
          rw [this]; simp
      rw [j1, j2, hk _ a3]
      simp [adj]
    · rw [stepsM_text hl]
      simp [adj, rises, (a1 hl).1, (a1 hl).2]

theorem steps_there : ∀ (n : Nat) (T : TT), formT n T → adj thereBad (stepsM n T) = (nodesM n T).any fun t => !apartT t.kids
  | 0, _, h => h.elim
  | n + 1, T, h => by
    obtain ⟨a1, a2, a3⟩ := h
    rw [nodesM_succ]
    cases hl : T.label.toList.isEmpty
    · rw [stepsM_elem hl, adj_append, adj_append, List.any_cons, any_flat]
      have j0 : adj thereBad ((⟨1, T.label, ⟨#[]⟩⟩ : Stp) :: T.attrs.map fun a => (⟨2, a.1, a.2⟩ : Stp)) = false := by
        have main : ∀ (l : List (ByteArray × ByteArray)) (s : Stp), adj thereBad (s :: l.map fun a => (⟨2, a.1, a.2⟩ : Stp)) = false := by
          intro l
          induction l with
          | nil => intro s; rfl
          | cons b l ih => intro s; rw [List.map_cons, adj, ih]; simp [thereBad]
        exact main _ _
      have j1 : joint thereBad ((⟨1, T.label, ⟨#[]⟩⟩ : Stp) :: T.attrs.map fun a => (⟨2, a.1, a.2⟩ : Stp)).getLast? (T.kids.flatMap (stepsM n) ++ [(⟨4, ⟨#[]⟩, ⟨#[]⟩⟩ : Stp)]).head? = false := by
        refine joint_no fun x y hx _ => ?_
        simp [thereBad, attrs_last _ _ x hx]
      have j2 : joint thereBad (T.kids.flatMap (stepsM n)).getLast? [(⟨4, ⟨#[]⟩, ⟨#[]⟩⟩ : Stp)].head? = false := joint_no fun x y _ hy => by cases hy; simp [thereBad]
      have hk : ∀ ks : List TT, (∀ k ∈ ks, formT n k) → adj thereBad (ks.flatMap (stepsM n)) = (!apartT ks || ks.any fun k => (nodesM n k).any fun t => !apartT t.kids) := by
        intro ks
        induction ks with
        | nil => intro _; rfl
        | cons k ks ih =>
          intro hf
          have hf' : ∀ z ∈ ks, formT n z := fun z hz => hf z (List.mem_cons_of_mem _ hz)
          rw [List.flatMap_cons, adj_append, List.any_cons, steps_there n k (hf k (List.mem_cons_self ..)), ih hf']
          obtain ⟨s, hs, h3, -⟩ := steps_last (hf k (List.mem_cons_self ..))
          rw [hs]
          cases ks with
          | nil => simp [joint, apartT]
          | cons k2 ks =>
            obtain ⟨s2, hs2, h32, -⟩ := steps_head (hf k2 (by simp))
            have e : ((k2 :: ks).flatMap (stepsM n)).head? = some s2 := by rw [List.flatMap_cons, List.head?_append, hs2]; rfl
            rw [e, apartT]
            have e2 : joint thereBad (some s) (some s2) = (k.label.toList.isEmpty && k2.label.toList.isEmpty) := by
              rw [Bool.eq_iff_iff]
              simp only [joint, Option.bind_some, Option.map_some, Option.getD_some, thereBad, Bool.and_eq_true, decide_eq_true_eq, h3, h32]
              exact And.comm
            rw [e2]
            cases (nodesM n k).any fun t => !apartT t.kids <;> cases k.label.toList.isEmpty && k2.label.toList.isEmpty <;> simp
      rw [j0, j1, j2, hk _ a3]
      simp [adj]
    · rw [stepsM_text hl]
      simp [adj, apartT, (a1 hl).2]

/-- What is wrong with steps is what is wrong with their tree. -/
theorem ref_check {n : Nat} {T : TT} (h : formT n T) : refCheckM (stepsM n T) = checkM n T := by
  obtain ⟨m, e1, e2⟩ := steps_cnt n T (0, 0, 0) h
  have e3 : cntM (stepsM n T) = ((((nodesM n T).length : Nat) : Int), 0, m) := by unfold cntM; rw [e1]; simp
  have hn : (stepsM n T).any nameBad = (nodesM n T).any (faultB 1) := by
    refine steps_any _ _ (fun T hl ha => ?_) (fun T hl ht => ?_) (by decide) n T h
    · simp [nameBad, faultB, fault2B, hl, ha]
    · simp [nameBad, faultB, fault2B, hl]
  have hu : (stepsM n T).any textBad = (nodesM n T).any (faultB 2) := by
    refine steps_any _ _ (fun T hl ha => ?_) (fun T hl ht => ?_) (by simp [textBad, textB_nil]) n T h
    · simp [textBad, faultB, fault3B, ha]
    · simp [textBad, faultB, fault3B, ht, textB_nil]
  have he : (stepsM n T).any textNone = (nodesM n T).any (faultB 3) := by
    refine steps_any _ _ (fun T hl ha => ?_) (fun T hl ht => ?_) (by decide) n T h
    · simp [textNone, faultB, hl]
    · simp [textNone, faultB, hl]
  have ho : adj orderBad (stepsM n T) = (nodesM n T).any (faultB 4) := steps_order n T h
  have hh : adj thereBad (stepsM n T) = (nodesM n T).any (faultB 5) := steps_there n T h
  have h0 : (nodesM n T).any (faultB 0) = false := by
    have main : ∀ (n : Nat) (T : TT), formT n T → (nodesM n T).any (faultB 0) = false := by
      intro n
      induction n with
      | zero => intro T h; exact h.elim
      | succ n ih =>
        intro T h
        obtain ⟨a1, a2, a3⟩ := h
        rw [nodesM_succ, List.any_cons, any_flat, any_congr fun k hk => ih k (a3 k hk)]
        have : faultB 0 T = false := by
          show fault1B T.label T.text T.attrs.length T.kids.length = false
          unfold fault1B
          cases hl : T.label.toList.isEmpty
          · rw [if_neg (by decide), a2 hl, empty_nil]; rfl
          · rw [if_pos rfl, (a1 hl).1, (a1 hl).2]; rfl
        rw [this]; simp
    exact main n T h
  unfold refCheckM checkM
  rw [e3, hn, hu, he, ho, hh]
  dsimp only
  have e4 : (4096 < (((nodesM n T).length : Nat) : Int) ∨ 32 < m) ↔ ¬ (shallow 32 T = true ∧ (nodesM n T).length ≤ 4096) := by
    have : (m ≤ 32 ↔ shallow 32 T = true) := by rw [e2]; simp
    rw [← this]; omega
  by_cases hb : shallow 32 T = true ∧ (nodesM n T).length ≤ 4096
  · rw [if_neg (by rw [e4]; exact fun h => h hb), if_pos hb]
    unfold firstFault
    simp only [List.find?, h0]
    cases (nodesM n T).any (faultB 1) <;> cases (nodesM n T).any (faultB 2) <;> cases (nodesM n T).any (faultB 3) <;> cases (nodesM n T).any (faultB 4) <;> cases (nodesM n T).any (faultB 5) <;> rfl
  · rw [if_pos (e4.2 hb), if_neg hb]

end Go.Proofs.YtoknglpfchjbjaaGreatDoor

/- The document's Is, Bytes and Read of characters. Conditions: at most 1000 bytes. -/
namespace Go.Proofs.YtoknglpfchjbjaaGreatDoor
open Go.RowKit Go.Sp Go.Maps

theorem cells_new (w : World) (l : List Value) (t : TypeId) : ∀ j u, l[j]? = some u → (w.alloc (.cells l.toArray t)).cell? ((⟨w.heap.size, 0, none⟩ : Addr).add j) = some u := by
  intro j u hj
  unfold Addr.add
  split
  · simp_all
  · simp [hj]

theorem ownsRow_below1 {w w' : World} {base : Nat} {e : TypeId} {size : Nat} {v : Value} {n : Nat} {xs : List Value} (h : w.ownsRow base e size v n xs) (hb : Below w.heap.size w w') : w'.ownsRow base e size v n xs := by
  refine ⟨h.1, ?_⟩
  rcases h.2 with hn | ⟨g, cap, cur, hv, hba, hg, rest⟩
  · exact .inl hn
  · exact .inr ⟨g, cap, cur, hv, hba, by rw [hb.block g (Array.getElem?_eq_some_iff.1 hg).1]; exact hg, rest⟩


set_option maxHeartbeats 1000000 in
theorem refIs_any (n : Int) (w : World) : Calls Tryz.prog 93 #[.int .i64 n] w fun e w' => e = .returned (.bool (isChar n)) ∧ w = w' := by
  have ht : (n = 9 ∨ n = 10 ∨ n = 13 ∨ (32 ≤ n ∧ n ≤ 55295) ∨ (57344 ≤ n ∧ n ≤ 65533) ∨ (65536 ≤ n ∧ n ≤ 1114111)) → isChar n = true := fun h => by
    unfold isChar; simp only [Bool.or_eq_true, Bool.and_eq_true, decide_eq_true_eq]; omega
  have hf : ¬ (n = 9 ∨ n = 10 ∨ n = 13 ∨ (32 ≤ n ∧ n ≤ 55295) ∨ (57344 ≤ n ∧ n ≤ 65533) ∨ (65536 ≤ n ∧ n ≤ 1114111)) → isChar n = false := fun h => by
    rw [← Bool.not_eq_true]
    unfold isChar; simp only [Bool.or_eq_true, Bool.and_eq_true, decide_eq_true_eq]; omega
  obtain ⟨c, hc⟩ : ∃ c, c = isChar n := ⟨_, rfl⟩
  rw [← hc] at ht hf ⊢
  have HT := Sp.hid ht
  have HF := Sp.hid hf
  clear hc ht hf
  by_cases h1 : n = 9
  · subst h1
    have h := HT.out (by omega)
    subst h
    go_enter Tryz.func93, Tryz.ntmps93
    go_wp2
    go_ret
    exact ⟨rfl, rfl⟩
  by_cases h2 : n = 10
  · subst h2
    have h := HT.out (by omega)
    subst h
    go_enter Tryz.func93, Tryz.ntmps93
    go_wp2
    go_ret
    exact ⟨rfl, rfl⟩
  by_cases h3 : n = 13
  · subst h3
    have h := HT.out (by omega)
    subst h
    go_enter Tryz.func93, Tryz.ntmps93
    go_wp2
    go_ret
    exact ⟨rfl, rfl⟩
  have b1 : (n == 9) = false := by simpa using h1
  have b2 : (n == 10) = false := by simpa using h2
  have b3 : (n == 13) = false := by simpa using h3
  have H1 := Sp.hid h1
  have H2 := Sp.hid h2
  have H3 := Sp.hid h3
  clear h1 h2 h3
  by_cases h4 : 32 ≤ n
  · by_cases h5 : n ≤ 55295
    · have h := HT.out (by omega)
      subst h
      go_enter Tryz.func93, Tryz.ntmps93
      go_wp2
      go_ret
      exact ⟨rfl, rfl⟩
    · by_cases h6 : 57344 ≤ n
      · by_cases h7 : n ≤ 65533
        · have h := HT.out (by omega)
          subst h
          go_enter Tryz.func93, Tryz.ntmps93
          go_wp2
          go_ret
          exact ⟨rfl, rfl⟩
        · by_cases h8 : 65536 ≤ n
          · by_cases h9 : n ≤ 1114111
            · have h := HT.out (by omega)
              subst h
              go_enter Tryz.func93, Tryz.ntmps93
              go_wp2
              go_ret
              exact ⟨rfl, rfl⟩
            · have h := HF.out (by omega)
              subst h
              go_enter Tryz.func93, Tryz.ntmps93
              go_wp2
              go_ret
              exact ⟨rfl, rfl⟩
          · have h := HF.out (by have := H1.out; have := H2.out; have := H3.out; omega)
            subst h
            go_enter Tryz.func93, Tryz.ntmps93
            go_wp2
            go_ret
            exact ⟨rfl, rfl⟩
      · have h := HF.out (by have := H1.out; have := H2.out; have := H3.out; omega)
        subst h
        have h8 : ¬ 65536 ≤ n := by omega
        go_enter Tryz.func93, Tryz.ntmps93
        go_wp2
        go_ret
        exact ⟨rfl, rfl⟩
  · have h := HF.out (by have := H1.out; have := H2.out; have := H3.out; omega)
    subst h
    have h8 : ¬ 65536 ≤ n := by omega
    have h6 : ¬ 57344 ≤ n := by omega
    go_enter Tryz.func93, Tryz.ntmps93
    go_wp2
    go_ret
    exact ⟨rfl, rfl⟩

theorem sl_newq (q : IntKind) (w : World) (l : List Int) (t : TypeId) : Sl (Shape.int q) (fun b => w.heap.size ≤ b ∧ b < (w.alloc (.cells (l.map (Value.int q)).toArray t)).heap.size) (w.alloc (.cells (l.map (Value.int q)).toArray t)) (some ⟨w.heap.size, 0, none⟩) l := by
  intro i hi
  refine ⟨w.heap.size, 0, [.int q l[i]], rfl, ⟨Nat.le_refl _, by simp⟩, rfl, ?_⟩
  intro j hj
  have hj0 : j = 0 := by simpa using hj
  subst hj0
  simp [Shape.int, hi]
theorem sl_new (w : World) (l : List Int) (t : TypeId) : Sl (Shape.int .u8) (fun b => w.heap.size ≤ b ∧ b < (w.alloc (.cells (l.map (Value.int .u8)).toArray t)).heap.size) (w.alloc (.cells (l.map (Value.int .u8)).toArray t)) (some ⟨w.heap.size, 0, none⟩) l := sl_newq .u8 w l t

set_option maxHeartbeats 1000000 in
/-- Bytes of a number that a character may be. -/
theorem refBytes_any (n : Int) (w : World) (h0 : 0 ≤ n) (h1 : n ≤ 1114111) : Calls Tryz.prog 94 #[.int .i64 n] w fun e w' => ∃ cap, e = .returned (.slice (some ⟨w.heap.size, 0, none⟩) (encM n).length cap) ∧ (encM n).length ≤ cap ∧
      Sl (Shape.int .u8) (fun b => w.heap.size ≤ b ∧ b < w'.heap.size) w' (some ⟨w.heap.size, 0, none⟩) (encM n) ∧ Below w.heap.size w w' := by
  by_cases c1 : n < 128
  · have he : encM n = [n] := by unfold encM; rw [if_pos c1]
    rw [he]
    clear he
    go_enter Tryz.func94, Tryz.ntmps94
    go_wp2
    go_ret
    exact ⟨1, rfl, Nat.le_refl _, sl_new w [n] _, (Below.refl _ _).alloc (Nat.le_refl _) _⟩
  by_cases c2 : n < 2048
  · have he : encM n = [192 + n / 64, 128 + n % 64] := by unfold encM; rw [if_neg c1, if_pos c2]
    rw [he]
    clear he
    go_enter Tryz.func94, Tryz.ntmps94
    go_wp2
    go_ret
    exact ⟨2, rfl, Nat.le_refl _, sl_new w [192 + n / 64, 128 + n % 64] _, (Below.refl _ _).alloc (Nat.le_refl _) _⟩
  by_cases c3 : n < 65536
  · have he : encM n = [224 + n / 4096, 128 + n / 64 % 64, 128 + n % 64] := by unfold encM; rw [if_neg c1, if_neg c2, if_pos c3]
    rw [he]
    clear he
    go_enter Tryz.func94, Tryz.ntmps94
    go_wp2
    go_ret
    exact ⟨3, rfl, Nat.le_refl _, sl_new w [224 + n / 4096, 128 + n / 64 % 64, 128 + n % 64] _, (Below.refl _ _).alloc (Nat.le_refl _) _⟩
  · have he : encM n = [240 + n / 262144, 128 + n / 4096 % 64, 128 + n / 64 % 64, 128 + n % 64] := by unfold encM; rw [if_neg c1, if_neg c2, if_neg c3]
    rw [he]
    clear he
    go_enter Tryz.func94, Tryz.ntmps94
    go_wp2
    go_ret
    exact ⟨4, rfl, Nat.le_refl _, sl_new w [240 + n / 262144, 128 + n / 4096 % 64, 128 + n / 64 % 64, 128 + n % 64] _, (Below.refl _ _).alloc (Nat.le_refl _) _⟩

def offOf : Nat → Int
  | 1 => 0
  | 2 => 192
  | 3 => 224
  | _ => 240

def readV (bs : List Int) : Value := match decM bs with
  | none => .tuple #[.int .i64 0, .int .i64 0]
  | some (r, n) => .tuple #[.int .i64 r, .int .i64 (n : Nat)]

/-- What a size's trial makes of the bytes, once j bytes behind the first are in. -/
def cand (c : Int) (t : List Int) (s j : Nat) : Int := foldC (c - offOf s) (t.take j)

theorem cand_dec {c : Int} {t : List Int} {r : Int} {n : Nat} (h : decM (c :: t) = some (r, n)) : cand c t n (n - 1) = r := by
  rw [decM] at h
  split at h
  · rename_i hc
    simp only [Option.some.injEq, Prod.mk.injEq] at h
    obtain ⟨h1, rfl⟩ := h
    rw [← h1]
    unfold cand
    rcases begin_cases c with ⟨_, hb⟩ | ⟨_, _, hb⟩ | ⟨_, _, hb⟩ | ⟨_, _, hb⟩ | hb
    · rw [hb]; simp [offOf]
    · rw [hb]; rfl
    · rw [hb]; rfl
    · rw [hb]; rfl
    · exact absurd hb hc.1
  · cases h

theorem dec_size {bs : List Int} {r : Int} {n : Nat} (h : decM bs = some (r, n)) : 1 ≤ n ∧ n ≤ 4 ∧ n ≤ bs.length := by
  obtain ⟨_, h2, h3, _⟩ := enc_dec h
  refine ⟨dec_pos h, ?_, h3⟩
  rw [h2]
  unfold sizeOf_; split; decide; split; decide; split <;> decide

theorem cand_next {c : Int} {t : List Int} {s j : Nat} (hj : j < t.length) : cand c t s (j + 1) = 64 * cand c t s j + t[j] - 128 := by
  unfold cand
  rw [List.take_succ_eq_append_getElem hj, foldC_snoc]
  omega

theorem cand_bound {c : Int} {t : List Int} {s : Nat} (hc : 0 ≤ c ∧ c ≤ 255) (ht : ∀ x ∈ t, 0 ≤ x ∧ x ≤ 255) : ∀ j, j ≤ t.length → -(1000 * 100 ^ j) ≤ cand c t s j ∧ cand c t s j ≤ 1000 * 100 ^ j
  | 0, _ => by
    have : 0 ≤ offOf s ∧ offOf s ≤ 240 := by unfold offOf; split <;> decide
    simp [cand, foldC]; omega
  | j + 1, hj => by
    obtain ⟨h1, h2⟩ := cand_bound (s := s) hc ht j (by omega)
    rw [cand_next (by omega)]
    have hx := ht t[j] (List.getElem_mem _)
    have h3 : (100 : Int) ^ (j + 1) = 100 ^ j * 100 := Int.pow_succ ..
    have h4 : (1 : Int) ≤ 100 ^ j := Int.le_of_lt_add_one (by have := Int.pow_pos (n := 100) (m := j) (by decide); omega)
    rw [h3]
    omega

theorem same_dec {bs : List Int} {v : Int} {s : Nat} (hv : isChar v = true) (he : encM v = bs.take s) (hs : s ≤ bs.length) : decM bs = some (v, s) := by
  have h := dec_enc v (bs.drop s) hv
  rw [he, List.take_append_drop] at h
  have hl : s = sizeOf_ v := by rw [← encM_length, he, List.length_take]; omega
  rw [h, ← hl]

set_option maxRecDepth 100000 in
set_option maxHeartbeats 4000000 in
theorem refRead_any (F : Nat → Prop) (a : Option Addr) (cap : Nat) (bs : List Int) (w : World) (hbs : Sl (Shape.int .u8) F w a bs) (hF : ∀ k, F k → k < w.heap.size) (hbd : ∀ x ∈ bs, 0 ≤ x ∧ x ≤ 255) (hlen : bs.length ≤ 1000) :
    Calls Tryz.prog 78 #[.slice a bs.length cap] w fun e w' => e = .returned (readV bs) ∧ Below w.heap.size w w' := by
  obtain ⟨V, hV⟩ : ∃ V, V = readV bs := ⟨_, rfl⟩
  rw [← hV]
  have hN : decM bs = none → V = .tuple #[.int .i64 0, .int .i64 0] := fun h => by rw [hV]; unfold readV; rw [h]
  have hS : ∀ r n, decM bs = some (r, n) → V = .tuple #[.int .i64 r, .int .i64 (n : Nat)] := fun r n h => by rw [hV]; unfold readV; rw [h]
  have HN := Sp.hid hN
  have HS := Sp.hid hS
  have HBS := Sp.hid hbs
  have HF := Sp.hid hF
  have HBD := Sp.hid hbd
  clear hV hN hS hbs hF hbd
  obtain ⟨m, hm⟩ : ∃ m, m = bs.length := ⟨_, rfl⟩
  have HM := Sp.hid hm
  rw [← hm] at hlen ⊢
  clear hm
  go_enter Tryz.func78, Tryz.ntmps78
  go_wp2
  go_loopw [4] (fun i wr => ∃ s : Nat, 1 ≤ s ∧ s ≤ 5 ∧ i = .int .i64 s ∧ (∀ r n, decM bs = some (r, n) → s ≤ n) ∧ Below w.heap.size w wr) (fun i _ => 5 - (intOf i).toNat)
  case atStart => exact ⟨1, by omega, by omega, rfl, fun r n h => (dec_size h).1, Below.refl _ _⟩
  case round =>
    obtain ⟨s, hs1, hs5, rfl, hno, hb⟩ := hrel
    obtain ⟨wo, rfl⟩ : ∃ wo : World, wo = wr := ⟨_, rfl⟩
    have hsw := hb.size
    have HNO := Sp.hid hno
    have HB := Sp.hid hb
    clear hno hb
    by_cases h4 : s ≤ 4
    · by_cases hsm : s ≤ m
      · have hml : bs.length = (bs.length - 1) + 1 := by have := HM.out; omega
        obtain ⟨c, t, hbt⟩ : ∃ c t, bs = c :: t := by
          cases bs with
          | nil => simp at hml
          | cons c t => exact ⟨c, t, rfl⟩
        have htl : t.length + 1 = m := by rw [HM.out, hbt]; rfl
        have hc := HBD.out c (by rw [hbt]; simp)
        have htb : ∀ x ∈ t, 0 ≤ x ∧ x ≤ 255 := fun x hx => HBD.out x (by rw [hbt]; simp [hx])
        have hcell : ∃ b o, a = some ⟨b, o, none⟩ ∧ F b ∧ ∀ i (hi : i < bs.length), w.cell? ⟨b, o + i, none⟩ = some (.int .u8 bs[i]) := by
          obtain ⟨b, o, ha, hfb, _⟩ := HBS.out.int_cell 0 (by omega)
          refine ⟨b, o, ha, hfb, fun i hi => ?_⟩
          obtain ⟨b', o', ha', _, e⟩ := HBS.out.int_cell i hi
          rw [ha] at ha'
          cases ha'
          exact e
        obtain ⟨b, o, rfl, hfb, hce⟩ := hcell
        have hbw := HF.out b hfb
        have hce' : ∀ (wr : World), Below w.heap.size w wr → ∀ i (hi : i < bs.length), wr.cell? ⟨b, o + i, none⟩ = some (.int .u8 bs[i]) := fun wr hx i hi => by rw [hx.cell (p := ⟨b, _, none⟩) hbw]; exact hce i hi
        have e0 : wo.cell? ⟨b, o, none⟩ = some (.int .u8 c) := by
          have := hce' wo HB.out 0 (by omega)
          simpa [hbt] using this
        have hcr : ∀ i (hi : i < t.length), wo.cell? ⟨b, o + (i + 1), none⟩ = some (.int .u8 t[i]) := fun i hi => by
          have := hce' wo HB.out (i + 1) (by rw [hbt]; simp; omega)
          simpa [hbt] using this
        have hbnd := fun j hj => cand_bound (s := s) hc htb j hj
        have hcd : ∀ r n, decM bs = some (r, n) → cand c t n (n - 1) = r := fun r n h => by rw [hbt] at h; exact cand_dec h
        have hc1 := hc.1
        have hc2 := hc.2
        have HCE := Sp.hid hce'
        have HCR := Sp.hid hcr
        have HBN := Sp.hid hbnd
        have HCD := Sp.hid hcd
        have HTB := Sp.hid htb
        have hm1 : 1 ≤ m := by omega
        clear hbt hc htb hce hce' hcr hbnd hcd hml
        have hs : s = 1 ∨ s = 2 ∨ s = 3 ∨ s = 4 := by omega
        rcases hs with rfl | rfl | rfl | rfl
        · have hoff : c - offOf 1 = c := by rw [show offOf 1 = 0 from rfl]; omega
          have HOFF := Sp.hid hoff
          clear hoff
          go_wp2
          go_loop [5, 6] (fun v i => ∃ j : Nat, j ≤ 1 - 1 ∧ i = .int .i64 ((j : Int) + 1) ∧ v = .int .i64 (cand c t 1 j)) (fun _ i => 1 - (intOf i).toNat)
          case atStart => exact ⟨0, by omega, rfl, by unfold cand; rw [HOFF.out]; rfl⟩
          case round =>
            obtain ⟨j, hj, rfl, rfl⟩ := hrel
            by_cases hjs : j < 1 - 1
            · exact absurd hjs (by omega)
            · obtain rfl : j = 1 - 1 := by omega
              obtain ⟨v, hv⟩ : ∃ v, v = cand c t 1 (1 - 1) := ⟨_, rfl⟩
              rw [← hv]
              have hcd : ∀ r n, decM bs = some (r, n) → n = 1 → v = r := fun r n h hn => by rw [hv]; subst hn; exact HCD.out r _ h
              have HCDV := Sp.hid hcd
              have HI := Sp.hid (refIs_any v wo)
              obtain ⟨ic, hic⟩ : ∃ ic, ic = isChar v := ⟨_, rfl⟩
              rw [← hic] at HI
              clear hcd hv
              cases ic
              · have hnn : ∀ r n, decM bs = some (r, n) → 1 + 1 ≤ n := fun r n h => by
                  have h1 := HNO.out r n h
                  rcases Nat.lt_or_ge 1 n with h2 | h2
                  · exact h2
                  · exfalso
                    have h3 := HCDV.out r n h (by omega)
                    have h4 := (enc_dec h).1
                    rw [← h3, ← hic] at h4
                    cases h4
                have HNN := Sp.hid hnn
                clear hnn hic
                go_wp2_with fail
                refine HI.out.mono ?_
                rintro e w2 ⟨rfl, rfl⟩
                go_wp2
                go_roundw
                case rel => exact ⟨1 + 1, by omega, by omega, by go_num, HNN.out, HB.out⟩
                case measure => simp [intOf]
              · obtain ⟨v1, v2⟩ := isChar_bounds hic.symm
                have HR := Sp.hid (refBytes_any v wo v1 v2)
                have hsd : encM v = bs.take 1 → decM bs = some (v, 1) := fun h => same_dec hic.symm h (by rw [← HM.out]; exact hsm)
                have hnn : encM v ≠ bs.take 1 → ∀ r n, decM bs = some (r, n) → 1 + 1 ≤ n := fun hne r n h => by
                  have h1 := HNO.out r n h
                  rcases Nat.lt_or_ge 1 n with h2 | h2
                  · exact h2
                  · exfalso
                    have hn : n = 1 := by omega
                    have h3 := HCDV.out r n h hn
                    have h4 := (enc_dec h).2.2.2
                    rw [hn, ← h3] at h4
                    exact hne h4.symm
                have HSD := Sp.hid hsd
                have HNN := Sp.hid hnn
                have hel : (encM v).length ≤ 4 := by rw [encM_length]; unfold sizeOf_; split; decide; split; decide; split <;> decide
                obtain ⟨L, hL⟩ : ∃ L, L = (encM v).length := ⟨_, rfl⟩
                rw [← hL] at HR hel
                have HL := Sp.hid hL
                clear hsd hnn hic hL
                go_wp2_with fail
                refine HI.out.mono ?_
                rintro e w2 ⟨rfl, rfl⟩
                go_wp2_with fail
                refine HR.out.mono ?_
                rintro e w3 ⟨cc, rfl, hcc, hsl, hb3⟩
                have hs3 := hb3.size
                have HX := Sp.hid hsl
                have HW3 := Sp.hid (HB.out.trans (hb3.mono hsw))
                have hbx : ∃ bq, bq = decide (L = 1) := ⟨_, rfl⟩
                obtain ⟨bq, hbq⟩ := hbx
                have hbe : ((L : Int) == 1) = bq := by rw [hbq, Bool.eq_iff_iff]; simp; omega
                have hb1 : bq = true → L = 1 := fun h => by rw [h] at hbq; simpa using hbq.symm
                have hb0 : bq = false → L ≠ 1 := fun h => by rw [h] at hbq; simpa using hbq.symm
                have HB1 := Sp.hid hb1
                have HB0 := Sp.hid hb0
                clear hsl hb3 HR HI hbq hb1 hb0
                go_wp2
                go_loopw [8, 9] (fun sm i wr => ∃ k : Nat, k ≤ L ∧ i = .int .i64 k ∧ ∃ q : Bool, sm = .bool q ∧ (q = true → L = 1 ∧ (encM v).take k = bs.take k) ∧ (q = false → encM v ≠ bs.take 1) ∧ Below w3.heap.size w3 wr) (fun _ i _ => L - (intOf i).toNat)
                case atStart =>
                  refine ⟨0, by omega, rfl, bq, by first | rfl | rw [hbe], fun h => ⟨HB1.out h, rfl⟩, fun h he => HB0.out h ?_, Below.refl _ _⟩
                  rw [HL.out, he, List.length_take]
                  have := HM.out
                  omega
                case round =>
                  obtain ⟨k, hk, rfl, q, rfl, hq1, hq0, hbx⟩ := hrel
                  have hsx := hbx.size
                  have HQ1 := Sp.hid hq1
                  have HQ0 := Sp.hid hq0
                  have HBX := Sp.hid hbx
                  clear hq1 hq0 hbx
                  cases q
                  · have HNX := Sp.hid (HNN.out (HQ0.out rfl))
                    by_cases hkL : k < L
                    · go_wp2
                      go_roundw
                      case rel => exact ⟨1 + 1, by omega, by omega, by go_num, HNX.out, HW3.out.trans (HBX.out.mono HW3.out.size)⟩
                      case measure => simp [intOf]
                    · go_wp2
                      go_roundw
                      case rel => exact ⟨1 + 1, by omega, by omega, by go_num, HNX.out, HW3.out.trans (HBX.out.mono HW3.out.size)⟩
                      case measure => simp [intOf]
                  · obtain ⟨hLs, htk⟩ := HQ1.out rfl
                    have hLle : L ≤ 1 := by omega
                    have hLge : 1 ≤ L := by omega
                    have HLS := Sp.hid hLs
                    clear hLs
                    by_cases hkL : k < L
                    · have hkv : k < (encM v).length := by rw [← HL.out]; exact hkL
                      have hkb : k < bs.length := by have := HM.out; omega
                      obtain ⟨bx, ox, hax, fx, ex⟩ := HX.out.int_cell k hkv
                      cases hax
                      have c1 : wr.cell? ⟨wo.heap.size, 0 + k, none⟩ = some (.int .u8 (encM v)[k]) := by rw [HBX.out.cell (p := ⟨wo.heap.size, _, none⟩) fx.2]; exact ex
                      have c2 : wr.cell? ⟨b, o + k, none⟩ = some (.int .u8 bs[k]) := HCE.out wr (HW3.out.trans (HBX.out.mono HW3.out.size)) k hkb
                      have hi1 : ((k : Int) < (L : Int)) := by omega
                      have hi2 : ((k : Int) < (m : Int)) := by omega
                      have hs1 := List.take_succ_eq_append_getElem hkv
                      have hs2 := List.take_succ_eq_append_getElem hkb
                      obtain ⟨x, hx⟩ : ∃ x, x = (encM v)[k] := ⟨_, rfl⟩
                      obtain ⟨y, hy⟩ : ∃ y, y = bs[k] := ⟨_, rfl⟩
                      rw [← hx] at c1 hs1
                      rw [← hy] at c2 hs2
                      have hne : x ≠ y → encM v ≠ bs.take 1 := fun hxy he => by
                        apply hxy
                        rw [hx, hy]
                        have : (encM v)[k]? = bs[k]? := by
                          rw [he, List.getElem?_take]
                          simp [show k < 1 by omega]
                        rw [List.getElem?_eq_getElem hkv, List.getElem?_eq_getElem hkb] at this
                        exact Option.some.inj this
                      have HNE := Sp.hid hne
                      have HT := Sp.hid htk
                      have HS1 := Sp.hid hs1
                      have HS2 := Sp.hid hs2
                      clear hx hy hne htk hs1 hs2 ex
                      simp only [Nat.zero_add] at c1
                      cases hxy : (x == y)
                      · have hxn : x ≠ y := by simpa using hxy
                        have HXN := Sp.hid hxn
                        clear hxn
                        go_wp2_with fail
                        go_quiet (fail)
                        go_wp2
                        go_roundw
                        case rel => exact ⟨k + 1, by omega, by go_num, false, rfl, (fun h => by cases h), (fun _ => HNE.out HXN.out), below_drewN HBX.out _⟩
                        case measure => simp [intOf]; omega
                      · have hxe : x = y := by simpa using hxy
                        have HXE := Sp.hid hxe
                        clear hxe
                        go_wp2_with fail
                        go_quiet (fail)
                        go_wp2
                        go_roundw
                        case rel => exact ⟨k + 1, by omega, by go_num, true, rfl, (fun _ => ⟨HLS.out, by rw [HS1.out, HS2.out, HT.out, HXE.out]⟩), (fun h => by cases h), below_drewN HBX.out _⟩
                        case measure => simp [intOf]; omega
                    · obtain rfl : k = L := by omega
                      have he : encM v = bs.take 1 := by
                        rw [← HLS.out, ← htk, HL.out, List.take_length]
                      have hv := HS.out v 1 (HSD.out he)
                      have HV := Sp.hid hv
                      clear hv he htk
                      go_wp2
                      go_ret2
                      exact ⟨by rw [HV.out]; rfl, HW3.out.trans (HBX.out.mono HW3.out.size)⟩
        · have hoff : c - offOf 2 = c - 192 := by rfl
          have HOFF := Sp.hid hoff
          clear hoff
          go_wp2
          go_loop [5, 6] (fun v i => ∃ j : Nat, j ≤ 2 - 1 ∧ i = .int .i64 ((j : Int) + 1) ∧ v = .int .i64 (cand c t 2 j)) (fun _ i => 2 - (intOf i).toNat)
          case atStart => exact ⟨0, by omega, rfl, by unfold cand; rw [HOFF.out]; rfl⟩
          case round =>
            obtain ⟨j, hj, rfl, rfl⟩ := hrel
            by_cases hjs : j < 2 - 1
            · have hjt : j < t.length := by omega
              have ec := HCR.out j hjt
              have hnx := cand_next (c := c) (s := 2) hjt
              have htx := HTB.out t[j] (List.getElem_mem _)
              obtain ⟨x, hx⟩ : ∃ x, x = t[j] := ⟨_, rfl⟩
              rw [← hx] at ec hnx htx
              obtain ⟨b1, b2⟩ := HBN.out j (by omega)
              have hp : (100 : Int) ^ j ≤ 1000000 := by
                have : j = 0 ∨ j = 1 ∨ j = 2 := by omega
                rcases this with rfl | rfl | rfl <;> decide
              obtain ⟨v, hv⟩ : ∃ v, v = cand c t 2 j := ⟨_, rfl⟩
              rw [← hv] at hnx b1 b2 ⊢
              have v1 : -1000000000 ≤ v := by omega
              have v2 : v ≤ 1000000000 := by omega
              have x1 := htx.1
              have x2 := htx.2
              have HNX := Sp.hid hnx
              clear hnx hx hv b1 b2 hp htx
              go_wp2
              go_round
              case rel => exact ⟨j + 1, by omega, by go_num, by rw [HNX.out]⟩
              case measure => simp [intOf]; omega
            · obtain rfl : j = 2 - 1 := by omega
              obtain ⟨v, hv⟩ : ∃ v, v = cand c t 2 (2 - 1) := ⟨_, rfl⟩
              rw [← hv]
              have hcd : ∀ r n, decM bs = some (r, n) → n = 2 → v = r := fun r n h hn => by rw [hv]; subst hn; exact HCD.out r _ h
              have HCDV := Sp.hid hcd
              have HI := Sp.hid (refIs_any v wo)
              obtain ⟨ic, hic⟩ : ∃ ic, ic = isChar v := ⟨_, rfl⟩
              rw [← hic] at HI
              clear hcd hv
              cases ic
              · have hnn : ∀ r n, decM bs = some (r, n) → 2 + 1 ≤ n := fun r n h => by
                  have h1 := HNO.out r n h
                  rcases Nat.lt_or_ge 2 n with h2 | h2
                  · exact h2
                  · exfalso
                    have h3 := HCDV.out r n h (by omega)
                    have h4 := (enc_dec h).1
                    rw [← h3, ← hic] at h4
                    cases h4
                have HNN := Sp.hid hnn
                clear hnn hic
                go_wp2_with fail
                refine HI.out.mono ?_
                rintro e w2 ⟨rfl, rfl⟩
                go_wp2
                go_roundw
                case rel => exact ⟨2 + 1, by omega, by omega, by go_num, HNN.out, HB.out⟩
                case measure => simp [intOf]
              · obtain ⟨v1, v2⟩ := isChar_bounds hic.symm
                have HR := Sp.hid (refBytes_any v wo v1 v2)
                have hsd : encM v = bs.take 2 → decM bs = some (v, 2) := fun h => same_dec hic.symm h (by rw [← HM.out]; exact hsm)
                have hnn : encM v ≠ bs.take 2 → ∀ r n, decM bs = some (r, n) → 2 + 1 ≤ n := fun hne r n h => by
                  have h1 := HNO.out r n h
                  rcases Nat.lt_or_ge 2 n with h2 | h2
                  · exact h2
                  · exfalso
                    have hn : n = 2 := by omega
                    have h3 := HCDV.out r n h hn
                    have h4 := (enc_dec h).2.2.2
                    rw [hn, ← h3] at h4
                    exact hne h4.symm
                have HSD := Sp.hid hsd
                have HNN := Sp.hid hnn
                have hel : (encM v).length ≤ 4 := by rw [encM_length]; unfold sizeOf_; split; decide; split; decide; split <;> decide
                obtain ⟨L, hL⟩ : ∃ L, L = (encM v).length := ⟨_, rfl⟩
                rw [← hL] at HR hel
                have HL := Sp.hid hL
                clear hsd hnn hic hL
                go_wp2_with fail
                refine HI.out.mono ?_
                rintro e w2 ⟨rfl, rfl⟩
                go_wp2_with fail
                refine HR.out.mono ?_
                rintro e w3 ⟨cc, rfl, hcc, hsl, hb3⟩
                have hs3 := hb3.size
                have HX := Sp.hid hsl
                have HW3 := Sp.hid (HB.out.trans (hb3.mono hsw))
                have hbx : ∃ bq, bq = decide (L = 2) := ⟨_, rfl⟩
                obtain ⟨bq, hbq⟩ := hbx
                have hbe : ((L : Int) == 2) = bq := by rw [hbq, Bool.eq_iff_iff]; simp; omega
                have hb1 : bq = true → L = 2 := fun h => by rw [h] at hbq; simpa using hbq.symm
                have hb0 : bq = false → L ≠ 2 := fun h => by rw [h] at hbq; simpa using hbq.symm
                have HB1 := Sp.hid hb1
                have HB0 := Sp.hid hb0
                clear hsl hb3 HR HI hbq hb1 hb0
                go_wp2
                go_loopw [8, 9] (fun sm i wr => ∃ k : Nat, k ≤ L ∧ i = .int .i64 k ∧ ∃ q : Bool, sm = .bool q ∧ (q = true → L = 2 ∧ (encM v).take k = bs.take k) ∧ (q = false → encM v ≠ bs.take 2) ∧ Below w3.heap.size w3 wr) (fun _ i _ => L - (intOf i).toNat)
                case atStart =>
                  refine ⟨0, by omega, rfl, bq, by first | rfl | rw [hbe], fun h => ⟨HB1.out h, rfl⟩, fun h he => HB0.out h ?_, Below.refl _ _⟩
                  rw [HL.out, he, List.length_take]
                  have := HM.out
                  omega
                case round =>
                  obtain ⟨k, hk, rfl, q, rfl, hq1, hq0, hbx⟩ := hrel
                  have hsx := hbx.size
                  have HQ1 := Sp.hid hq1
                  have HQ0 := Sp.hid hq0
                  have HBX := Sp.hid hbx
                  clear hq1 hq0 hbx
                  cases q
                  · have HNX := Sp.hid (HNN.out (HQ0.out rfl))
                    by_cases hkL : k < L
                    · go_wp2
                      go_roundw
                      case rel => exact ⟨2 + 1, by omega, by omega, by go_num, HNX.out, HW3.out.trans (HBX.out.mono HW3.out.size)⟩
                      case measure => simp [intOf]
                    · go_wp2
                      go_roundw
                      case rel => exact ⟨2 + 1, by omega, by omega, by go_num, HNX.out, HW3.out.trans (HBX.out.mono HW3.out.size)⟩
                      case measure => simp [intOf]
                  · obtain ⟨hLs, htk⟩ := HQ1.out rfl
                    have hLle : L ≤ 2 := by omega
                    have hLge : 2 ≤ L := by omega
                    have HLS := Sp.hid hLs
                    clear hLs
                    by_cases hkL : k < L
                    · have hkv : k < (encM v).length := by rw [← HL.out]; exact hkL
                      have hkb : k < bs.length := by have := HM.out; omega
                      obtain ⟨bx, ox, hax, fx, ex⟩ := HX.out.int_cell k hkv
                      cases hax
                      have c1 : wr.cell? ⟨wo.heap.size, 0 + k, none⟩ = some (.int .u8 (encM v)[k]) := by rw [HBX.out.cell (p := ⟨wo.heap.size, _, none⟩) fx.2]; exact ex
                      have c2 : wr.cell? ⟨b, o + k, none⟩ = some (.int .u8 bs[k]) := HCE.out wr (HW3.out.trans (HBX.out.mono HW3.out.size)) k hkb
                      have hi1 : ((k : Int) < (L : Int)) := by omega
                      have hi2 : ((k : Int) < (m : Int)) := by omega
                      have hs1 := List.take_succ_eq_append_getElem hkv
                      have hs2 := List.take_succ_eq_append_getElem hkb
                      obtain ⟨x, hx⟩ : ∃ x, x = (encM v)[k] := ⟨_, rfl⟩
                      obtain ⟨y, hy⟩ : ∃ y, y = bs[k] := ⟨_, rfl⟩
                      rw [← hx] at c1 hs1
                      rw [← hy] at c2 hs2
                      have hne : x ≠ y → encM v ≠ bs.take 2 := fun hxy he => by
                        apply hxy
                        rw [hx, hy]
                        have : (encM v)[k]? = bs[k]? := by
                          rw [he, List.getElem?_take]
                          simp [show k < 2 by omega]
                        rw [List.getElem?_eq_getElem hkv, List.getElem?_eq_getElem hkb] at this
                        exact Option.some.inj this
                      have HNE := Sp.hid hne
                      have HT := Sp.hid htk
                      have HS1 := Sp.hid hs1
                      have HS2 := Sp.hid hs2
                      clear hx hy hne htk hs1 hs2 ex
                      simp only [Nat.zero_add] at c1
                      cases hxy : (x == y)
                      · have hxn : x ≠ y := by simpa using hxy
                        have HXN := Sp.hid hxn
                        clear hxn
                        go_wp2_with fail
                        go_quiet (fail)
                        go_wp2
                        go_roundw
                        case rel => exact ⟨k + 1, by omega, by go_num, false, rfl, (fun h => by cases h), (fun _ => HNE.out HXN.out), below_drewN HBX.out _⟩
                        case measure => simp [intOf]; omega
                      · have hxe : x = y := by simpa using hxy
                        have HXE := Sp.hid hxe
                        clear hxe
                        go_wp2_with fail
                        go_quiet (fail)
                        go_wp2
                        go_roundw
                        case rel => exact ⟨k + 1, by omega, by go_num, true, rfl, (fun _ => ⟨HLS.out, by rw [HS1.out, HS2.out, HT.out, HXE.out]⟩), (fun h => by cases h), below_drewN HBX.out _⟩
                        case measure => simp [intOf]; omega
                    · obtain rfl : k = L := by omega
                      have he : encM v = bs.take 2 := by
                        rw [← HLS.out, ← htk, HL.out, List.take_length]
                      have hv := HS.out v 2 (HSD.out he)
                      have HV := Sp.hid hv
                      clear hv he htk
                      go_wp2
                      go_ret2
                      exact ⟨by rw [HV.out]; rfl, HW3.out.trans (HBX.out.mono HW3.out.size)⟩
        · have hoff : c - offOf 3 = c - 224 := by rfl
          have HOFF := Sp.hid hoff
          clear hoff
          go_wp2
          go_loop [5, 6] (fun v i => ∃ j : Nat, j ≤ 3 - 1 ∧ i = .int .i64 ((j : Int) + 1) ∧ v = .int .i64 (cand c t 3 j)) (fun _ i => 3 - (intOf i).toNat)
          case atStart => exact ⟨0, by omega, rfl, by unfold cand; rw [HOFF.out]; rfl⟩
          case round =>
            obtain ⟨j, hj, rfl, rfl⟩ := hrel
            by_cases hjs : j < 3 - 1
            · have hjt : j < t.length := by omega
              have ec := HCR.out j hjt
              have hnx := cand_next (c := c) (s := 3) hjt
              have htx := HTB.out t[j] (List.getElem_mem _)
              obtain ⟨x, hx⟩ : ∃ x, x = t[j] := ⟨_, rfl⟩
              rw [← hx] at ec hnx htx
              obtain ⟨b1, b2⟩ := HBN.out j (by omega)
              have hp : (100 : Int) ^ j ≤ 1000000 := by
                have : j = 0 ∨ j = 1 ∨ j = 2 := by omega
                rcases this with rfl | rfl | rfl <;> decide
              obtain ⟨v, hv⟩ : ∃ v, v = cand c t 3 j := ⟨_, rfl⟩
              rw [← hv] at hnx b1 b2 ⊢
              have v1 : -1000000000 ≤ v := by omega
              have v2 : v ≤ 1000000000 := by omega
              have x1 := htx.1
              have x2 := htx.2
              have HNX := Sp.hid hnx
              clear hnx hx hv b1 b2 hp htx
              go_wp2
              go_round
              case rel => exact ⟨j + 1, by omega, by go_num, by rw [HNX.out]⟩
              case measure => simp [intOf]; omega
            · obtain rfl : j = 3 - 1 := by omega
              obtain ⟨v, hv⟩ : ∃ v, v = cand c t 3 (3 - 1) := ⟨_, rfl⟩
              rw [← hv]
              have hcd : ∀ r n, decM bs = some (r, n) → n = 3 → v = r := fun r n h hn => by rw [hv]; subst hn; exact HCD.out r _ h
              have HCDV := Sp.hid hcd
              have HI := Sp.hid (refIs_any v wo)
              obtain ⟨ic, hic⟩ : ∃ ic, ic = isChar v := ⟨_, rfl⟩
              rw [← hic] at HI
              clear hcd hv
              cases ic
              · have hnn : ∀ r n, decM bs = some (r, n) → 3 + 1 ≤ n := fun r n h => by
                  have h1 := HNO.out r n h
                  rcases Nat.lt_or_ge 3 n with h2 | h2
                  · exact h2
                  · exfalso
                    have h3 := HCDV.out r n h (by omega)
                    have h4 := (enc_dec h).1
                    rw [← h3, ← hic] at h4
                    cases h4
                have HNN := Sp.hid hnn
                clear hnn hic
                go_wp2_with fail
                refine HI.out.mono ?_
                rintro e w2 ⟨rfl, rfl⟩
                go_wp2
                go_roundw
                case rel => exact ⟨3 + 1, by omega, by omega, by go_num, HNN.out, HB.out⟩
                case measure => simp [intOf]
              · obtain ⟨v1, v2⟩ := isChar_bounds hic.symm
                have HR := Sp.hid (refBytes_any v wo v1 v2)
                have hsd : encM v = bs.take 3 → decM bs = some (v, 3) := fun h => same_dec hic.symm h (by rw [← HM.out]; exact hsm)
                have hnn : encM v ≠ bs.take 3 → ∀ r n, decM bs = some (r, n) → 3 + 1 ≤ n := fun hne r n h => by
                  have h1 := HNO.out r n h
                  rcases Nat.lt_or_ge 3 n with h2 | h2
                  · exact h2
                  · exfalso
                    have hn : n = 3 := by omega
                    have h3 := HCDV.out r n h hn
                    have h4 := (enc_dec h).2.2.2
                    rw [hn, ← h3] at h4
                    exact hne h4.symm
                have HSD := Sp.hid hsd
                have HNN := Sp.hid hnn
                have hel : (encM v).length ≤ 4 := by rw [encM_length]; unfold sizeOf_; split; decide; split; decide; split <;> decide
                obtain ⟨L, hL⟩ : ∃ L, L = (encM v).length := ⟨_, rfl⟩
                rw [← hL] at HR hel
                have HL := Sp.hid hL
                clear hsd hnn hic hL
                go_wp2_with fail
                refine HI.out.mono ?_
                rintro e w2 ⟨rfl, rfl⟩
                go_wp2_with fail
                refine HR.out.mono ?_
                rintro e w3 ⟨cc, rfl, hcc, hsl, hb3⟩
                have hs3 := hb3.size
                have HX := Sp.hid hsl
                have HW3 := Sp.hid (HB.out.trans (hb3.mono hsw))
                have hbx : ∃ bq, bq = decide (L = 3) := ⟨_, rfl⟩
                obtain ⟨bq, hbq⟩ := hbx
                have hbe : ((L : Int) == 3) = bq := by rw [hbq, Bool.eq_iff_iff]; simp; omega
                have hb1 : bq = true → L = 3 := fun h => by rw [h] at hbq; simpa using hbq.symm
                have hb0 : bq = false → L ≠ 3 := fun h => by rw [h] at hbq; simpa using hbq.symm
                have HB1 := Sp.hid hb1
                have HB0 := Sp.hid hb0
                clear hsl hb3 HR HI hbq hb1 hb0
                go_wp2
                go_loopw [8, 9] (fun sm i wr => ∃ k : Nat, k ≤ L ∧ i = .int .i64 k ∧ ∃ q : Bool, sm = .bool q ∧ (q = true → L = 3 ∧ (encM v).take k = bs.take k) ∧ (q = false → encM v ≠ bs.take 3) ∧ Below w3.heap.size w3 wr) (fun _ i _ => L - (intOf i).toNat)
                case atStart =>
                  refine ⟨0, by omega, rfl, bq, by first | rfl | rw [hbe], fun h => ⟨HB1.out h, rfl⟩, fun h he => HB0.out h ?_, Below.refl _ _⟩
                  rw [HL.out, he, List.length_take]
                  have := HM.out
                  omega
                case round =>
                  obtain ⟨k, hk, rfl, q, rfl, hq1, hq0, hbx⟩ := hrel
                  have hsx := hbx.size
                  have HQ1 := Sp.hid hq1
                  have HQ0 := Sp.hid hq0
                  have HBX := Sp.hid hbx
                  clear hq1 hq0 hbx
                  cases q
                  · have HNX := Sp.hid (HNN.out (HQ0.out rfl))
                    by_cases hkL : k < L
                    · go_wp2
                      go_roundw
                      case rel => exact ⟨3 + 1, by omega, by omega, by go_num, HNX.out, HW3.out.trans (HBX.out.mono HW3.out.size)⟩
                      case measure => simp [intOf]
                    · go_wp2
                      go_roundw
                      case rel => exact ⟨3 + 1, by omega, by omega, by go_num, HNX.out, HW3.out.trans (HBX.out.mono HW3.out.size)⟩
                      case measure => simp [intOf]
                  · obtain ⟨hLs, htk⟩ := HQ1.out rfl
                    have hLle : L ≤ 3 := by omega
                    have hLge : 3 ≤ L := by omega
                    have HLS := Sp.hid hLs
                    clear hLs
                    by_cases hkL : k < L
                    · have hkv : k < (encM v).length := by rw [← HL.out]; exact hkL
                      have hkb : k < bs.length := by have := HM.out; omega
                      obtain ⟨bx, ox, hax, fx, ex⟩ := HX.out.int_cell k hkv
                      cases hax
                      have c1 : wr.cell? ⟨wo.heap.size, 0 + k, none⟩ = some (.int .u8 (encM v)[k]) := by rw [HBX.out.cell (p := ⟨wo.heap.size, _, none⟩) fx.2]; exact ex
                      have c2 : wr.cell? ⟨b, o + k, none⟩ = some (.int .u8 bs[k]) := HCE.out wr (HW3.out.trans (HBX.out.mono HW3.out.size)) k hkb
                      have hi1 : ((k : Int) < (L : Int)) := by omega
                      have hi2 : ((k : Int) < (m : Int)) := by omega
                      have hs1 := List.take_succ_eq_append_getElem hkv
                      have hs2 := List.take_succ_eq_append_getElem hkb
                      obtain ⟨x, hx⟩ : ∃ x, x = (encM v)[k] := ⟨_, rfl⟩
                      obtain ⟨y, hy⟩ : ∃ y, y = bs[k] := ⟨_, rfl⟩
                      rw [← hx] at c1 hs1
                      rw [← hy] at c2 hs2
                      have hne : x ≠ y → encM v ≠ bs.take 3 := fun hxy he => by
                        apply hxy
                        rw [hx, hy]
                        have : (encM v)[k]? = bs[k]? := by
                          rw [he, List.getElem?_take]
                          simp [show k < 3 by omega]
                        rw [List.getElem?_eq_getElem hkv, List.getElem?_eq_getElem hkb] at this
                        exact Option.some.inj this
                      have HNE := Sp.hid hne
                      have HT := Sp.hid htk
                      have HS1 := Sp.hid hs1
                      have HS2 := Sp.hid hs2
                      clear hx hy hne htk hs1 hs2 ex
                      simp only [Nat.zero_add] at c1
                      cases hxy : (x == y)
                      · have hxn : x ≠ y := by simpa using hxy
                        have HXN := Sp.hid hxn
                        clear hxn
                        go_wp2_with fail
                        go_quiet (fail)
                        go_wp2
                        go_roundw
                        case rel => exact ⟨k + 1, by omega, by go_num, false, rfl, (fun h => by cases h), (fun _ => HNE.out HXN.out), below_drewN HBX.out _⟩
                        case measure => simp [intOf]; omega
                      · have hxe : x = y := by simpa using hxy
                        have HXE := Sp.hid hxe
                        clear hxe
                        go_wp2_with fail
                        go_quiet (fail)
                        go_wp2
                        go_roundw
                        case rel => exact ⟨k + 1, by omega, by go_num, true, rfl, (fun _ => ⟨HLS.out, by rw [HS1.out, HS2.out, HT.out, HXE.out]⟩), (fun h => by cases h), below_drewN HBX.out _⟩
                        case measure => simp [intOf]; omega
                    · obtain rfl : k = L := by omega
                      have he : encM v = bs.take 3 := by
                        rw [← HLS.out, ← htk, HL.out, List.take_length]
                      have hv := HS.out v 3 (HSD.out he)
                      have HV := Sp.hid hv
                      clear hv he htk
                      go_wp2
                      go_ret2
                      exact ⟨by rw [HV.out]; rfl, HW3.out.trans (HBX.out.mono HW3.out.size)⟩
        · have hoff : c - offOf 4 = c - 240 := by rfl
          have HOFF := Sp.hid hoff
          clear hoff
          go_wp2
          go_loop [5, 6] (fun v i => ∃ j : Nat, j ≤ 4 - 1 ∧ i = .int .i64 ((j : Int) + 1) ∧ v = .int .i64 (cand c t 4 j)) (fun _ i => 4 - (intOf i).toNat)
          case atStart => exact ⟨0, by omega, rfl, by unfold cand; rw [HOFF.out]; rfl⟩
          case round =>
            obtain ⟨j, hj, rfl, rfl⟩ := hrel
            by_cases hjs : j < 4 - 1
            · have hjt : j < t.length := by omega
              have ec := HCR.out j hjt
              have hnx := cand_next (c := c) (s := 4) hjt
              have htx := HTB.out t[j] (List.getElem_mem _)
              obtain ⟨x, hx⟩ : ∃ x, x = t[j] := ⟨_, rfl⟩
              rw [← hx] at ec hnx htx
              obtain ⟨b1, b2⟩ := HBN.out j (by omega)
              have hp : (100 : Int) ^ j ≤ 1000000 := by
                have : j = 0 ∨ j = 1 ∨ j = 2 := by omega
                rcases this with rfl | rfl | rfl <;> decide
              obtain ⟨v, hv⟩ : ∃ v, v = cand c t 4 j := ⟨_, rfl⟩
              rw [← hv] at hnx b1 b2 ⊢
              have v1 : -1000000000 ≤ v := by omega
              have v2 : v ≤ 1000000000 := by omega
              have x1 := htx.1
              have x2 := htx.2
              have HNX := Sp.hid hnx
              clear hnx hx hv b1 b2 hp htx
              go_wp2
              go_round
              case rel => exact ⟨j + 1, by omega, by go_num, by rw [HNX.out]⟩
              case measure => simp [intOf]; omega
            · obtain rfl : j = 4 - 1 := by omega
              obtain ⟨v, hv⟩ : ∃ v, v = cand c t 4 (4 - 1) := ⟨_, rfl⟩
              rw [← hv]
              have hcd : ∀ r n, decM bs = some (r, n) → n = 4 → v = r := fun r n h hn => by rw [hv]; subst hn; exact HCD.out r _ h
              have HCDV := Sp.hid hcd
              have HI := Sp.hid (refIs_any v wo)
              obtain ⟨ic, hic⟩ : ∃ ic, ic = isChar v := ⟨_, rfl⟩
              rw [← hic] at HI
              clear hcd hv
              cases ic
              · have hnn : ∀ r n, decM bs = some (r, n) → 4 + 1 ≤ n := fun r n h => by
                  have h1 := HNO.out r n h
                  rcases Nat.lt_or_ge 4 n with h2 | h2
                  · exact h2
                  · exfalso
                    have h3 := HCDV.out r n h (by omega)
                    have h4 := (enc_dec h).1
                    rw [← h3, ← hic] at h4
                    cases h4
                have HNN := Sp.hid hnn
                clear hnn hic
                go_wp2_with fail
                refine HI.out.mono ?_
                rintro e w2 ⟨rfl, rfl⟩
                go_wp2
                go_roundw
                case rel => exact ⟨4 + 1, by omega, by omega, by go_num, HNN.out, HB.out⟩
                case measure => simp [intOf]
              · obtain ⟨v1, v2⟩ := isChar_bounds hic.symm
                have HR := Sp.hid (refBytes_any v wo v1 v2)
                have hsd : encM v = bs.take 4 → decM bs = some (v, 4) := fun h => same_dec hic.symm h (by rw [← HM.out]; exact hsm)
                have hnn : encM v ≠ bs.take 4 → ∀ r n, decM bs = some (r, n) → 4 + 1 ≤ n := fun hne r n h => by
                  have h1 := HNO.out r n h
                  rcases Nat.lt_or_ge 4 n with h2 | h2
                  · exact h2
                  · exfalso
                    have hn : n = 4 := by omega
                    have h3 := HCDV.out r n h hn
                    have h4 := (enc_dec h).2.2.2
                    rw [hn, ← h3] at h4
                    exact hne h4.symm
                have HSD := Sp.hid hsd
                have HNN := Sp.hid hnn
                have hel : (encM v).length ≤ 4 := by rw [encM_length]; unfold sizeOf_; split; decide; split; decide; split <;> decide
                obtain ⟨L, hL⟩ : ∃ L, L = (encM v).length := ⟨_, rfl⟩
                rw [← hL] at HR hel
                have HL := Sp.hid hL
                clear hsd hnn hic hL
                go_wp2_with fail
                refine HI.out.mono ?_
                rintro e w2 ⟨rfl, rfl⟩
                go_wp2_with fail
                refine HR.out.mono ?_
                rintro e w3 ⟨cc, rfl, hcc, hsl, hb3⟩
                have hs3 := hb3.size
                have HX := Sp.hid hsl
                have HW3 := Sp.hid (HB.out.trans (hb3.mono hsw))
                have hbx : ∃ bq, bq = decide (L = 4) := ⟨_, rfl⟩
                obtain ⟨bq, hbq⟩ := hbx
                have hbe : ((L : Int) == 4) = bq := by rw [hbq, Bool.eq_iff_iff]; simp; omega
                have hb1 : bq = true → L = 4 := fun h => by rw [h] at hbq; simpa using hbq.symm
                have hb0 : bq = false → L ≠ 4 := fun h => by rw [h] at hbq; simpa using hbq.symm
                have HB1 := Sp.hid hb1
                have HB0 := Sp.hid hb0
                clear hsl hb3 HR HI hbq hb1 hb0
                go_wp2
                go_loopw [8, 9] (fun sm i wr => ∃ k : Nat, k ≤ L ∧ i = .int .i64 k ∧ ∃ q : Bool, sm = .bool q ∧ (q = true → L = 4 ∧ (encM v).take k = bs.take k) ∧ (q = false → encM v ≠ bs.take 4) ∧ Below w3.heap.size w3 wr) (fun _ i _ => L - (intOf i).toNat)
                case atStart =>
                  refine ⟨0, by omega, rfl, bq, by first | rfl | rw [hbe], fun h => ⟨HB1.out h, rfl⟩, fun h he => HB0.out h ?_, Below.refl _ _⟩
                  rw [HL.out, he, List.length_take]
                  have := HM.out
                  omega
                case round =>
                  obtain ⟨k, hk, rfl, q, rfl, hq1, hq0, hbx⟩ := hrel
                  have hsx := hbx.size
                  have HQ1 := Sp.hid hq1
                  have HQ0 := Sp.hid hq0
                  have HBX := Sp.hid hbx
                  clear hq1 hq0 hbx
                  cases q
                  · have HNX := Sp.hid (HNN.out (HQ0.out rfl))
                    by_cases hkL : k < L
                    · go_wp2
                      go_roundw
                      case rel => exact ⟨4 + 1, by omega, by omega, by go_num, HNX.out, HW3.out.trans (HBX.out.mono HW3.out.size)⟩
                      case measure => simp [intOf]
                    · go_wp2
                      go_roundw
                      case rel => exact ⟨4 + 1, by omega, by omega, by go_num, HNX.out, HW3.out.trans (HBX.out.mono HW3.out.size)⟩
                      case measure => simp [intOf]
                  · obtain ⟨hLs, htk⟩ := HQ1.out rfl
                    have hLle : L ≤ 4 := by omega
                    have hLge : 4 ≤ L := by omega
                    have HLS := Sp.hid hLs
                    clear hLs
                    by_cases hkL : k < L
                    · have hkv : k < (encM v).length := by rw [← HL.out]; exact hkL
                      have hkb : k < bs.length := by have := HM.out; omega
                      obtain ⟨bx, ox, hax, fx, ex⟩ := HX.out.int_cell k hkv
                      cases hax
                      have c1 : wr.cell? ⟨wo.heap.size, 0 + k, none⟩ = some (.int .u8 (encM v)[k]) := by rw [HBX.out.cell (p := ⟨wo.heap.size, _, none⟩) fx.2]; exact ex
                      have c2 : wr.cell? ⟨b, o + k, none⟩ = some (.int .u8 bs[k]) := HCE.out wr (HW3.out.trans (HBX.out.mono HW3.out.size)) k hkb
                      have hi1 : ((k : Int) < (L : Int)) := by omega
                      have hi2 : ((k : Int) < (m : Int)) := by omega
                      have hs1 := List.take_succ_eq_append_getElem hkv
                      have hs2 := List.take_succ_eq_append_getElem hkb
                      obtain ⟨x, hx⟩ : ∃ x, x = (encM v)[k] := ⟨_, rfl⟩
                      obtain ⟨y, hy⟩ : ∃ y, y = bs[k] := ⟨_, rfl⟩
                      rw [← hx] at c1 hs1
                      rw [← hy] at c2 hs2
                      have hne : x ≠ y → encM v ≠ bs.take 4 := fun hxy he => by
                        apply hxy
                        rw [hx, hy]
                        have : (encM v)[k]? = bs[k]? := by
                          rw [he, List.getElem?_take]
                          simp [show k < 4 by omega]
                        rw [List.getElem?_eq_getElem hkv, List.getElem?_eq_getElem hkb] at this
                        exact Option.some.inj this
                      have HNE := Sp.hid hne
                      have HT := Sp.hid htk
                      have HS1 := Sp.hid hs1
                      have HS2 := Sp.hid hs2
                      clear hx hy hne htk hs1 hs2 ex
                      simp only [Nat.zero_add] at c1
                      cases hxy : (x == y)
                      · have hxn : x ≠ y := by simpa using hxy
                        have HXN := Sp.hid hxn
                        clear hxn
                        go_wp2_with fail
                        go_quiet (fail)
                        go_wp2
                        go_roundw
                        case rel => exact ⟨k + 1, by omega, by go_num, false, rfl, (fun h => by cases h), (fun _ => HNE.out HXN.out), below_drewN HBX.out _⟩
                        case measure => simp [intOf]; omega
                      · have hxe : x = y := by simpa using hxy
                        have HXE := Sp.hid hxe
                        clear hxe
                        go_wp2_with fail
                        go_quiet (fail)
                        go_wp2
                        go_roundw
                        case rel => exact ⟨k + 1, by omega, by go_num, true, rfl, (fun _ => ⟨HLS.out, by rw [HS1.out, HS2.out, HT.out, HXE.out]⟩), (fun h => by cases h), below_drewN HBX.out _⟩
                        case measure => simp [intOf]; omega
                    · obtain rfl : k = L := by omega
                      have he : encM v = bs.take 4 := by
                        rw [← HLS.out, ← htk, HL.out, List.take_length]
                      have hv := HS.out v 4 (HSD.out he)
                      have HV := Sp.hid hv
                      clear hv he htk
                      go_wp2
                      go_ret2
                      exact ⟨by rw [HV.out]; rfl, HW3.out.trans (HBX.out.mono HW3.out.size)⟩
      · have hn : decM bs = none := by
          cases hd : decM bs with
          | none => rfl
          | some q =>
            obtain ⟨r, n⟩ := q
            have h1 := HNO.out r n hd
            have h2 := (dec_size hd).2.2
            have := HM.out
            omega
        have hv := HN.out hn
        have HV := Sp.hid hv
        clear hv hn
        go_wp2
        go_ret2
        exact ⟨by rw [HV.out]; rfl, HB.out⟩
    · have hn : decM bs = none := by
        cases hd : decM bs with
        | none => rfl
        | some q =>
          obtain ⟨r, n⟩ := q
          have h1 := HNO.out r n hd
          have h2 := (dec_size hd).2.1
          omega
      have hv := HN.out hn
      have HV := Sp.hid hv
      clear hv hn
      go_wp2
      go_ret2
      exact ⟨by rw [HV.out]; rfl, HB.out⟩

end Go.Proofs.YtoknglpfchjbjaaGreatDoor

/- The document's names and characters: spyglassref01.All, spyglassref02.Is, Chars. Conditions: at most 1000 bytes for characters. -/
namespace Go.Proofs.YtoknglpfchjbjaaGreatDoor
open Go.RowKit Go.Sp Go.Maps

theorem infoIntU : (Tryz.prog.info? 3).map (fun i => (i.zero, i.size, i.bytes)) = some (some (.int .i64 0), 1, 8) := by kernel_rfl

theorem sl_dropU {q : IntKind} {F : Nat → Prop} {w : World} {b o : Nat} {xs : List Int} (h : Sl (Shape.int q) F w (some ⟨b, o, none⟩) xs) (k : Nat) : Sl (Shape.int q) F w (some ⟨b, o + k, none⟩) (xs.drop k) := by
  intro i hi
  have hi' : k + i < xs.length := by rw [List.length_drop] at hi; omega
  obtain ⟨b', o', hb, hF, e⟩ := h.int_cell (k + i) hi'
  cases hb
  refine ⟨b, o + k, [.int q (xs.drop k)[i]], rfl, hF, rfl, ?_⟩
  intro j hj
  have hj0 : j = 0 := by simpa using hj
  subst hj0
  simp only [Shape.int, Nat.mul_one, Nat.add_zero, List.getElem_drop, List.getElem_cons_zero]
  rw [Nat.add_assoc]
  exact e

theorem sl_takeU {q : IntKind} {F : Nat → Prop} {w : World} {a : Option Addr} {xs : List Int} (h : Sl (Shape.int q) F w a xs) (k : Nat) : Sl (Shape.int q) F w a (xs.take k) := by
  intro i hi
  have hi' : i < xs.length := by rw [List.length_take] at hi; omega
  obtain ⟨b', o', vs, hb, hF, e, hc⟩ := h i hi'
  exact ⟨b', o', vs, hb, hF, by rw [List.getElem_take]; exact e, hc⟩

theorem part_len {bs rs : List Int} {k : Nat} (h : Part bs rs k) : rs.length ≤ k := by
  have h1 : k = (rs.flatMap encM).length := by rw [← h.2.2, List.length_take]; have := h.2.1; omega
  have : ∀ rs : List Int, rs.length ≤ (rs.flatMap encM).length := by
    intro rs
    induction rs with
    | nil => simp
    | cons r rs ih =>
      rw [List.flatMap_cons, List.length_append, List.length_cons, encM_length]
      have := size_pos r
      omega
  rw [h1]; exact this rs

set_option maxRecDepth 100000 in
set_option maxHeartbeats 2000000 in
theorem refAll_any (F : Nat → Prop) (a : Option Addr) (cap : Nat) (bs : List Int) (w : World) (hbs : Sl (Shape.int .u8) F w a bs) (hF : ∀ k, F k → k < w.heap.size) (hbd : ∀ x ∈ bs, 0 ≤ x ∧ x ≤ 255) (hcap : bs.length ≤ cap) (hlen : bs.length ≤ 1000) :
    Calls Tryz.prog 51 #[.slice a bs.length cap] w fun e w' => ∃ k rs a' cap', Chars bs rs k ∧ e = .returned (.tuple #[.slice a' rs.length cap', .int .i64 (k : Nat)]) ∧ rs.length ≤ cap' ∧
      Sl (Shape.int .i64) (fun b => w.heap.size ≤ b ∧ b < w'.heap.size) w' a' rs ∧ Below w.heap.size w w' := by
  obtain ⟨i0, hi0, hz0, hz1, hz2⟩ := info_parts infoIntU
  have HBS := Sp.hid hbs
  have HF := Sp.hid hF
  have HBD := Sp.hid hbd
  clear hbs hF hbd
  obtain ⟨m, hm⟩ : ∃ m, m = bs.length := ⟨_, rfl⟩
  have HM := Sp.hid hm
  rw [← hm] at hcap hlen ⊢
  clear hm
  go_enter Tryz.func51, Tryz.ntmps51
  go_wp2
  go_loopw [4, 5] (fun v i wr => ∃ k : Nat, k ≤ m ∧ i = .int .i64 k ∧ ∃ rs, Part bs rs k ∧ wr.ownsRow w.heap.size 3 1 v rs.length (rs.map (Value.int .i64)) ∧ Below w.heap.size w wr) (fun _ i _ => m - (intOf i).toNat)
  case atStart => exact ⟨0, by omega, rfl, [], ⟨rfl, by omega, rfl⟩, World.ownsRow_nil _ _ _ _, Below.refl _ _⟩
  case round =>
    obtain ⟨k, hk, rfl, rs, hp, hown, hb⟩ := hrel
    have hsw := hb.size
    have hrl := part_len hp
    by_cases hlt : k < m
    · obtain ⟨b, o, rfl, hfb, _⟩ := HBS.out.int_cell k (by rw [← HM.out]; exact hlt)
      obtain ⟨v0, rfl⟩ : ∃ v0 : Value, v0 = u4 := ⟨_, rfl⟩
      have hdl : (bs.drop k).length = m - k := by rw [List.length_drop, ← HM.out]
      have hrd := refRead_any F (some ⟨b, o + k, none⟩) (cap - k) (bs.drop k) wr (sl_dropU (HBS.out.below HF.out hb) k) (fun j hj => by have := HF.out j hj; omega) (fun x hx => HBD.out x (List.mem_of_mem_drop hx)) (by rw [hdl]; omega)
      rw [hdl] at hrd
      have HRD := Sp.hid hrd
      have HP := Sp.hid hp
      have HO := Sp.hid hown
      have HB := Sp.hid hb
      have hck : ¬ cap = k := by omega
      clear hrd hp hown hb hdl
      cases hd : decM (bs.drop k) with
      | none =>
        have hv : readV (bs.drop k) = .tuple #[.int .i64 0, .int .i64 0] := by unfold readV; rw [hd]
        rw [hv] at HRD
        have HD := Sp.hid hd
        clear hv hd
        go_wp2_with fail
        refine HRD.out.mono ?_
        rintro e w1 ⟨rfl, hb1⟩
        have ho1 := ownsRow_below1 HO.out hb1
        obtain ⟨a', cap', rfl, z1, z2, z3, z4, hsl⟩ := own_ints ho1
        have HSL := Sp.hid hsl
        have HB1 := Sp.hid (HB.out.trans (hb1.mono hsw))
        clear z1 z3 z4 hsl hb1 ho1 HO HB
        go_wp2
        go_ret2
        exact ⟨k, rs, a', cap', ⟨HP.out, HD.out⟩, rfl, z2, HSL.out, HB1.out⟩
      | some q =>
        obtain ⟨r, n⟩ := q
        have hv : readV (bs.drop k) = .tuple #[.int .i64 r, .int .i64 (n : Nat)] := by unfold readV; rw [hd]
        rw [hv] at HRD
        have hnx := HP.out.next hd
        obtain ⟨hn1, hn4, _⟩ := dec_size hd
        have hkn := hnx.2.1
        rw [← HM.out] at hkn
        have HNX := Sp.hid hnx
        clear hv hd hnx
        go_wp2_with fail
        refine HRD.out.mono ?_
        rintro e w1 ⟨rfl, hb1⟩
        have hs1 := hb1.size
        have HO1 := Sp.hid (ownsRow_below1 HO.out hb1)
        have HB1 := Sp.hid (HB.out.trans (hb1.mono hsw))
        clear hb1 HO HB
        go_wp2_with (at_builtin; refine wpList_append_own _ rfl _ _ 51 rfl w.heap.size 3 i0 (.int .i64 0) 1 8 Tryz.underlying51 hi0 hz0 hz1 hz2 rfl (by decide) _ _ _ rfl (HO1.out.alloc _) ⟨w1.heap.size, 0, none⟩ 1 1 [.int .i64 r] rfl rfl (cells_new _ [.int .i64 r] _) ?a1 ?a2 ?a3 ?a4 ?a5)
        case a1 => intro u hu; simp only [List.mem_cons, List.not_mem_nil, or_false] at hu; rcases hu with rfl; rfl
        case a2 => unfold maxLen; omega
        case a3 => omega
        case a4 => have := HB1.out.size; simp; omega
        case a5 =>
        intro v' w3 hown' hgrow _
        have hb3 : Below w.heap.size w w3 := (HB1.out.alloc HB1.out.size _).grown hgrow (by have := HB1.out.size; simp; omega) (fun j hj => (HO1.out.lt j hj).1)
        have ho3 : w3.ownsRow w.heap.size 3 1 v' (rs ++ [r]).length ((rs ++ [r]).map (Value.int .i64)) := by
          rw [List.length_append, List.map_append]; exact hown'
        have HO3 := Sp.hid ho3
        have HB3 := Sp.hid hb3
        clear hown' hgrow hb3 ho3
        go_wp2
        go_roundw
        case rel => exact ⟨k + n, by omega, by go_num, rs ++ [r], HNX.out, HO3.out, HB3.out⟩
        case measure => simp [intOf]; omega
    · obtain rfl : k = m := by omega
      obtain ⟨a', cap', rfl, z1, z2, z3, z4, hsl⟩ := own_ints hown
      have HSL := Sp.hid hsl
      have HB := Sp.hid hb
      have HP := Sp.hid hp
      clear z1 z3 z4 hsl hb hown hp
      go_wp2
      go_ret2
      exact ⟨k, rs, a', cap', ⟨HP.out, by rw [HM.out, List.drop_length]; rfl⟩, rfl, z2, HSL.out, HB.out⟩

/-- May a byte stand in a name, at its place? -/
def okC (k : Nat) (c : Int) : Prop := (97 ≤ c ∧ c ≤ 122) ∨ (65 ≤ c ∧ c ≤ 90) ∨ c = 95 ∨ (0 < k ∧ ((48 ≤ c ∧ c ≤ 57) ∨ c = 45 ∨ c = 46))
theorem isName_iff (s : ByteArray) : isName s = true ↔ (1 ≤ s.size ∧ s.size ≤ 64) ∧ ∀ i (hi : i < s.size), okC i ((s[i]'hi).toNat : Nat) := by
  have hL : ∀ c : Int, isLetter c = true ↔ okC 0 c := fun c => by
    unfold isLetter okC; simp only [Bool.or_eq_true, Bool.and_eq_true, decide_eq_true_eq]; omega
  have hP : ∀ (k : Nat) (c : Int), 0 < k → (isPart c = true ↔ okC k c) := fun k c hk => by
    unfold isPart isLetter isDigit okC; simp only [Bool.or_eq_true, Bool.and_eq_true, decide_eq_true_eq]; omega
  have hPL : ∀ c : Int, isLetter c = true → isPart c = true := fun c h => by unfold isPart; rw [h]; rfl
  unfold isName
  by_cases h1 : 1 ≤ s.size
  · have hh : s.data.toList.headD 0 = s[0]'h1 := by
      have hl : 0 < s.data.toList.length := by rw [Array.length_toList]; exact h1
      cases he : s.data.toList with
      | nil => rw [he] at hl; cases hl
      | cons b l =>
        have : s.data.toList[0]'hl = b := by simp [he]
        rw [List.headD_cons, ← this, Array.getElem_toList]; rfl
    rw [hh]
    simp only [Bool.and_eq_true, decide_eq_true_eq, allPart_iff]
    constructor
    · rintro ⟨⟨⟨a, b⟩, c⟩, d⟩
      refine ⟨⟨a, b⟩, fun i hi => ?_⟩
      cases i with
      | zero => exact (hL _).1 c
      | succ i => exact (hP _ _ (by omega)).1 (d _ hi)
    · rintro ⟨⟨a, b⟩, d⟩
      refine ⟨⟨⟨a, b⟩, (hL _).2 (d 0 h1)⟩, fun i hi => ?_⟩
      cases i with
      | zero => exact hPL _ ((hL _).2 (d 0 hi))
      | succ i => exact (hP (i + 1) _ (by omega)).2 (d _ hi)
  · simp [h1]



set_option maxHeartbeats 2000000 in
theorem refName_any (s : ByteArray) (w : World) (hs : s.size ≤ maxLen) : Calls Tryz.prog 29 #[.string s] w fun e w' => e = .returned (.bool (isName s)) ∧ w' = w := by
  unfold maxLen at hs
  go_enter Tryz.func29, Tryz.ntmps29
  go_wp2
  go_loop [3] (fun i => ∃ k : Nat, k ≤ s.size ∧ i = .int .i64 k ∧ ∀ j (hj : j < s.size), j < k → okC j ((s[j]'hj).toNat : Nat)) (fun i => s.size - (intOf i).toNat)
  case atStart => exact ⟨0, Nat.zero_le _, rfl, fun j _ h => absurd h (Nat.not_lt_zero _)⟩
  case round =>
    obtain ⟨k, hk, rfl, hall⟩ := hrel
    by_cases hlt : k < s.size
    · obtain ⟨c, hc⟩ : ∃ c : Int, (((s[k]'hlt).toNat : Nat) : Int) = c := ⟨_, rfl⟩
      have HOK := Sp.hid (fun (h : okC k c) => (fun j hj hjk => by
        by_cases he : j = k
        · subst he; rw [hc]; exact h
        · exact hall j hj (by omega) : ∀ j (hj : j < s.size), j < k + 1 → okC j ((s[j]'hj).toNat : Nat)))
      have HBAD := Sp.hid (fun (h : ¬ okC k c) => (by
        rw [← Bool.not_eq_true, isName_iff]
        rintro ⟨_, h2⟩
        exact h (by rw [← hc]; exact h2 k hlt) : isName s = false))
      clear hall
      by_cases a1 : 97 ≤ c
      · by_cases a2 : c ≤ 122
        · skip
          go_wp2
          go_round
          case rel => exact ⟨k + 1, by omega, by go_num, HOK.out (by unfold okC; omega)⟩
          case measure => simp [intOf]; omega
        · have a3 : ¬ c ≤ 90 := by omega
          have a5 : 65 ≤ c := by omega
          have a4 : (c == 95) = false := by simp; omega
          have b1 : 48 ≤ c := by omega
          have b2 : ¬ c ≤ 57 := by omega
          have b3 : (c == 45) = false := by simp; omega
          have b4 : (c == 46) = false := by simp; omega
          cases k with
          | zero =>
            go_wp2
            go_ret
            exact ⟨by rw [HBAD.out (by unfold okC; omega)]; rfl, rfl⟩
          | succ k =>
            have hk0 : (((k + 1 : Nat) : Int) == 0) = false := by simp; omega
            go_wp2
            go_ret
            exact ⟨by rw [HBAD.out (by unfold okC; omega)]; rfl, rfl⟩
      · by_cases a2 : 65 ≤ c
        · by_cases a3 : c ≤ 90
          · skip
            go_wp2
            go_round
            case rel => exact ⟨k + 1, by omega, by go_num, HOK.out (by unfold okC; omega)⟩
            case measure => simp [intOf]; omega
          · by_cases a4 : c = 95
            · subst a4
              go_wp2
              go_round
              case rel => exact ⟨k + 1, by omega, by go_num, HOK.out (by unfold okC; omega)⟩
              case measure => simp [intOf]; omega
            · have a5 : (c == 95) = false := by simpa using a4
              have b1 : 48 ≤ c := by omega
              have b2 : ¬ c ≤ 57 := by omega
              have b3 : (c == 45) = false := by simp; omega
              have b4 : (c == 46) = false := by simp; omega
              cases k with
              | zero =>
                go_wp2
                go_ret
                exact ⟨by rw [HBAD.out (by unfold okC; omega)]; rfl, rfl⟩
              | succ k =>
                have hk0 : (((k + 1 : Nat) : Int) == 0) = false := by simp; omega
                go_wp2
                go_ret
                exact ⟨by rw [HBAD.out (by unfold okC; omega)]; rfl, rfl⟩
        · have a4 : (c == 95) = false := by simp; omega
          cases k with
          | zero =>
            go_wp2
            go_ret
            exact ⟨by rw [HBAD.out (by unfold okC; omega)]; rfl, rfl⟩
          | succ k =>
            have hk0 : (((k + 1 : Nat) : Int) == 0) = false := by simp; omega
            by_cases b1 : 48 ≤ c
            · by_cases b2 : c ≤ 57
              · have hpos : 0 < k + 1 := by omega
                go_wp2
                go_round
                case rel => exact ⟨k + 1 + 1, by omega, by go_num, HOK.out (by unfold okC; omega)⟩
                case measure => simp [intOf]; omega
              · have b3 : (c == 45) = false := by simp; omega
                have b4 : (c == 46) = false := by simp; omega
                go_wp2
                go_ret
                exact ⟨by rw [HBAD.out (by unfold okC; omega)]; rfl, rfl⟩
            · by_cases b3 : c = 45
              · subst b3
                go_wp2
                go_round
                case rel => exact ⟨k + 1 + 1, by omega, by go_num, HOK.out (by unfold okC; omega)⟩
                case measure => simp [intOf]; omega
              · by_cases b4 : c = 46
                · subst b4
                  go_wp2
                  go_round
                  case rel => exact ⟨k + 1 + 1, by omega, by go_num, HOK.out (by unfold okC; omega)⟩
                  case measure => simp [intOf]; omega
                · have b5 : (c == 45) = false := by simpa using b3
                  have b6 : (c == 46) = false := by simpa using b4
                  go_wp2
                  go_ret
                  exact ⟨by rw [HBAD.out (by unfold okC; omega)]; rfl, rfl⟩
    · have hall2 := fun i (hi : i < s.size) => hall i hi (by omega)
      by_cases h1 : 1 ≤ s.size
      · by_cases h2 : s.size ≤ 64
        · have HT := Sp.hid (show isName s = true by rw [isName_iff]; exact ⟨⟨h1, h2⟩, hall2⟩)
          clear hall hall2
          have h1' : (1 : Int) ≤ (s.size : Int) := by omega
          have h2' : (s.size : Int) ≤ 64 := by omega
          go_wp2
          go_ret
          exact ⟨by rw [HT.out]; rfl, rfl⟩
        · have HT := Sp.hid (show isName s = false by rw [← Bool.not_eq_true, isName_iff]; rintro ⟨⟨_, h⟩, _⟩; exact h2 h)
          clear hall hall2
          have h1' : (1 : Int) ≤ (s.size : Int) := by omega
          have h2' : ¬ (s.size : Int) ≤ 64 := by omega
          go_wp2
          go_ret
          exact ⟨by rw [HT.out]; rfl, rfl⟩
      · have HT := Sp.hid (show isName s = false by rw [← Bool.not_eq_true, isName_iff]; rintro ⟨⟨h, _⟩, _⟩; exact h1 h)
        clear hall hall2
        have h1' : ¬ (1 : Int) ≤ (s.size : Int) := by omega
        go_wp2
        go_ret
        exact ⟨by rw [HT.out]; rfl, rfl⟩

set_option maxHeartbeats 1000000 in
theorem refChars_any (s : ByteArray) (w : World) (hs : s.size ≤ 1000) : Calls Tryz.prog 30 #[.string s] w fun e w' => e = .returned (.bool (textB s)) ∧ Below w.heap.size w w' := by
  obtain ⟨cap, hcap⟩ : ∃ cap, cap = grownCap w s.size 0 5 := ⟨_, rfl⟩
  have hcl : s.size ≤ cap := by rw [hcap]; exact grownCap_ge _ _ _ _
  have hcv := run_bytes_of_string (P := Tryz.prog) w 9 119 5 s Tryz.underlying9 Tryz.underlying119 Tryz.underlying5
  rw [← hcap] at hcv
  obtain ⟨w1, hw1⟩ : ∃ w1, w1 = w.drew.alloc (.cells (bytesRow s cap) 5 ((bytesRow s cap).size, (bytesRow s cap).size + 1)) := ⟨_, rfl⟩
  rw [← hw1] at hcv
  have hb1 : Below w.heap.size w w1 := by rw [hw1]; exact (Below.refl _ _).drew.alloc (Nat.le_refl _) _
  have hsz1 : w1.heap.size = w.heap.size + 1 := by rw [hw1]; exact World.size_alloc _ _
  have hsl : Sl (Shape.int .u8) (· < w1.heap.size) w1 (some ⟨w.heap.size, 0, none⟩) (bytesOf s) := by
    have := sl_bytes w.drew s cap 5 ((bytesRow s cap).size, (bytesRow s cap).size + 1)
    rw [← hw1] at this
    exact this.mono (fun b hb => by have h2 : b < w.heap.size + 1 := hb.2; omega)
  have hbd : ∀ x ∈ bytesOf s, 0 ≤ x ∧ x ≤ 255 := fun x hx => by
    unfold bytesOf at hx
    obtain ⟨b, _, rfl⟩ := List.mem_map.1 hx
    have := b.toNat_lt
    omega
  have hbl := bytesOf_length s
  have HC := refAll_any (· < w1.heap.size) (some ⟨w.heap.size, 0, none⟩) cap (bytesOf s) w1 hsl (fun _ h => h) hbd (by rw [hbl]; exact hcl) (by rw [hbl]; exact hs)
  rw [hbl] at HC
  have HCC := Sp.hid HC
  have HB1 := Sp.hid hb1
  have HBL := Sp.hid hbl
  have hs1 : w.heap.size ≤ w1.heap.size := by omega
  clear HC hb1 hbl hsl hbd hw1 hcap hsz1
  go_enter Tryz.func30, Tryz.ntmps30
  go_wp2_with fail
  refine HCC.out.mono ?_
  rintro e w2 ⟨k, rs, a', cap', hch, rfl, -, -, hb2⟩
  have HB2 := Sp.hid (HB1.out.trans (hb2.mono hs1))
  have HCH := Sp.hid hch
  clear hb2 hch
  by_cases hkm : k = s.size
  · have HT := Sp.hid (show textB s = true by
      have h : isText s := ⟨rs, by rw [HBL.out, ← hkm]; exact HCH.out⟩
      unfold textB
      simpa using h)
    have hke : (((k : Nat) : Int) == ((s.size : Nat) : Int)) = true := by rw [hkm]; simp
    clear hkm
    go_wp2
    go_ret
    exact ⟨by rw [HT.out]; rfl, HB2.out⟩
  · have HT := Sp.hid (show textB s = false by
      have h : ¬ isText s := by
        rintro ⟨rs', h'⟩
        rw [HBL.out] at h'
        exact hkm (chars_uniq HCH.out h').2
      unfold textB
      simpa using h)
    have hke : (((k : Nat) : Int) == ((s.size : Nat) : Int)) = false := by rw [beq_eq_false_iff_ne]; omega
    clear hkm
    go_wp2
    go_ret
    exact ⟨by rw [HT.out]; rfl, HB2.out⟩

end Go.Proofs.YtoknglpfchjbjaaGreatDoor

/- spyglassref04.Count, Check: what each call returns. Conditions: up to 2^20 steps, texts of at most 1000 bytes. -/
namespace Go.Proofs.YtoknglpfchjbjaaGreatDoor
open Go.RowKit Go.Sp Go.Maps

theorem any_next {α : Type} (p : α → Bool) {l : List α} {k : Nat} (h : k < l.length) : (l.take (k + 1)).any p = ((l.take k).any p || p l[k]) := by
  rw [List.take_succ_eq_append_getElem h, List.any_append]; simp
theorem adj_next (p : Stp → Stp → Bool) {l : List Stp} {k : Nat} (h : k + 1 < l.length) : adj p (l.take (k + 2)) = (adj p (l.take (k + 1)) || p (l[k]'(by omega)) l[k + 1]) := by
  rw [List.take_succ_eq_append_getElem h, adj_append, List.take_succ_eq_append_getElem (show k < l.length by omega), List.getLast?_append]
  simp [joint, adj]
theorem cnt_next {l : List Stp} {k : Nat} (h : k < l.length) : cntM (l.take (k + 1)) = cstep (cntM (l.take k)) l[k] := by
  unfold cntM
  rw [List.take_succ_eq_append_getElem h, List.foldl_append]; rfl
theorem cnt_bounds (l : List Stp) : ∀ k, k ≤ l.length → (0 ≤ (cntM (l.take k)).1 ∧ (cntM (l.take k)).1 ≤ k) ∧ (-(k : Int) ≤ (cntM (l.take k)).2.1 ∧ (cntM (l.take k)).2.1 ≤ k) ∧ (0 ≤ (cntM (l.take k)).2.2 ∧ (cntM (l.take k)).2.2 ≤ k) := by
  intro k
  induction k with
  | zero => intro _; simp [cntM]
  | succ k ih =>
    intro hk
    have h := ih (by omega)
    rw [cnt_next (show k < l.length by omega)]
    unfold cstep
    split
    · dsimp only; omega
    · split
      · dsimp only; omega
      · split
        · dsimp only; omega
        · omega


set_option maxHeartbeats 4000000 in
theorem refCount_any (F : Nat → Prop) (xs : List Stp) (hxl : xs.length ≤ 1048576) (a : Option Addr) (c : Nat) (w : World) (hs : Sl stpS F w a xs) :
    Calls Tryz.prog 28 #[.slice a xs.length c] w fun e w' => e = .returned (.tuple #[.int .i64 (cntM xs).1, .int .i64 (cntM xs).2.2]) ∧ w' = w := by
  have HS := Sp.hid hs
  clear hs
  go_enter Tryz.func28, Tryz.ntmps28
  go_wp2
  go_loop [4, 5, 6, 7] (fun n d m i => ∃ k : Nat, k ≤ xs.length ∧ i = .int .i64 k ∧ n = .int .i64 (cntM (xs.take k)).1 ∧ d = .int .i64 (cntM (xs.take k)).2.1 ∧ m = .int .i64 (cntM (xs.take k)).2.2) (fun _ _ _ i => xs.length - (intOf i).toNat)
  case atStart => exact ⟨0, Nat.zero_le _, rfl, rfl, rfl, rfl⟩
  case round =>
    obtain ⟨k, hk, rfl, rfl, rfl, rfl⟩ := hrel
    by_cases hlt : k < xs.length
    · obtain ⟨b, o, rfl, -, -, -, e1, -, -⟩ := stp_cells HS.out k hlt
      obtain ⟨⟨hn0, hn1⟩, ⟨hd0, hd1⟩, ⟨hm0, hm1⟩⟩ := cnt_bounds xs k hk
      have hnx := cnt_next hlt
      obtain ⟨q, hq⟩ : ∃ q, q = xs[k] := ⟨_, rfl⟩
      rw [← hq] at e1 hnx
      obtain ⟨⟨n, d, m⟩, hx⟩ : ∃ x, x = cntM (xs.take k) := ⟨_, rfl⟩
      rw [← hx] at hn0 hn1 hd0 hd1 hm0 hm1 hnx ⊢
      dsimp only at hn0 hn1 hd0 hd1 hm0 hm1 hnx ⊢
      unfold cstep at hnx
      dsimp only at hnx
      clear hx hq
      by_cases h1 : q.kind = 1
      · rw [if_pos h1] at hnx
        have HNX := Sp.hid hnx
        clear hnx
        rw [h1] at e1
        clear h1
        by_cases hmx : m ≤ d + 1
        · have hmm : max m (d + 1) = d + 1 := by omega
          go_wp2
          go_round
          case rel => exact ⟨k + 1, by omega, by go_num, by rw [HNX.out] <;> go_num, by rw [HNX.out] <;> go_num, by rw [HNX.out] <;> go_num⟩
          case measure => simp [intOf]; omega
        · have hmm : max m (d + 1) = m := by omega
          go_wp2
          go_round
          case rel => exact ⟨k + 1, by omega, by go_num, by rw [HNX.out] <;> go_num, by rw [HNX.out] <;> go_num, by rw [HNX.out] <;> go_num⟩
          case measure => simp [intOf]; omega
      · rw [if_neg h1] at hnx
        have h1' : (q.kind == 1) = false := by simpa using h1
        by_cases h3 : q.kind = 3
        · rw [if_pos h3] at hnx
          have HNX := Sp.hid hnx
          rw [h3] at e1
          clear hnx h3 h1 h1'
          by_cases hmx : m ≤ d + 1
          · have hmm : max m (d + 1) = d + 1 := by omega
            go_wp2
            go_round
            case rel => exact ⟨k + 1, by omega, by go_num, by rw [HNX.out] <;> go_num, by rw [HNX.out] <;> go_num, by rw [HNX.out] <;> go_num⟩
            case measure => simp [intOf]; omega
          · have hmm : max m (d + 1) = m := by omega
            go_wp2
            go_round
            case rel => exact ⟨k + 1, by omega, by go_num, by rw [HNX.out] <;> go_num, by rw [HNX.out] <;> go_num, by rw [HNX.out] <;> go_num⟩
            case measure => simp [intOf]; omega
        · rw [if_neg h3] at hnx
          have h3' : (q.kind == 3) = false := by simpa using h3
          by_cases h4 : q.kind = 4
          · rw [if_pos h4] at hnx
            have HNX := Sp.hid hnx
            rw [h4] at e1
            clear hnx h4 h3 h3' h1 h1'
            go_wp2
            go_round
            case rel => exact ⟨k + 1, by omega, by go_num, by rw [HNX.out] <;> go_num, by rw [HNX.out] <;> go_num, by rw [HNX.out] <;> go_num⟩
            case measure => simp [intOf]; omega
          · rw [if_neg h4] at hnx
            have h4' : (q.kind == 4) = false := by simpa using h4
            have HNX := Sp.hid hnx
            clear hnx h4 h3 h1
            go_wp2
            go_round
            case rel => exact ⟨k + 1, by omega, by go_num, by rw [HNX.out] <;> go_num, by rw [HNX.out] <;> go_num, by rw [HNX.out] <;> go_num⟩
            case measure => simp [intOf]; omega
    · obtain rfl : k = xs.length := by omega
      rw [List.take_length]
      go_wp2
      go_ret2
      exact ⟨rfl, rfl⟩

theorem ref_17 {l : List Stp} (h : 4096 < (cntM l).1 ∨ 32 < (cntM l).2.2) : refCheckM l = 17 := by unfold refCheckM; rw [if_pos h]
theorem ref_11 {l : List Stp} (h : ¬ (4096 < (cntM l).1 ∨ 32 < (cntM l).2.2)) (h1 : l.any nameBad = true) : refCheckM l = 11 := by unfold refCheckM; rw [if_neg h, if_pos h1]
theorem ref_10 {l : List Stp} (h : ¬ (4096 < (cntM l).1 ∨ 32 < (cntM l).2.2)) (h1 : l.any nameBad = false) (h2 : l.any textBad = true) : refCheckM l = 10 := by unfold refCheckM; rw [if_neg h, h1, if_neg (by decide), if_pos h2]
theorem ref_18 {l : List Stp} (h : ¬ (4096 < (cntM l).1 ∨ 32 < (cntM l).2.2)) (h1 : l.any nameBad = false) (h2 : l.any textBad = false) (h3 : l.any textNone = true) : refCheckM l = 18 := by
  unfold refCheckM; rw [if_neg h, h1, if_neg (by decide), h2, if_neg (by decide), if_pos h3]
theorem ref_14 {l : List Stp} (h : ¬ (4096 < (cntM l).1 ∨ 32 < (cntM l).2.2)) (h1 : l.any nameBad = false) (h2 : l.any textBad = false) (h3 : l.any textNone = false) (h4 : adj orderBad l = true) : refCheckM l = 14 := by
  unfold refCheckM; rw [if_neg h, h1, if_neg (by decide), h2, if_neg (by decide), h3, if_neg (by decide), if_pos h4]
theorem ref_15 {l : List Stp} (h : ¬ (4096 < (cntM l).1 ∨ 32 < (cntM l).2.2)) (h1 : l.any nameBad = false) (h2 : l.any textBad = false) (h3 : l.any textNone = false) (h4 : adj orderBad l = false) (h5 : adj thereBad l = true) : refCheckM l = 15 := by
  unfold refCheckM; rw [if_neg h, h1, if_neg (by decide), h2, if_neg (by decide), h3, if_neg (by decide), h4, if_neg (by decide), if_pos h5]
theorem ref_0 {l : List Stp} (h : ¬ (4096 < (cntM l).1 ∨ 32 < (cntM l).2.2)) (h1 : l.any nameBad = false) (h2 : l.any textBad = false) (h3 : l.any textNone = false) (h4 : adj orderBad l = false) (h5 : adj thereBad l = false) : refCheckM l = 0 := by
  unfold refCheckM; rw [if_neg h, h1, if_neg (by decide), h2, if_neg (by decide), h3, if_neg (by decide), h4, if_neg (by decide), h5, if_neg (by decide)]
theorem adj_one (p : Stp → Stp → Bool) (l : List Stp) : adj p (l.take 1) = false := by cases l <;> simp [adj]
theorem any_bad {α : Type} {p : α → Bool} {l : List α} {k : Nat} (h : k < l.length) (hp : p l[k] = true) : l.any p = true := List.any_eq_true.2 ⟨_, List.getElem_mem h, hp⟩
theorem adj_bad {p : Stp → Stp → Bool} {l : List Stp} {k : Nat} (h : k + 1 < l.length) (hp : p (l[k]'(by omega)) l[k + 1] = true) : adj p l = true := by
  have h2 := adj_next p h
  rw [hp, Bool.or_true] at h2
  have h3 := adj_append p (l.take (k + 2)) (l.drop (k + 2))
  rw [List.take_append_drop, h2] at h3
  rw [h3]; rfl


set_option maxRecDepth 100000 in
set_option maxHeartbeats 16000000 in
theorem refCheck_any (F : Nat → Prop) (xs : List Stp) (hxl : xs.length ≤ 1048576) (hpos : 0 < xs.length) (a : Option Addr) (c : Nat) (w : World) (hs : Sl stpS F w a xs) (hF : ∀ k, F k → k < w.heap.size) (htx : ∀ s ∈ xs, s.text.size ≤ 1000) :
    Calls Tryz.prog 11 #[.slice a xs.length c] w fun e w' => e = .returned (.int .i64 (refCheckM xs)) ∧ Below w.heap.size w w' := by
  have HS := Sp.hid (fun W (hW : Below w.heap.size w W) => hs.below hF hW)
  have HC := Sp.hid (refCount_any F xs hxl a c w hs)
  have HTX := Sp.hid htx
  obtain ⟨⟨hn0, hn1⟩, -, ⟨hm0, hm1⟩⟩ := cnt_bounds xs xs.length (Nat.le_refl _)
  rw [List.take_length] at hn0 hn1 hm0 hm1
  clear hs hF htx
  obtain ⟨nn, hnn⟩ : ∃ nn, nn = (cntM xs).1 := ⟨_, rfl⟩
  obtain ⟨mm, hmm⟩ : ∃ mm, mm = (cntM xs).2.2 := ⟨_, rfl⟩
  rw [← hnn] at hn0 hn1 HC
  rw [← hmm] at hm0 hm1 HC
  have H17 := Sp.hid (show (4096 < nn ∨ 32 < mm) ↔ (4096 < (cntM xs).1 ∨ 32 < (cntM xs).2.2) by rw [hnn, hmm])
  clear hnn hmm
  go_enter Tryz.func11, Tryz.ntmps11
  go_wp2_with fail
  refine HC.out.mono ?_
  rintro e w0 ⟨rfl, rfl⟩
  by_cases hc1 : 4096 < nn
  · have hr := ref_17 (H17.out.1 (.inl hc1))
    have HR := Sp.hid hr
    clear hr
    go_wp2
    go_ret
    exact ⟨by rw [HR.out]; rfl, Below.refl _ _⟩
  by_cases hc2 : 32 < mm
  · have hr := ref_17 (H17.out.1 (.inr hc2))
    have HR := Sp.hid hr
    clear hr
    go_wp2
    go_ret
    exact ⟨by rw [HR.out]; rfl, Below.refl _ _⟩
  have HC17 := Sp.hid (fun h => (H17.out.2 h).elim hc1 hc2 : ¬ (4096 < (cntM xs).1 ∨ 32 < (cntM xs).2.2))
  clear H17 HC
  go_wp2
  go_loopw [5] (fun i wr => ∃ k : Nat, k ≤ xs.length ∧ i = .int .i64 k ∧ (xs.take k).any nameBad = false ∧ Below w0.heap.size w0 wr) (fun i _ => xs.length - (intOf i).toNat)
  case atStart => exact ⟨0, Nat.zero_le _, rfl, rfl, Below.refl _ _⟩
  case round =>
    obtain ⟨k, hk, rfl, hany, hb⟩ := hrel
    have HB := Sp.hid hb
    by_cases hlt : k < xs.length
    · obtain ⟨b, o, rfl, -, hn, -, e1, e2, -⟩ := stp_cells (HS.out wr hb) k hlt
      have hnx := any_next nameBad hlt
      have hbad : nameBad xs[k] = true → refCheckM xs = 11 := fun h => ref_11 HC17.out (any_bad hlt h)
      obtain ⟨q, hq⟩ : ∃ q, q = xs[k] := ⟨_, rfl⟩
      rw [← hq] at e1 e2 hnx hn hbad
      rw [hany, Bool.false_or] at hnx
      obtain ⟨v, hv⟩ : ∃ v, v = isName q.name := ⟨_, rfl⟩
      have HNM := Sp.hid (fun W => refName_any q.name W hn)
      rw [← hv] at HNM
      by_cases h2 : q.kind ≤ 2
      · cases v
        · have HR := Sp.hid (hbad (by unfold nameBad; rw [decide_eq_true h2, ← hv]; rfl))
          clear hb hany hnx hbad hq hv hn
          go_wp2_with fail
          refine (HNM.out _).mono ?_
          rintro e w2 ⟨rfl, rfl⟩
          go_wp2
          go_ret
          exact ⟨by rw [HR.out]; rfl, HB.out⟩
        · have HOK := Sp.hid (fun (_ : True) => (by rw [hnx]; unfold nameBad; rw [← hv]; simp : (xs.take (k + 1)).any nameBad = false))
          clear hb hany hnx hbad hq hv hn
          go_wp2_with fail
          refine (HNM.out _).mono ?_
          rintro e w2 ⟨rfl, rfl⟩
          go_wp2
          go_roundw
          case rel => exact ⟨k + 1, by omega, by go_num, HOK.out trivial, HB.out⟩
          case measure => simp [intOf]; omega
      · have HOK := Sp.hid (fun (_ : True) => (by rw [hnx]; unfold nameBad; rw [decide_eq_false h2]; rfl : (xs.take (k + 1)).any nameBad = false))
        clear hb hany hnx hbad hq hv hn HNM
        go_wp2
        go_roundw
        case rel => exact ⟨k + 1, by omega, by go_num, HOK.out trivial, HB.out⟩
        case measure => simp [intOf]; omega
    · obtain rfl : k = xs.length := by omega
      rw [List.take_length] at hany
      have H11 := Sp.hid hany
      obtain ⟨wa, rfl⟩ : ∃ wa, wa = wr := ⟨_, rfl⟩
      clear hb hany
      go_wp2
      go_loopw [6] (fun i wr => ∃ k : Nat, k ≤ xs.length ∧ i = .int .i64 k ∧ (xs.take k).any textBad = false ∧ Below w0.heap.size w0 wr) (fun i _ => xs.length - (intOf i).toNat)
      case atStart => exact ⟨0, Nat.zero_le _, rfl, rfl, HB.out⟩
      case round =>
        clear HB
        obtain ⟨k, hk, rfl, hany, hb⟩ := hrel
        have HB := Sp.hid hb
        by_cases hlt : k < xs.length
        · obtain ⟨b, o, rfl, -, -, -, -, -, e3⟩ := stp_cells (HS.out wr hb) k hlt
          have hnx := any_next textBad hlt
          have hbad : textBad xs[k] = true → refCheckM xs = 10 := fun h => ref_10 HC17.out H11.out (any_bad hlt h)
          have htl := HTX.out _ (List.getElem_mem hlt)
          obtain ⟨q, hq⟩ : ∃ q, q = xs[k] := ⟨_, rfl⟩
          rw [← hq] at e3 hnx htl hbad
          rw [hany, Bool.false_or] at hnx
          obtain ⟨v, hv⟩ : ∃ v, v = textB q.text := ⟨_, rfl⟩
          have HNM := Sp.hid (fun W => refChars_any q.text W htl)
          rw [← hv] at HNM
          have hsb := hb.size
          cases v
          · have HR := Sp.hid (hbad (by unfold textBad; rw [← hv]; rfl))
            clear hb hany hnx hbad hq hv htl
            go_wp2_with fail
            refine (HNM.out _).mono ?_
            rintro e w2 ⟨rfl, hb2⟩
            have HB2 := Sp.hid (HB.out.trans (hb2.mono hsb))
            clear hb2
            go_wp2
            go_ret
            exact ⟨by rw [HR.out]; rfl, HB2.out⟩
          · have HOK := Sp.hid (fun (_ : True) => (by rw [hnx]; unfold textBad; rw [← hv]; rfl : (xs.take (k + 1)).any textBad = false))
            clear hany hnx hbad hq hv htl
            go_wp2_with fail
            refine (HNM.out _).mono ?_
            rintro e w2 ⟨rfl, hb2⟩
            clear HB
            have HB := Sp.hid (hb.trans (hb2.mono hsb))
            clear hb2 hb
            go_wp2
            go_roundw
            case rel => exact ⟨k + 1, by omega, by go_num, HOK.out trivial, HB.out⟩
            case measure => simp [intOf]; omega
        · obtain rfl : k = xs.length := by omega
          rw [List.take_length] at hany
          have H10 := Sp.hid hany
          obtain ⟨wb, rfl⟩ : ∃ wb, wb = wr := ⟨_, rfl⟩
          clear hb hany
          go_wp2
          go_loopw [7] (fun i wr => ∃ k : Nat, k ≤ xs.length ∧ i = .int .i64 k ∧ (xs.take k).any textNone = false ∧ wr = wb) (fun i _ => xs.length - (intOf i).toNat)
          case atStart => exact ⟨0, Nat.zero_le _, rfl, rfl, rfl⟩
          case round =>
            obtain ⟨k, hk, rfl, hany, hwr⟩ := hrel
            subst hwr
            by_cases hlt : k < xs.length
            · obtain ⟨b, o, rfl, -, -, -, e1, -, e3⟩ := stp_cells (HS.out wr HB.out) k hlt
              have hnx := any_next textNone hlt
              have hbad : textNone xs[k] = true → refCheckM xs = 18 := fun h => ref_18 HC17.out H11.out H10.out (any_bad hlt h)
              obtain ⟨q, hq⟩ : ∃ q, q = xs[k] := ⟨_, rfl⟩
              rw [← hq] at e1 e3 hnx hbad
              rw [hany, Bool.false_or] at hnx
              by_cases h3 : q.kind = 3
              · rw [h3] at e1
                cases ht : q.text.toList.isEmpty
                · have ht' : (q.text.toList == []) = false := by rw [beq_eq_false_iff_ne]; intro e; rw [e] at ht; cases ht
                  have HOK := Sp.hid (fun (_ : True) => (by rw [hnx]; unfold textNone; rw [ht]; simp : (xs.take (k + 1)).any textNone = false))
                  clear hany hnx hbad hq ht h3
                  go_wp2
                  go_roundw
                  case rel => exact ⟨k + 1, by omega, by go_num, HOK.out trivial, by trivial⟩
                  case measure => simp [intOf]; omega
                · have ht' : (q.text.toList == []) = true := by rw [beq_iff_eq]; exact List.isEmpty_iff.1 ht
                  have HR := Sp.hid (hbad (by unfold textNone; rw [ht, h3]; rfl))
                  clear hany hnx hbad hq ht h3
                  go_wp2
                  go_ret
                  exact ⟨by rw [HR.out]; rfl, HB.out⟩
              · have h3' : (q.kind == 3) = false := by simpa using h3
                have HOK := Sp.hid (fun (_ : True) => (by rw [hnx]; unfold textNone; rw [decide_eq_false h3]; rfl : (xs.take (k + 1)).any textNone = false))
                clear hany hnx hbad hq h3
                go_wp2
                go_roundw
                case rel => exact ⟨k + 1, by omega, by go_num, HOK.out trivial, by trivial⟩
                case measure => simp [intOf]; omega
            · obtain rfl : k = xs.length := by omega
              rw [List.take_length] at hany
              have H18 := Sp.hid hany
              clear hany
              obtain ⟨wb, rfl⟩ : ∃ wb, wb = wr := ⟨_, rfl⟩
              go_wp2
              go_loopw [8] (fun i wr => ∃ k : Nat, 1 ≤ k ∧ k ≤ xs.length ∧ i = .int .i64 k ∧ adj orderBad (xs.take k) = false ∧ Below w0.heap.size w0 wr) (fun i _ => xs.length - (intOf i).toNat)
              case atStart => exact ⟨1, Nat.le_refl _, hpos, rfl, adj_one _ _, HB.out⟩
              case round =>
                clear HB
                obtain ⟨k, hk1, hk, rfl, hany, hb⟩ := hrel
                have HB := Sp.hid hb
                by_cases hlt : k < xs.length
                · obtain ⟨j, rfl⟩ : ∃ j, k = j + 1 := ⟨k - 1, by omega⟩
                  obtain ⟨b, o, rfl, -, -, -, a1, a2, -⟩ := stp_cells (HS.out wr hb) j (by omega)
                  obtain ⟨b', o', hbe, -, -, -, b1, b2, -⟩ := stp_cells (HS.out wr hb) (j + 1) hlt
                  cases hbe
                  have hnx := adj_next orderBad hlt
                  have hbad : orderBad (xs[j]'(by omega)) xs[j + 1] = true → refCheckM xs = 14 := fun h => ref_14 HC17.out H11.out H10.out H18.out (adj_bad hlt h)
                  obtain ⟨x, hx⟩ : ∃ x, x = xs[j]'(by omega) := ⟨_, rfl⟩
                  obtain ⟨y, hy⟩ : ∃ y, y = xs[j + 1] := ⟨_, rfl⟩
                  rw [← hx] at a1 a2
                  rw [← hy] at b1 b2
                  rw [← hx, ← hy] at hnx hbad
                  rw [hany, Bool.false_or] at hnx
                  have hbl := World.block_lt_of_cell? _ _ a1
                  dsimp only at hbl
                  have hsub1 : (((j + 1 : Nat) : Int) - 1) = ((j : Nat) : Int) := by omega
                  have hsub2 : (((j : Nat) : Int) + 1 - 1) = ((j : Nat) : Int) := by omega
                  have hj0 : ((j : Nat) : Int) < (xs.length : Int) := by omega
                  have hj1 : ((j : Nat) : Int) + 1 < (xs.length : Int) := by omega
                  have hsb := hb.size
                  have HC := Sp.hid (fun W (hG : Below wr.heap.size wr W) => And.intro (And.intro ((hG.cell (p := ⟨b, o + j * 3, none⟩) hbl).trans a1) ((hG.cell (p := ⟨b, o + j * 3 + 1, none⟩) hbl).trans a2)) (And.intro ((hG.cell (p := ⟨b, o + (j + 1) * 3, none⟩) hbl).trans b1) ((hG.cell (p := ⟨b, o + (j + 1) * 3 + 1, none⟩) hbl).trans b2)))
                  by_cases hy2 : y.kind = 2
                  · by_cases hx2 : x.kind = 2
                    · rw [hy2, hx2] at HC
                      by_cases hle : x.name.toList < y.name.toList
                      · have hbs : Op.bytesLess y.name.toList x.name.toList = false := by rw [bytesLess_eq]; simpa using List.le_of_lt hle
                        have hnl : (y.name.toList == x.name.toList) = false := by rw [beq_eq_false_iff_ne]; intro e; rw [e] at hle; exact absurd hle (List.lt_irrefl _)
                        have HOK := Sp.hid (show adj orderBad (xs.take (j + 2)) = false by rw [hnx]; unfold orderBad; rw [decide_eq_true hle, Bool.not_true, Bool.and_false])
                        clear hb hany hnx hbad hx hy a1 a2 b1 b2 hy2 hx2 hle
                        go_wp2
                        refine Sp.wp_region_read (by kernel_rfl) [some 81, some 82, some 83, some 84, some 85, some 86, some 87, some 88, some 89, some 90, some 91, some 92, some 93, some 94, some 95, some 96, some 97, some 98, some 99, some 100, some 101, some 102, some 103, some 104, some 105, some 106, some 107, some 108, some 109] [?r1v0, ?r1v1, ?r1v2, ?r1v3, ?r1v4, ?r1v5, ?r1v6, ?r1v7, ?r1v8, ?r1v9, ?r1v10, ?r1v11, ?r1v12, ?r1v13, ?r1v14, ?r1v15, ?r1v16, ?r1v17, ?r1v18, ?r1v19, ?r1v20, ?r1v21, ?r1v22, ?r1v23, ?r1v24, ?r1v25, ?r1v26, ?r1v27, ?r1v28] rfl (by kernel_rfl) (by kernel_rfl) (by kernel_rfl) ?r1fr ?r1hfr ?r1step ?r1fin
                        case r1hfr => intro u; simp only [Sp.fillFrom, Sp.idx_cons, Sp.idx_nil, Option.some.injEq, reduceCtorEq, reduceIte, Nat.reduceEqDiff, Nat.reduceAdd, Option.map_some, Option.map_none]; exact rfl
                        case r1step =>
                          refine ⟨?_, ?_, ?_, ?_, ?_, ?_, ?_, ?_, ?_, ?_, ?_, ?_, ?_, ?_, ?_, ?_, ?_, ?_, ?_, ?_, ?_, ?_, ?_, ?_, ?_, ?_, ?_, ?_, ?_, trivial⟩
                          all_goals
                            intro u w1 hG hD; simp only [Sp.DepsHold, List.map_cons, List.map_nil, Sp.isV, Sp.any_text, Sp.any_gc, Bool.false_eq_true, false_implies, Sp.factAt, Region.binds, List.getElem?_cons_zero, List.getElem?_cons_succ, List.getElem?_nil, Option.getD_some, Option.getD_none, and_true, true_and, true_implies, implies_true] at hD; dsimp only
                            have HG1 := Sp.hid hG; obtain ⟨⟨c0, c1⟩, d0, d1⟩ := HC.out w1 hG
                            clear hG
                            repeat (obtain ⟨hE, hD⟩ := hD; (try rw [hE]); clear hE)
                            try rw [hD]
                            try clear hD
                            go_wp2_with (fail)
                            (with_reducible apply Sp.rd_close); (first | exact HB2.out | exact Below.refl _ _); exact rfl; refine Sp.isV_at ?_; exact rfl
                        case r1fin => 
                          intro w' hG; simp only [List.getElem?_cons_zero, List.getElem?_cons_succ, Option.getD_some]
                          have HG2 := Sp.hid (HB.out.trans (hG.mono hsb))
                          clear hG
                          go_wp2
                          go_roundw
                          case rel => exact ⟨j + 1 + 1, by omega, by omega, by go_num, HOK.out, HG2.out⟩
                          case measure => simp [intOf]; omega
                      · have hle' : y.name.toList ≤ x.name.toList := List.not_lt.1 hle
                        have HR := Sp.hid (hbad (by unfold orderBad; rw [decide_eq_false hle, hy2, hx2]; rfl))
                        clear hb hany hnx hbad hx hy a1 a2 b1 b2 hy2 hx2
                        by_cases hlt2 : y.name.toList < x.name.toList
                        · have hbs : Op.bytesLess y.name.toList x.name.toList = true := by rw [bytesLess_eq]; simpa using hlt2
                          have hnl : (y.name.toList == x.name.toList) = false := by rw [beq_eq_false_iff_ne]; intro e; rw [e] at hlt2; exact absurd hlt2 (List.lt_irrefl _)
                          clear hle hle' hlt2
                          go_wp2
                          refine Sp.wp_region_read (by kernel_rfl) [some 81, some 82, some 83, some 84, some 85, some 86, some 87, some 88, some 89, some 90, some 91, some 92, some 93, some 94, some 95, some 96, some 97, some 98, some 99, some 100, some 101, some 102, some 103, some 104, some 105, some 106, some 107, some 108, some 109] [?r2v0, ?r2v1, ?r2v2, ?r2v3, ?r2v4, ?r2v5, ?r2v6, ?r2v7, ?r2v8, ?r2v9, ?r2v10, ?r2v11, ?r2v12, ?r2v13, ?r2v14, ?r2v15, ?r2v16, ?r2v17, ?r2v18, ?r2v19, ?r2v20, ?r2v21, ?r2v22, ?r2v23, ?r2v24, ?r2v25, ?r2v26, ?r2v27, ?r2v28] rfl (by kernel_rfl) (by kernel_rfl) (by kernel_rfl) ?r2fr ?r2hfr ?r2step ?r2fin
                          case r2hfr => intro u; simp only [Sp.fillFrom, Sp.idx_cons, Sp.idx_nil, Option.some.injEq, reduceCtorEq, reduceIte, Nat.reduceEqDiff, Nat.reduceAdd, Option.map_some, Option.map_none]; exact rfl
                          case r2step =>
                            refine ⟨?_, ?_, ?_, ?_, ?_, ?_, ?_, ?_, ?_, ?_, ?_, ?_, ?_, ?_, ?_, ?_, ?_, ?_, ?_, ?_, ?_, ?_, ?_, ?_, ?_, ?_, ?_, ?_, ?_, trivial⟩
                            all_goals
                              intro u w1 hG hD; simp only [Sp.DepsHold, List.map_cons, List.map_nil, Sp.isV, Sp.any_text, Sp.any_gc, Bool.false_eq_true, false_implies, Sp.factAt, Region.binds, List.getElem?_cons_zero, List.getElem?_cons_succ, List.getElem?_nil, Option.getD_some, Option.getD_none, and_true, true_and, true_implies, implies_true] at hD; dsimp only
                              have HG1 := Sp.hid hG; obtain ⟨⟨c0, c1⟩, d0, d1⟩ := HC.out w1 hG
                              clear hG
                              repeat (obtain ⟨hE, hD⟩ := hD; (try rw [hE]); clear hE)
                              try rw [hD]
                              try clear hD
                              go_wp2_with (fail)
                              (with_reducible apply Sp.rd_close); (first | exact HB2.out | exact Below.refl _ _); exact rfl; refine Sp.isV_at ?_; exact rfl
                          case r2fin => 
                            intro w' hG; simp only [List.getElem?_cons_zero, List.getElem?_cons_succ, Option.getD_some]
                            have HG2 := Sp.hid (HB.out.trans (hG.mono hsb))
                            clear hG
                            go_wp2
                            go_ret
                            exact ⟨by rw [HR.out]; rfl, HG2.out⟩
                        · have hbs : Op.bytesLess y.name.toList x.name.toList = false := by rw [bytesLess_eq]; simpa using List.not_lt.1 hlt2
                          have hnl : (y.name.toList == x.name.toList) = true := by rw [beq_iff_eq]; exact List.le_antisymm hle' (List.not_lt.1 hlt2)
                          clear hle hle' hlt2
                          go_wp2
                          refine Sp.wp_region_read (by kernel_rfl) [some 81, some 82, some 83, some 84, some 85, some 86, some 87, some 88, some 89, some 90, some 91, some 92, some 93, some 94, some 95, some 96, some 97, some 98, some 99, some 100, some 101, some 102, some 103, some 104, some 105, some 106, some 107, some 108, some 109] [?r3v0, ?r3v1, ?r3v2, ?r3v3, ?r3v4, ?r3v5, ?r3v6, ?r3v7, ?r3v8, ?r3v9, ?r3v10, ?r3v11, ?r3v12, ?r3v13, ?r3v14, ?r3v15, ?r3v16, ?r3v17, ?r3v18, ?r3v19, ?r3v20, ?r3v21, ?r3v22, ?r3v23, ?r3v24, ?r3v25, ?r3v26, ?r3v27, ?r3v28] rfl (by kernel_rfl) (by kernel_rfl) (by kernel_rfl) ?r3fr ?r3hfr ?r3step ?r3fin
                          case r3hfr => intro u; simp only [Sp.fillFrom, Sp.idx_cons, Sp.idx_nil, Option.some.injEq, reduceCtorEq, reduceIte, Nat.reduceEqDiff, Nat.reduceAdd, Option.map_some, Option.map_none]; exact rfl
                          case r3step =>
                            refine ⟨?_, ?_, ?_, ?_, ?_, ?_, ?_, ?_, ?_, ?_, ?_, ?_, ?_, ?_, ?_, ?_, ?_, ?_, ?_, ?_, ?_, ?_, ?_, ?_, ?_, ?_, ?_, ?_, ?_, trivial⟩
                            all_goals
                              intro u w1 hG hD; simp only [Sp.DepsHold, List.map_cons, List.map_nil, Sp.isV, Sp.any_text, Sp.any_gc, Bool.false_eq_true, false_implies, Sp.factAt, Region.binds, List.getElem?_cons_zero, List.getElem?_cons_succ, List.getElem?_nil, Option.getD_some, Option.getD_none, and_true, true_and, true_implies, implies_true] at hD; dsimp only
                              have HG1 := Sp.hid hG; obtain ⟨⟨c0, c1⟩, d0, d1⟩ := HC.out w1 hG
                              clear hG
                              repeat (obtain ⟨hE, hD⟩ := hD; (try rw [hE]); clear hE)
                              try rw [hD]
                              try clear hD
                              go_wp2_with (fail)
                              (with_reducible apply Sp.rd_close); (first | exact HB2.out | exact Below.refl _ _); exact rfl; refine Sp.isV_at ?_; exact rfl
                          case r3fin => 
                            intro w' hG; simp only [List.getElem?_cons_zero, List.getElem?_cons_succ, Option.getD_some]
                            have HG2 := Sp.hid (HB.out.trans (hG.mono hsb))
                            clear hG
                            go_wp2
                            go_ret
                            exact ⟨by rw [HR.out]; rfl, HG2.out⟩
                    · have hx2' : (x.kind == 2) = false := by simpa using hx2
                      have HOK := Sp.hid (show adj orderBad (xs.take (j + 2)) = false by rw [hnx]; unfold orderBad; rw [decide_eq_false hx2, Bool.and_false, Bool.false_and])
                      rw [hy2] at HC
                      clear hb hany hnx hbad hx hy a1 a2 b1 b2 hy2 hx2
                      go_wp2
                      refine Sp.wp_region_read (by kernel_rfl) [some 81, some 82, some 83, some 84, some 85, some 86, some 87, some 88, some 89, some 90, some 91, some 92, some 93, some 94, some 95, some 96, some 97, some 98, some 99, some 100, some 101, some 102, some 103, some 104, some 105, some 106, some 107, some 108, some 109] [?r4v0, ?r4v1, ?r4v2, ?r4v3, ?r4v4, ?r4v5, ?r4v6, ?r4v7, ?r4v8, ?r4v9, ?r4v10, ?r4v11, ?r4v12, ?r4v13, ?r4v14, ?r4v15, ?r4v16, ?r4v17, ?r4v18, ?r4v19, ?r4v20, ?r4v21, ?r4v22, ?r4v23, ?r4v24, ?r4v25, ?r4v26, ?r4v27, ?r4v28] rfl (by kernel_rfl) (by kernel_rfl) (by kernel_rfl) ?r4fr ?r4hfr ?r4step ?r4fin
                      case r4hfr => intro u; simp only [Sp.fillFrom, Sp.idx_cons, Sp.idx_nil, Option.some.injEq, reduceCtorEq, reduceIte, Nat.reduceEqDiff, Nat.reduceAdd, Option.map_some, Option.map_none]; exact rfl
                      case r4step =>
                        refine ⟨?_, ?_, ?_, ?_, ?_, ?_, ?_, ?_, ?_, ?_, ?_, ?_, ?_, ?_, ?_, ?_, ?_, ?_, ?_, ?_, ?_, ?_, ?_, ?_, ?_, ?_, ?_, ?_, ?_, trivial⟩
                        all_goals
                          intro u w1 hG hD; simp only [Sp.DepsHold, List.map_cons, List.map_nil, Sp.isV, Sp.any_text, Sp.any_gc, Bool.false_eq_true, false_implies, Sp.factAt, Region.binds, List.getElem?_cons_zero, List.getElem?_cons_succ, List.getElem?_nil, Option.getD_some, Option.getD_none, and_true, true_and, true_implies, implies_true] at hD; dsimp only
                          have HG1 := Sp.hid hG; obtain ⟨⟨c0, c1⟩, d0, d1⟩ := HC.out w1 hG
                          clear hG
                          repeat (obtain ⟨hE, hD⟩ := hD; (try rw [hE]); clear hE)
                          try rw [hD]
                          try clear hD
                          go_wp2_with (fail)
                          (with_reducible apply Sp.rd_close); (first | exact HB2.out | exact Below.refl _ _); exact rfl; refine Sp.isV_at ?_; exact rfl
                      case r4fin => 
                        intro w' hG; simp only [List.getElem?_cons_zero, List.getElem?_cons_succ, Option.getD_some]
                        have HG2 := Sp.hid (HB.out.trans (hG.mono hsb))
                        clear hG
                        go_wp2
                        go_roundw
                        case rel => exact ⟨j + 1 + 1, by omega, by omega, by go_num, HOK.out, HG2.out⟩
                        case measure => simp [intOf]; omega
                  · have hy2' : (y.kind == 2) = false := by simpa using hy2
                    have HOK := Sp.hid (show adj orderBad (xs.take (j + 2)) = false by rw [hnx]; unfold orderBad; rw [decide_eq_false hy2, Bool.false_and, Bool.false_and])
                    clear hb hany hnx hbad hx hy a1 a2 b1 b2 hy2
                    go_wp2
                    refine Sp.wp_region_read (by kernel_rfl) [some 81, some 82, some 83, some 84, some 85, some 86, some 87, some 88, some 89, some 90, some 91, some 92, some 93, some 94, some 95, some 96, some 97, some 98, some 99, some 100, some 101, some 102, some 103, some 104, some 105, some 106, some 107, some 108, some 109] [?r5v0, ?r5v1, ?r5v2, ?r5v3, ?r5v4, ?r5v5, ?r5v6, ?r5v7, ?r5v8, ?r5v9, ?r5v10, ?r5v11, ?r5v12, ?r5v13, ?r5v14, ?r5v15, ?r5v16, ?r5v17, ?r5v18, ?r5v19, ?r5v20, ?r5v21, ?r5v22, ?r5v23, ?r5v24, ?r5v25, ?r5v26, ?r5v27, ?r5v28] rfl (by kernel_rfl) (by kernel_rfl) (by kernel_rfl) ?r5fr ?r5hfr ?r5step ?r5fin
                    case r5hfr => intro u; simp only [Sp.fillFrom, Sp.idx_cons, Sp.idx_nil, Option.some.injEq, reduceCtorEq, reduceIte, Nat.reduceEqDiff, Nat.reduceAdd, Option.map_some, Option.map_none]; exact rfl
                    case r5step =>
                      refine ⟨?_, ?_, ?_, ?_, ?_, ?_, ?_, ?_, ?_, ?_, ?_, ?_, ?_, ?_, ?_, ?_, ?_, ?_, ?_, ?_, ?_, ?_, ?_, ?_, ?_, ?_, ?_, ?_, ?_, trivial⟩
                      all_goals
                        intro u w1 hG hD; simp only [Sp.DepsHold, List.map_cons, List.map_nil, Sp.isV, Sp.any_text, Sp.any_gc, Bool.false_eq_true, false_implies, Sp.factAt, Region.binds, List.getElem?_cons_zero, List.getElem?_cons_succ, List.getElem?_nil, Option.getD_some, Option.getD_none, and_true, true_and, true_implies, implies_true] at hD; dsimp only
                        have HG1 := Sp.hid hG; obtain ⟨⟨c0, c1⟩, d0, d1⟩ := HC.out w1 hG
                        clear hG
                        repeat (obtain ⟨hE, hD⟩ := hD; (try rw [hE]); clear hE)
                        try rw [hD]
                        try clear hD
                        go_wp2_with (fail)
                        (with_reducible apply Sp.rd_close); (first | exact HB2.out | exact Below.refl _ _); exact rfl; refine Sp.isV_at ?_; exact rfl
                    case r5fin => 
                      intro w' hG; simp only [List.getElem?_cons_zero, List.getElem?_cons_succ, Option.getD_some]
                      have HG2 := Sp.hid (HB.out.trans (hG.mono hsb))
                      clear hG
                      go_wp2
                      go_roundw
                      case rel => exact ⟨j + 1 + 1, by omega, by omega, by go_num, HOK.out, HG2.out⟩
                      case measure => simp [intOf]; omega
                · obtain rfl : k = xs.length := by omega
                  rw [List.take_length] at hany
                  have H14 := Sp.hid hany
                  obtain ⟨wc, rfl⟩ : ∃ wc, wc = wr := ⟨_, rfl⟩
                  clear hb hany
                  go_wp2
                  go_loopw [9] (fun i wr => ∃ k : Nat, 1 ≤ k ∧ k ≤ xs.length ∧ i = .int .i64 k ∧ adj thereBad (xs.take k) = false ∧ wr = wc) (fun i _ => xs.length - (intOf i).toNat)
                  case atStart => exact ⟨1, Nat.le_refl _, hpos, rfl, adj_one _ _, rfl⟩
                  case round =>
                    obtain ⟨k, hk1, hk, rfl, hany, hwr⟩ := hrel
                    subst hwr
                    by_cases hlt : k < xs.length
                    · obtain ⟨j, rfl⟩ : ∃ j, k = j + 1 := ⟨k - 1, by omega⟩
                      obtain ⟨b, o, rfl, -, -, -, a1, -, -⟩ := stp_cells (HS.out wr HB.out) j (by omega)
                      obtain ⟨b', o', hbe, -, -, -, b1, -, -⟩ := stp_cells (HS.out wr HB.out) (j + 1) hlt
                      cases hbe
                      have hnx := adj_next thereBad hlt
                      have hbad : thereBad (xs[j]'(by omega)) xs[j + 1] = true → refCheckM xs = 15 := fun h => ref_15 HC17.out H11.out H10.out H18.out H14.out (adj_bad hlt h)
                      obtain ⟨x, hx⟩ : ∃ x, x = xs[j]'(by omega) := ⟨_, rfl⟩
                      obtain ⟨y, hy⟩ : ∃ y, y = xs[j + 1] := ⟨_, rfl⟩
                      rw [← hx] at a1
                      rw [← hy] at b1
                      rw [← hx, ← hy] at hnx hbad
                      rw [hany, Bool.false_or] at hnx
                      have hsub1 : (((j + 1 : Nat) : Int) - 1) = ((j : Nat) : Int) := by omega
                      have hsub2 : (((j : Nat) : Int) + 1 - 1) = ((j : Nat) : Int) := by omega
                      have hj0 : ((j : Nat) : Int) < (xs.length : Int) := by omega
                      have hj1 : ((j : Nat) : Int) + 1 < (xs.length : Int) := by omega
                      by_cases hy2 : y.kind = 3
                      · rw [hy2] at b1
                        by_cases hx2 : x.kind = 3
                        · rw [hx2] at a1
                          have HR := Sp.hid (hbad (by unfold thereBad; rw [hy2, hx2]; rfl))
                          clear hany hnx hbad hx hy hy2 hx2
                          go_wp2
                          go_ret
                          exact ⟨by rw [HR.out]; rfl, HB.out⟩
                        · have hx2' : (x.kind == 3) = false := by simpa using hx2
                          have HOK := Sp.hid (show adj thereBad (xs.take (j + 2)) = false by rw [hnx]; unfold thereBad; rw [decide_eq_false hx2, Bool.and_false])
                          clear hany hnx hbad hx hy hy2 hx2
                          go_wp2
                          go_roundw
                          case rel => exact ⟨j + 1 + 1, by omega, by omega, by go_num, HOK.out, by trivial⟩
                          case measure => simp [intOf]; omega
                      · have hy2' : (y.kind == 3) = false := by simpa using hy2
                        have HOK := Sp.hid (show adj thereBad (xs.take (j + 2)) = false by rw [hnx]; unfold thereBad; rw [decide_eq_false hy2, Bool.false_and])
                        clear hany hnx hbad hx hy hy2
                        go_wp2
                        go_roundw
                        case rel => exact ⟨j + 1 + 1, by omega, by omega, by go_num, HOK.out, by trivial⟩
                        case measure => simp [intOf]; omega
                    · obtain rfl : k = xs.length := by omega
                      rw [List.take_length] at hany
                      have HR := Sp.hid (ref_0 HC17.out H11.out H10.out H18.out H14.out hany)
                      clear hany
                      go_wp2
                      go_ret
                      exact ⟨by rw [HR.out]; rfl, HB.out⟩

end Go.Proofs.YtoknglpfchjbjaaGreatDoor
