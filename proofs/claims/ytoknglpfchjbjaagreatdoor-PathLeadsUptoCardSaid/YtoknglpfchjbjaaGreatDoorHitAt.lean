/- What a path leads to lies in the tree; the nodes within it are the tree's. Conditions: none. -/
import Derived.Test.YtoknglpfchjbjaaGreatDoorAt
import Derived.Test.YtoknglpfchjbjaaGreatDoorTexts
namespace Go.Proofs.YtoknglpfchjbjaaGreatDoor
open Go.RowKit Go.Sp Go.Maps

theorem thin_up : ∀ {m : Nat} {T : TT}, Thin m T → Thin (m + 1) T
  | 0, _, h => h.elim
  | _ + 1, _, h => ⟨h.1, fun k hk => thin_up (h.2 k hk)⟩
theorem thin_nodes : ∀ {m : Nat} {T : TT}, Thin m T → nodesM (m + 1) T = nodesM m T
  | 0, _, h => h.elim
  | m + 1, T, h => by
    show T :: T.kids.flatMap (nodesM (m + 1)) = T :: T.kids.flatMap (nodesM m)
    congr 1
    have : ∀ l : List TT, (∀ k ∈ l, Thin m k) → l.flatMap (nodesM (m + 1)) = l.flatMap (nodesM m) := by
      intro l
      induction l with
      | nil => intro _; rfl
      | cons x l ih =>
        intro hl
        rw [List.flatMap_cons, List.flatMap_cons, thin_nodes (hl x (by simp)), ih (fun k hk => hl k (by simp [hk]))]
    exact this _ h.2
/-- A node at a path, and the nodes within it. -/
theorem at_nodes : ∀ (p : List Int) {n : Nat} {T T' : TT}, Thin n T → atM p T = some T' → Thin n T' ∧ (∀ t ∈ nodesM n T', t ∈ nodesM n T) ∧ (nodesM n T').length ≤ (nodesM n T).length
  | [], n, T, T', h, ha => by
    cases ha
    exact ⟨h, fun _ ht => ht, Nat.le_refl _⟩
  | i :: p, 0, T, T', h, _ => h.elim
  | i :: p, n + 1, T, T', h, ha => by
    simp only [atM] at ha
    split at ha
    · cases ha
    · cases hk : T.kids[i.toNat]? with
      | none => rw [hk] at ha; cases ha
      | some kid =>
        rw [hk, Option.bind_some] at ha
        have hm : kid ∈ T.kids := List.mem_of_getElem? hk
        have ht := h.2 kid hm
        obtain ⟨h1, h2, h3⟩ := at_nodes p (n := n + 1) (thin_up ht) ha
        rw [thin_nodes ht] at h2 h3
        refine ⟨h1, fun t htm => ?_, Nat.le_trans h3 (nodes_kids (m := n) hm).1⟩
        show t ∈ T :: T.kids.flatMap (nodesM n)
        exact List.mem_cons_of_mem _ (List.mem_flatMap.2 ⟨kid, hm, h2 t htm⟩)
/-- A child's path. -/
theorem kidsM_at {s : StepM} {x y : NX} (h : y ∈ kidsM s x) : ∃ i : Nat, x.2.kids[i]? = some y.2 ∧ y.1 = x.1 ++ [(i : Int)] := by
  have h0 := (kidsM_sub0 s x).subset h
  unfold kids0 at h0
  obtain ⟨i, _, hi⟩ := List.mem_filterMap.1 h0
  cases hk : x.2.kids[i]? with
  | none => rw [hk] at hi; cases hi
  | some t =>
    rw [hk, Option.bind_some] at hi
    split at hi
    · cases hi; exact ⟨i, hk, rfl⟩
    · cases hi
/-- What steps lead to from a node lies at its path. -/
theorem lead_at : ∀ (steps : List StepM) {T T0 : TT} {ats : List Int}, atM ats T0 = some T → ∀ h ∈ leadM steps (ats, T), ∃ T', atM h.1 T0 = some T' ∧ h.1.length ≤ ats.length + steps.length
  | [], T, T0, ats, ha, h, hh => by
    simp only [leadM, List.mem_singleton] at hh
    subst hh
    exact ⟨T, ha, by simp⟩
  | s :: rest, T, T0, ats, ha, h, hh => by
    unfold leadM at hh
    split at hh
    · obtain ⟨a, _, rfl⟩ := List.mem_map.1 hh
      exact ⟨T, ha, by simp⟩
    · obtain ⟨y, hy, hyh⟩ := List.mem_flatMap.1 hh
      obtain ⟨i, hk, hp⟩ := kidsM_at hy
      obtain ⟨y1, y2⟩ := y
      dsimp only at hk hp hyh
      subst hp
      have ha2 : atM (ats ++ [(i : Int)]) T0 = some y2 := by
        rw [atM_snoc, ha, Option.bind_some, if_neg (by omega)]
        exact hk
      obtain ⟨T', h1, h2⟩ := lead_at rest ha2 h hyh
      refine ⟨T', h1, ?_⟩
      simp only [List.length_append, List.length_cons, List.length_nil] at h2 ⊢
      omega

/-- The value of a hit. -/
def valOf (n : Nat) (T : TT) (nm : ByteArray) : ByteArray := if nm.toList.isEmpty then ⟨(textsM n T).toArray⟩ else (attrV T.attrs nm).getD ⟨#[]⟩
def valuesM (n : Nat) (T : TT) (hits : List (List Int × ByteArray)) : List ByteArray := hits.map fun h => valOf n ((atM h.1 T).getD T) h.2

end Go.Proofs.YtoknglpfchjbjaaGreatDoor
