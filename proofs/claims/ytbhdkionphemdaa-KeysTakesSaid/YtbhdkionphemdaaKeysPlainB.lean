/- Plain laws of the dictionary's model: nothing is taken twice; what is left; views one behind the other. Conditions: none. -/
import Derived.Test.YtbhdkionphemdaaKeysLeft
namespace Go.Proofs.Ytbhdkionphemdaa

theorem takeM_mem {src : List Lk} {rem : List Nat} {k : Lk} {p : Nat} (h : takeM src rem k = some p) : p ∈ rem ∧ src[p]? = some k := by
  refine ⟨List.mem_of_find?_eq_some h, ?_⟩
  have := List.find?_some h
  simpa using this
theorem takeM_none {src : List Lk} {rem : List Nat} {k : Lk} (h : takeM src rem k = none) : restM src rem k = rem ∧ ∀ p ∈ rem, src[p]? ≠ some k := by
  have h' : ∀ p ∈ rem, ¬ (decide (src[p]? = some k) = true) := fun p hp => List.find?_eq_none.1 h p hp
  refine ⟨List.eraseP_of_forall_not h', fun p hp => by simpa using h' p hp⟩
theorem restM_sub {src : List Lk} {rem : List Nat} {k : Lk} {p : Nat} (h : p ∈ restM src rem k) : p ∈ rem := List.mem_of_mem_eraseP h
theorem restM_nodup {src : List Lk} {rem : List Nat} {k : Lk} (h : rem.Nodup) : (restM src rem k).Nodup := List.Pairwise.sublist (List.eraseP_sublist) h

theorem erase_find {q : Nat → Bool} {p : Nat} : ∀ {rem : List Nat}, rem.Nodup → rem.find? q = some p → rem.eraseP q = rem.filter fun x => !(x == p)
  | [], _, h => by simp at h
  | x :: rem, hn, h => by
    obtain ⟨h1, h2⟩ := List.nodup_cons.1 hn
    by_cases hx : q x = true
    · rw [List.find?_cons_of_pos hx] at h
      cases h
      rw [List.eraseP_cons_of_pos hx, List.filter_cons]
      simp only [BEq.rfl, Bool.not_true, Bool.false_eq_true, if_false]
      refine (List.filter_eq_self.2 fun y hy => ?_).symm
      have : y ≠ p := fun e => h1 (e ▸ hy)
      simpa using this
    · rw [List.find?_cons_of_neg hx] at h
      have hp : p ∈ rem := List.mem_of_find?_eq_some h
      have hxp : x ≠ p := fun e => h1 (e ▸ hp)
      rw [List.eraseP_cons_of_neg hx, List.filter_cons, if_pos (by simpa using hxp), erase_find h2 h]
theorem restM_eq {src : List Lk} {k : Lk} {p : Nat} {rem : List Nat} (hn : rem.Nodup) (h : takeM src rem k = some p) : restM src rem k = rem.filter fun x => !(x == p) := erase_find hn h

theorem leftM_sub {src : List Lk} : ∀ {ks : List Lk} {rem : List Nat} {p : Nat}, p ∈ leftM src rem ks → p ∈ rem
  | [], _, _, h => h
  | _ :: _, _, _, h => restM_sub (leftM_sub h)

theorem leftM_eq {src : List Lk} : ∀ {ks : List Lk} {rem : List Nat}, rem.Nodup → leftM src rem ks = rem.filter fun p => !(alignM src rem ks).contains (some p)
  | [], rem, _ => by simp only [leftM, alignM]; exact (List.filter_eq_self.2 fun _ _ => rfl).symm
  | k :: ks, rem, hn => by
    rw [leftM, alignM, leftM_eq (restM_nodup hn)]
    cases h : takeM src rem k with
    | none =>
      rw [(takeM_none h).1]
      refine List.filter_congr fun p _ => ?_
      simp
    | some q =>
      rw [restM_eq hn h, List.filter_filter]
      refine List.filter_congr fun p _ => ?_
      by_cases hpq : p = q <;> simp [hpq]

theorem leftTo_eq (src : List Lk) (ks : List Lk) (m : Nat) : leftM src (List.range m) ks = leftTo (alignM src (List.range m) ks) m := leftM_eq List.nodup_range

/-- One that is left is matched by none that took nothing. -/
theorem align_none {src : List Lk} : ∀ {ks : List Lk} {rem : List Nat} {i : Nat} {k : Lk}, (alignM src rem ks)[i]? = some none → ks[i]? = some k → ∀ p ∈ leftM src rem ks, src[p]? ≠ some k
  | [], _, i, _, h, _, _, _ => by simp [alignM] at h
  | x :: ks, rem, 0, k, h, hk, p, hp => by
    simp only [alignM, List.getElem?_cons_zero, Option.some.injEq] at h hk
    subst hk
    rw [leftM] at hp
    exact (takeM_none h).2 p (restM_sub (leftM_sub hp))
  | x :: ks, rem, i + 1, k, h, hk, p, hp => by
    simp only [alignM, List.getElem?_cons_succ] at h hk
    exact align_none h hk p hp

/-- Each is taken by one that matches. -/
theorem align_some {src : List Lk} : ∀ {ks : List Lk} {rem : List Nat} {i p : Nat}, (alignM src rem ks)[i]? = some (some p) → p ∈ rem ∧ ∃ k, ks[i]? = some k ∧ src[p]? = some k
  | [], _, i, p, h => by simp [alignM] at h
  | x :: ks, rem, 0, p, h => by
    simp only [alignM, List.getElem?_cons_zero, Option.some.injEq] at h
    exact ⟨(takeM_mem h).1, x, by simp, (takeM_mem h).2⟩
  | x :: ks, rem, i + 1, p, h => by
    simp only [alignM, List.getElem?_cons_succ] at h
    obtain ⟨h1, k, h2, h3⟩ := align_some h
    exact ⟨restM_sub h1, k, by simpa using h2, h3⟩

/-- No place is taken twice. -/
theorem align_once {src : List Lk} : ∀ {ks : List Lk} {rem : List Nat} {i j p : Nat}, rem.Nodup → (alignM src rem ks)[i]? = some (some p) → i < j → (alignM src rem ks)[j]? ≠ some (some p)
  | [], _, i, j, p, _, h, _ => by simp [alignM] at h
  | x :: ks, rem, 0, j + 1, p, hn, h, _ => by
    simp only [alignM, List.getElem?_cons_zero, Option.some.injEq, List.getElem?_cons_succ] at h ⊢
    intro h2
    have := (align_some h2).1
    rw [restM_eq hn h] at this
    simp at this
  | x :: ks, rem, i + 1, j + 1, p, hn, h, hij => by
    simp only [alignM, List.getElem?_cons_succ] at h ⊢
    exact align_once (restM_nodup hn) h (by omega)

/-- How many are taken, and how many are left. -/
theorem align_count {src : List Lk} : ∀ {ks : List Lk} {rem : List Nat}, ((alignM src rem ks).filter Option.isSome).length + (leftM src rem ks).length = rem.length
  | [], rem => by simp [alignM, leftM]
  | k :: ks, rem => by
    rw [alignM, leftM, List.filter_cons]
    have ih := align_count (src := src) (ks := ks) (rem := restM src rem k)
    cases h : takeM src rem k with
    | none => rw [(takeM_none h).1] at ih ⊢; simpa using ih
    | some p =>
      have hp := takeM_mem h
      have hl : (restM src rem k).length + 1 = rem.length := by
        unfold restM
        rw [List.length_eraseP_of_mem hp.1 (by simpa using hp.2)]
        have := List.length_pos_of_mem hp.1
        omega
      simp only [Option.isSome_some, if_true, List.length_cons]
      omega

theorem align_append (src : List Lk) : ∀ (ks ls : List Lk) (rem : List Nat), alignM src rem (ks ++ ls) = alignM src rem ks ++ alignM src (leftM src rem ks) ls
  | [], _, _ => rfl
  | k :: ks, ls, rem => by simp [alignM, leftM, align_append src ks ls]

/-- Of what is left, numbered anew, the same is taken. -/
theorem align_renumber {src : List Lk} {left : List Nat} (hl : ∀ p ∈ left, p < src.length) : ∀ (ks : List Lk) (rem : List Nat), (∀ q ∈ rem, q < left.length) →
    alignM src (rem.map fun q => left.getD q 0) ks = (alignM (left.map fun p => src.getD p (false, ByteArray.empty)) rem ks).map fun o => o.map fun q => left.getD q 0
  | [], rem, _ => by simp [alignM]
  | k :: ks, rem, hr => by
    have key : ∀ q, q < left.length → decide (src[left.getD q 0]? = some k) = decide ((left.map fun p => src.getD p (false, ByteArray.empty))[q]? = some k) := by
      intro q hq
      have h1 : left.getD q 0 = left[q] := by simp [List.getD, List.getElem?_eq_getElem hq]
      have h2 := hl left[q] (List.getElem_mem hq)
      rw [h1]
      simp [List.getElem?_eq_getElem hq, List.getElem?_eq_getElem h2, List.getD]
    have hfind : ∀ rem : List Nat, (∀ q ∈ rem, q < left.length) → takeM src (rem.map fun q => left.getD q 0) k = (takeM (left.map fun p => src.getD p (false, ByteArray.empty)) rem k).map fun q => left.getD q 0 := by
      intro rem
      induction rem with
      | nil => intro _; rfl
      | cons q rem ih =>
        intro hr
        unfold takeM
        rw [List.map_cons, List.find?_cons, List.find?_cons, key q (hr q (by simp))]
        split
        · rfl
        · exact ih fun x hx => hr x (by simp [hx])
    have hrest : ∀ rem : List Nat, (∀ q ∈ rem, q < left.length) → restM src (rem.map fun q => left.getD q 0) k = (restM (left.map fun p => src.getD p (false, ByteArray.empty)) rem k).map fun q => left.getD q 0 := by
      intro rem
      induction rem with
      | nil => intro _; rfl
      | cons q rem ih =>
        intro hr
        unfold restM
        have ih' := ih fun x hx => hr x (by simp [hx])
        unfold restM at ih'
        rw [List.map_cons, List.eraseP_cons, List.eraseP_cons, key q (hr q (by simp))]
        cases decide ((List.map (fun p => src.getD p (false, ByteArray.empty)) left)[q]? = some k)
        · simp only [cond_false, List.map_cons]; exact congrArg _ ih'
        · simp only [cond_true]
    rw [alignM, alignM, hfind rem hr, hrest rem hr, align_renumber hl ks _ (fun q hq => hr q (restM_sub hq)), List.map_cons]

end Go.Proofs.Ytbhdkionphemdaa
