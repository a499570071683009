/- Plain laws of the dictionary's model: what is taken when no two entries match; turning; joining. Conditions: none. -/
import Derived.Test.YtbhdkionphemdaaKeysHelp
namespace Go.Proofs.Ytbhdkionphemdaa

theorem takeM_other (src : List Lk) (rem : List Nat) {k k' : Lk} (h : k' ≠ k) : takeM src (restM src rem k) k' = takeM src rem k' := by
  unfold takeM
  rw [← List.head?_filter, ← List.head?_filter]
  exact congrArg List.head? (at_rest_other src rem h)

/-- Of a view no two of which are the same each takes as if it were alone. -/
theorem alignM_alone (src : List Lk) : ∀ (ks : List Lk) (rem : List Nat), ks.Nodup → alignM src rem ks = ks.map (takeM src rem)
  | [], _, _ => rfl
  | k :: ks, rem, h => by
    obtain ⟨h1, h2⟩ := List.nodup_cons.1 h
    rw [alignM, alignM_alone src ks _ h2, List.map_cons]
    congr 1
    refine List.map_congr_left fun k' hk' => takeM_other src rem ?_
    rintro rfl
    exact h1 hk'

theorem apart_nodup {es : List Ent} (h : Apart es) : (es.map Ent.lk).Nodup := by
  rw [List.nodup_iff_pairwise_ne, List.pairwise_map, List.pairwise_iff_getElem]
  intro i j hi hj hij e
  have := h j i hj hi hij
  rw [Bool.eq_false_iff] at this
  exact this ((entMatch_iff _ _).2 e.symm)

theorem take_range_some {src : List Lk} {k : Lk} {p : Nat} (h : takeM src (List.range src.length) k = some p) : src[p]? = some k := by
  have := List.find?_some h
  simpa using this
theorem take_range_none {src : List Lk} {k : Lk} (h : takeM src (List.range src.length) k = none) : k ∉ src := by
  intro hk
  obtain ⟨i, hi, rfl⟩ := List.getElem_of_mem hk
  have := List.find?_eq_none.1 h i (by simpa using hi)
  simp [List.getElem?_eq_getElem hi] at this

/-- The entries from the a-th on, going round. -/
def rotTo (es : List Ent) (a k : Nat) : List Ent := (List.range k).map fun i => es.getD ((a + i) % es.length) ⟨0, false, ByteArray.empty⟩
theorem rotTo_length (es : List Ent) (a k : Nat) : (rotTo es a k).length = k := by simp [rotTo]
theorem rotTo_get (es : List Ent) (a k i : Nat) (h : i < (rotTo es a k).length) (hn : 0 < es.length) : (rotTo es a k)[i] = es[(a + i) % es.length]'(Nat.mod_lt _ hn) := by
  have hm := Nat.mod_lt (a + i) hn
  simp [rotTo, List.getD, List.getElem?_eq_getElem hm]
theorem rotTo_succ (es : List Ent) (a k : Nat) : rotTo es a (k + 1) = rotTo es a k ++ [es.getD ((a + k) % es.length) ⟨0, false, ByteArray.empty⟩] := by
  simp [rotTo, List.range_succ]

theorem rot_inj {n a i j : Nat} (hi : i < n) (hj : j < n) (h : (a + i) % n = (a + j) % n) : i = j := by
  have h1 : (a + i) % n = (a % n + i) % n := by rw [Nat.add_mod, Nat.mod_eq_of_lt hi]; 
  have h2 : (a + j) % n = (a % n + j) % n := by rw [Nat.add_mod, Nat.mod_eq_of_lt hj]
  rw [h1, h2] at h
  have ha : a % n < n := Nat.mod_lt _ (by omega)
  generalize a % n = c at *
  rcases Nat.lt_or_ge (c + i) n with h3 | h3 <;> rcases Nat.lt_or_ge (c + j) n with h4 | h4
  · rw [Nat.mod_eq_of_lt h3, Nat.mod_eq_of_lt h4] at h; omega
  · rw [Nat.mod_eq_of_lt h3, Nat.mod_eq_sub_mod h4, Nat.mod_eq_of_lt (by omega)] at h; omega
  · rw [Nat.mod_eq_sub_mod h3, Nat.mod_eq_of_lt (by omega), Nat.mod_eq_of_lt h4] at h; omega
  · rw [Nat.mod_eq_sub_mod h3, Nat.mod_eq_of_lt (by omega), Nat.mod_eq_sub_mod h4, Nat.mod_eq_of_lt (by omega)] at h; omega

theorem apart_rot {es : List Ent} (a : Nat) (h : Apart es) : Apart (rotTo es a es.length) := by
  intro x y hx hy hyx
  have hx' : x < es.length := by simpa [rotTo_length] using hx
  have hn : 0 < es.length := by omega
  rw [rotTo_get _ _ _ _ hx hn, rotTo_get _ _ _ _ hy hn]
  have hne : (a + x) % es.length ≠ (a + y) % es.length := fun e => by
    have := rot_inj hx' (by omega) e
    omega
  rcases Nat.lt_or_ge ((a + x) % es.length) ((a + y) % es.length) with h' | h'
  · have := h _ _ (Nat.mod_lt (a + y) hn) (Nat.mod_lt (a + x) hn) h'
    rw [Bool.eq_false_iff] at this ⊢
    exact fun e => this ((entMatch_iff _ _).2 ((entMatch_iff _ _).1 e).symm)
  · exact h _ _ (Nat.mod_lt (a + x) hn) (Nat.mod_lt (a + y) hn) (by omega)

/-- THE STAGE's THEOREM, in numbers: the same are taken by the same. -/
theorem turns_plain {view source : List Ent} (a b : Nat) (hv : Apart view) (hs : Apart source) (hn : 0 < view.length) (hm : 0 < source.length) (i : Nat) (hi : i < view.length) :
    ∃ P Q, ((alignM (source.map Ent.lk) (List.range source.length) (view.map Ent.lk)).map encO)[(a + i) % view.length]? = some (encO P) ∧
      ((alignM ((rotTo source b source.length).map Ent.lk) (List.range source.length) ((rotTo view a view.length).map Ent.lk)).map encO)[i]? = some (encO Q) ∧
      ((P = none ∧ Q = none) ∨ ∃ p q, P = some p ∧ Q = some q ∧ p < source.length ∧ q < source.length ∧ p = (b + q) % source.length) := by
  have hr : (rotTo view a view.length).length = view.length := rotTo_length _ _ _
  have hrs : (rotTo source b source.length).length = source.length := rotTo_length _ _ _
  have hmod := Nat.mod_lt (a + i) hn
  rw [alignM_alone _ _ _ (apart_nodup hv), alignM_alone _ _ _ (apart_nodup (apart_rot a hv))]
  obtain ⟨k, hk⟩ : ∃ k, k = (view[(a + i) % view.length]'hmod).lk := ⟨_, rfl⟩
  refine ⟨takeM (source.map Ent.lk) (List.range source.length) k, takeM ((rotTo source b source.length).map Ent.lk) (List.range source.length) k, ?_, ?_, ?_⟩
  · simp [List.getElem?_eq_getElem hmod, hk]
  · have hi' : i < (rotTo view a view.length).length := by omega
    simp only [List.map_map, List.getElem?_map, List.getElem?_eq_getElem hi', Option.map_some, Function.comp]
    rw [rotTo_get _ _ _ _ hi' hn, hk]
  have hdist : ∀ p p' : Nat, (source.map Ent.lk)[p]? = some k → (source.map Ent.lk)[p']? = some k → p = p' := by
    intro p p' h h'
    have hnd := apart_nodup hs
    have hp := (List.getElem?_eq_some_iff.1 h).1
    have hp' := (List.getElem?_eq_some_iff.1 h').1
    have e1 := (List.getElem?_eq_some_iff.1 h).2
    have e2 := (List.getElem?_eq_some_iff.1 h').2
    rw [List.nodup_iff_pairwise_ne, List.pairwise_iff_getElem] at hnd
    rcases Nat.lt_trichotomy p p' with h3 | h3 | h3
    · exact absurd (e1.trans e2.symm) (hnd p p' hp hp' h3)
    · exact h3
    · exact absurd (e2.trans e1.symm) (hnd p' p hp' hp h3)
  have hrot : ∀ q, q < source.length → ((rotTo source b source.length).map Ent.lk)[q]? = (source.map Ent.lk)[(b + q) % source.length]? := by
    intro q hq
    have hq' : q < (rotTo source b source.length).length := by omega
    have hmq := Nat.mod_lt (b + q) hm
    simp only [List.getElem?_map, List.getElem?_eq_getElem hq', List.getElem?_eq_getElem hmq, Option.map_some]
    rw [rotTo_get _ _ _ _ hq' hm]
  cases hP : takeM (source.map Ent.lk) (List.range source.length) k with
  | none =>
    left
    refine ⟨rfl, ?_⟩
    cases hQ : takeM ((rotTo source b source.length).map Ent.lk) (List.range source.length) k with
    | none => rfl
    | some q =>
      exfalso
      have h1 := take_range_some (src := (rotTo source b source.length).map Ent.lk) (by simpa [hrs] using hQ)
      have hq : q < source.length := by have := (List.getElem?_eq_some_iff.1 h1).1; simpa [hrs] using this
      rw [hrot q hq] at h1
      exact take_range_none (src := source.map Ent.lk) (by simpa using hP) (List.mem_of_getElem? h1)
  | some p =>
    right
    have h1 := take_range_some (src := source.map Ent.lk) (by simpa using hP)
    have hp : p < source.length := by have := (List.getElem?_eq_some_iff.1 h1).1; simpa using this
    cases hQ : takeM ((rotTo source b source.length).map Ent.lk) (List.range source.length) k with
    | none =>
      exfalso
      have h2 := take_range_none (src := (rotTo source b source.length).map Ent.lk) (by simpa [hrs] using hQ)
      apply h2
      obtain ⟨q, hq, hqe⟩ : ∃ q, q < source.length ∧ (b + q) % source.length = p := by
        refine ⟨(p + (source.length - b % source.length)) % source.length, Nat.mod_lt _ hm, ?_⟩
        have hb := Nat.mod_lt b hm
        have e : (b + (p + (source.length - b % source.length)) % source.length) % source.length = (b % source.length + (p + (source.length - b % source.length))) % source.length := by
          rw [Nat.add_mod, Nat.mod_mod, ← Nat.add_mod, Nat.add_mod, ← Nat.add_mod, Nat.mod_add_mod]
        rw [e, show b % source.length + (p + (source.length - b % source.length)) = p + source.length from by omega, Nat.add_mod_right, Nat.mod_eq_of_lt hp]
      have h3 := hrot q hq
      rw [hqe, h1] at h3
      exact List.mem_of_getElem? h3
    | some q =>
      have h2 := take_range_some (src := (rotTo source b source.length).map Ent.lk) (by simpa [hrs] using hQ)
      have hq : q < source.length := by have := (List.getElem?_eq_some_iff.1 h2).1; simpa [hrs] using this
      rw [hrot q hq] at h2
      exact ⟨p, q, rfl, rfl, hp, hq, hdist _ _ h1 h2⟩

end Go.Proofs.Ytbhdkionphemdaa
