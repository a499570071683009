/- Merged: PathStars: what steps of one name lead to · PathStars: Select and Values at one step. Conditions: those of the parts. -/
import Derived.Test.YtoknglpfchjbjaaDoorAwakeX
import Derived.Test.YtoknglpfchjbjaaDoorBuild
/- PathStars: what steps of one name lead to. Plain. Conditions: none. -/
namespace Go.Proofs.YtoknglpfchjbjaaDoor
open Go.RowKit Go.Sp Go.Maps

abbrev starB : ByteArray := ⟨#[42]⟩
/-- A step of one name. -/
abbrev oneS (b : Bool) (n : ByteArray) : StepM := ⟨b, n, []⟩

theorem str_star : (starB.toList == [42]) = true := by kernel_rfl
theorem pcheck_one (b : Bool) (n : ByteArray) (h : n = starB ∨ isName n = true) : pcheckM [oneS b n] = 0 := by
  have hn : namedS (oneS b n) = true := by
    unfold namedS
    rcases h with rfl | h
    · simp [str_star]
    · simp [h]
  have hf : formedM [oneS b n] = true := by cases b <;> rfl
  unfold pcheckM
  rw [if_neg (by simp [manyP]), if_neg (by rw [hf]; decide), if_neg (by simp [hn]), if_neg (by simp [writtenS])]

/-- The children up to a place to which a step leads. -/
def hitsTo (s : StepM) (T : TT) (k : Nat) : List (List Int × ByteArray) := (kids0 s [] T.kids k).map fun x => (x.1, ⟨#[]⟩)
theorem lead_kids1 (n : ByteArray) (T : TT) : leadM [oneS false n] ([], T) = hitsTo (oneS false n) T T.kids.length := by
  have e : ∀ l : List NX, l.flatMap (leadM []) = l.map fun x => (x.1, (⟨#[]⟩ : ByteArray)) := fun l => by
    induction l with
    | nil => rfl
    | cons x l ih => rw [List.flatMap_cons, ih]; rfl
  show (if (oneS false n).isAttr then _ else (kidsM (oneS false n) ([], T)).flatMap (leadM [])) = _
  rw [if_neg (by simp), e]
  rfl
theorem hitsTo_succ (s : StepM) (T : TT) (k : Nat) (h : k < T.kids.length) : hitsTo s T (k + 1) = hitsTo s T k ++ if goodKid s T.kids[k] then [([(k : Int)], ⟨#[]⟩)] else [] := by
  unfold hitsTo
  rw [kids0_succ s [] T.kids k h, List.map_append]
  split <;> rfl
theorem hitsTo_pre (s : StepM) (T : TT) : ∀ (d k : Nat), k + d = T.kids.length → ∃ r, hitsTo s T T.kids.length = hitsTo s T k ++ r
  | 0, k, h => ⟨[], by rw [List.append_nil]; rw [Nat.add_zero] at h; rw [h]⟩
  | d + 1, k, h => by
    obtain ⟨r, hr⟩ := hitsTo_pre s T d (k + 1) (by omega)
    rw [hitsTo_succ s T k (by omega), List.append_assoc] at hr
    exact ⟨_, hr⟩
theorem hits_len (s : StepM) (T : TT) : ∀ k, k ≤ T.kids.length → ∀ h ∈ hitsTo s T k, h.1.length ≤ 1
  | 0, _, h, hh => by simp [hitsTo, kids0] at hh
  | k + 1, hk, h, hh => by
    rw [hitsTo_succ s T k (by omega), List.mem_append] at hh
    rcases hh with hh | hh
    · exact hits_len s T k (by omega) h hh
    · split at hh
      · rw [List.mem_singleton.1 hh]; exact Nat.le_refl _
      · cases hh
theorem mid_at {α : Type} {L pre r : List α} {x : α} (h : L = pre ++ x :: r) : ∃ hn : pre.length < L.length, L[pre.length] = x := by
  subst h
  exact ⟨by simp, by simp⟩
/-- The hit of a child to which a step leads. -/
theorem hitsTo_at (s : StepM) (T : TT) (k : Nat) (h : k < T.kids.length) (hg : goodKid s T.kids[k] = true) :
    ∃ r, hitsTo s T T.kids.length = hitsTo s T k ++ ([(k : Int)], ⟨#[]⟩) :: r := by
  obtain ⟨r, hr⟩ := hitsTo_pre s T (T.kids.length - (k + 1)) (k + 1) (by omega)
  rw [hitsTo_succ s T k h, if_pos hg, List.append_assoc] at hr
  exact ⟨r, hr⟩
theorem good_star (t : TT) : goodKid (oneS false starB) t = !t.label.toList.isEmpty := by
  unfold goodKid fitsB
  rw [show (oneS false starB).name = starB from rfl, str_star]
  simp
theorem good_own (t : TT) : goodKid (oneS false t.label) t = !t.label.toList.isEmpty := by
  unfold goodKid fitsB
  simp
theorem lead_attr1 (n : ByteArray) (T : TT) : leadM [oneS true n] ([], T) = (T.attrs.filter fun a => fitsB (oneS true n) a.1).map fun a => ([], a.1) := rfl
theorem lead_attrsAll (T : TT) : leadM [oneS true starB] ([], T) = T.attrs.map fun a => ([], a.1) := by
  rw [lead_attr1]
  congr 1
  rw [List.filter_eq_self]
  intro a _
  unfold fitsB
  rw [show (oneS true starB).name = starB from rfl, str_star]
  rfl
theorem bytes_ext {a b : ByteArray} (h : a.toList = b.toList) : a = b := by
  rw [Lib.toList_data, Lib.toList_data] at h
  exact ByteArray.ext (Array.ext' h)
theorem rises_filter : ∀ {l : List (ByteArray × ByteArray)} (_ : rises l = true) (k : Nat) (hk : k < l.length), l.filter (fun a => l[k].1.toList == a.1.toList) = [l[k]]
  | [], _, k, hk => absurd hk (Nat.not_lt_zero _)
  | x :: l, h, 0, hk => by
    rw [List.filter_cons, if_pos (by simp)]
    congr 1
    rw [List.filter_eq_nil_iff]
    intro a ha
    have := rises_lt h a ha
    simp only [List.getElem_cons_zero, beq_iff_eq]
    intro e
    rw [e] at this
    exact absurd this (List.lt_irrefl _)
  | x :: l, h, k + 1, hk => by
    have hk' : k < l.length := by simpa using hk
    have := rises_lt h l[k] (List.getElem_mem hk')
    rw [List.filter_cons, if_neg]
    · simp only [List.getElem_cons_succ]
      exact rises_filter (rises_tail h) k hk'
    · simp only [List.getElem_cons_succ, beq_iff_eq]
      intro e
      rw [e] at this
      exact absurd this (List.lt_irrefl _)
theorem name_not_star {n : ByteArray} (h : isName n = true) : (n.toList == [42]) = false := by
  rw [← Bool.not_eq_true]
  intro he
  have e : n = starB := bytes_ext (by rw [beq_iff_eq] at he; rw [he]; exact (beq_iff_eq.1 str_star).symm)
  rw [e] at h
  exact absurd h (by rw [show isName starB = false by kernel_rfl]; decide)
theorem name_some {n : ByteArray} (h : isName n = true) : n.toList.isEmpty = false := by
  cases hn : n.toList with
  | nil =>
    have e : n = ⟨#[]⟩ := bytes_ext (by rw [hn]; exact (show (⟨#[]⟩ : ByteArray).toList = [] by kernel_rfl).symm)
    rw [e] at h
    exact absurd h (by rw [show isName ⟨#[]⟩ = false by kernel_rfl]; decide)
  | cons _ _ => rfl
theorem lead_attr_one {T : TT} (h : rises T.attrs = true) (k : Nat) (hk : k < T.attrs.length) (hn : isName T.attrs[k].1 = true) : leadM [oneS true T.attrs[k].1] ([], T) = [([], T.attrs[k].1)] := by
  rw [lead_attr1]
  have e : (fun a : ByteArray × ByteArray => fitsB (oneS true T.attrs[k].1) a.1) = fun a => T.attrs[k].1.toList == a.1.toList := by
    funext a
    unfold fitsB
    rw [show (oneS true T.attrs[k].1).name = T.attrs[k].1 from rfl, name_not_star hn]
    rfl
  rw [e, rises_filter h k hk]
  rfl

end Go.Proofs.YtoknglpfchjbjaaDoor

/- PathStars: Select and Values at one step. Conditions: the table of spans as laid. -/
namespace Go.Proofs.YtoknglpfchjbjaaDoor
open Go.RowKit Go.Sp Go.Maps

theorem one_row (W : World) (b : Bool) (n : ByteArray) (hn : n.size ≤ maxLen) : Sl pstepS (fun k => k < W.heap.size + 1) (W.alloc (.cells #[.bool b, .string n, .slice none 0 0] 58)) (some ⟨W.heap.size, 0, none⟩) [oneS b n] := fun i hi => by
  obtain rfl : i = 0 := by simpa using hi
  refine ⟨W.heap.size, 0, [.bool b, .string n, .slice none 0 0], rfl, by omega, ⟨⟨hn, Nat.zero_le _⟩, none, 0, rfl, Sl.nil⟩, cellsAt_of (World.alloc_heap_new W _) fun j hj => ?_⟩
  have : j = 0 ∨ j = 1 ∨ j = 2 := by simp at hj; omega
  rcases this with rfl | rfl | rfl <;> rfl
/-- A row of one step somewhere. -/
theorem one_row_at {W : World} {g : Nat} {b : Bool} {n : ByteArray} (h : W.heap[g]? = some (.cells #[.bool b, .string n, .slice none 0 0] 58 (0, 0))) (hn : n.size ≤ maxLen) : Sl pstepS (fun k => k < W.heap.size) W (some ⟨g, 0, none⟩) [oneS b n] := fun i hi => by
  obtain rfl : i = 0 := by simpa using hi
  refine ⟨g, 0, [.bool b, .string n, .slice none 0 0], rfl, (Array.getElem?_eq_some_iff.1 h).1, ⟨⟨hn, Nat.zero_le _⟩, none, 0, rfl, Sl.nil⟩, cellsAt_of h fun j hj => ?_⟩
  have : j = 0 ∨ j = 1 ∨ j = 2 := by simp at hj; omega
  rcases this with rfl | rfl | rfl <;> rfl

def SelOne (T : TT) (b : Bool) (n : ByteArray) (W : World) (e : Ending) (W' : World) : Prop := Below W.heap.size W W' ∧ ∃ a c, e = .returned (.tuple #[.slice a (leadM [oneS b n] ([], T)).length c, .int .i64 0]) ∧ Sl hitS (fun k => k < W'.heap.size) W' a (leadM [oneS b n] ([], T))
theorem sel_one {m n₀ g : Nat} {vs : Array Value} {T : TT} {W : World} {b : Bool} {n : ByteArray} (hm : m ≤ 2000000) (h : NodeAt n₀ m W vs T) (hn₀ : n₀ ≤ W.heap.size) (hck : checkM m T = 0) (hg : W.heap[g]? = some (.cells #[.bool b, .string n, .slice none 0 0] 58 (0, 0))) (hn : n.size ≤ maxLen) (hp : n = starB ∨ isName n = true) (hsp : SpansAt W) :
    Calls Tryd.prog 14 #[.agg vs, .agg #[.slice (some ⟨g, 0, none⟩) 1 1]] W (SelOne T b n W) := by
  have h' : NodeAt W.heap.size m W vs T := by
    obtain ⟨aa, ca, ka, ck, e1, e2⟩ := h
    exact ⟨aa, ca, ka, ck, e1, (treeS m).mono e2 fun k hk => by omega⟩
  refine (select_any m hm W.heap.size vs T [oneS b n] (some ⟨g, 0, none⟩) 1 W h' (one_row_at hg hn) (Nat.le_refl _) (Nat.le_refl _) (by simp) hsp).mono ?_
  rintro e W' ⟨hb, ⟨h1, _⟩ | ⟨_, h1, _⟩ | ⟨_, _, a, c, rfl, hs⟩⟩
  · exact absurd hck h1
  · exact absurd (pcheck_one b n hp) h1
  · exact ⟨hb, a, c, rfl, hs⟩
theorem rises_ne : ∀ {l : List (ByteArray × ByteArray)} (_ : rises l = true) (i j : Nat) (hi : i < j) (hj : j < l.length), l[i].1.toList ≠ (l[j]).1.toList
  | [], _, i, j, _, hj => absurd hj (Nat.not_lt_zero _)
  | a :: l, h, i, 0, hi, hj => absurd hi (Nat.not_lt_zero _)
  | a :: l, h, 0, j + 1, hi, hj => by
    have hlt := rises_lt h (l[j]'(by simpa using hj)) (List.getElem_mem _)
    intro e
    simp only [List.getElem_cons_zero, List.getElem_cons_succ] at e
    rw [e] at hlt
    exact absurd hlt (List.lt_irrefl _)
  | a :: l, h, i + 1, j + 1, hi, hj => by
    simp only [List.getElem_cons_succ]
    exact rises_ne (rises_tail h) i j (by omega) (by simpa using hj)

def ValOne (x : ByteArray) (W : World) (e : Ending) (W' : World) : Prop := Below W.heap.size W W' ∧ ∃ g c, e = .returned (.tuple #[.slice (some ⟨g, 0, none⟩) 1 c, .int .i64 0]) ∧ W'.cell? ⟨g, 0, none⟩ = some (.string x) ∧ g < W'.heap.size
theorem val_one {m n₀ g : Nat} {vs : Array Value} {T : TT} {W : World} (k : Nat) (hk : k < T.attrs.length) (hm : m ≤ 2000000) (h : NodeAt n₀ m W vs T) (hn₀ : n₀ ≤ W.heap.size) (hck : checkM m T = 0) (hr : rises T.attrs = true) (hg : W.heap[g]? = some (.cells #[.bool true, .string T.attrs[k].1, .slice none 0 0] 58 (0, 0))) (hn : T.attrs[k].1.size ≤ maxLen) (hp : isName T.attrs[k].1 = true) (hsp : SpansAt W) :
    Calls Tryd.prog 18 #[.agg vs, .agg #[.slice (some ⟨g, 0, none⟩) 1 1]] W (ValOne T.attrs[k].2 W) := by
  have h' : NodeAt W.heap.size m W vs T := by
    obtain ⟨aa, ca, ka, ck, e1, e2⟩ := h
    exact ⟨aa, ca, ka, ck, e1, (treeS m).mono e2 fun k hk => by omega⟩
  have hl := lead_attr_one hr k hk hp
  refine (values_any m hm W.heap.size vs T [oneS true T.attrs[k].1] (some ⟨g, 0, none⟩) 1 W h' (one_row_at hg hn) (Nat.le_refl _) (Nat.le_refl _) (by simp) hsp ?_).mono ?_
  · rintro ⟨x, hx, he⟩
    rw [hl] at hx
    rw [List.mem_singleton.1 hx] at he
    rw [name_some hp] at he
    cases he
  rintro e W' ⟨hb, ⟨h1, _⟩ | ⟨_, h1, _⟩ | ⟨_, _, v, rfl, hs⟩⟩
  · exact absurd hck h1
  · exact absurd (pcheck_one true _ (.inr hp)) h1
  · have hv : valuesM m T [([], T.attrs[k].1)] = [T.attrs[k].2] := by
      show [valOf m T T.attrs[k].1] = _
      unfold valOf
      rw [name_some hp]
      have : attrV T.attrs T.attrs[k].1 = some T.attrs[k].2 := by
        have := attrV_hit (l := T.attrs) (n := T.attrs[k].1) hk ?_ (by simp)
        · exact this
        · unfold attrV
          rw [Option.map_eq_none_iff, List.find?_eq_none]
          intro x hx
          obtain ⟨i, hi, rfl⟩ := List.getElem_of_mem hx
          simp only [List.length_take] at hi
          rw [List.getElem_take]
          intro he
          exact (rises_ne hr i k (by omega) hk) (beq_iff_eq.1 he)
      rw [this]; rfl
    rw [hl, hv] at hs
    obtain ⟨g, cap, rfl⟩ := Joins.ownsRow_form hs (Nat.succ_pos _)
    have := hs.cells (g := g) rfl 0 (.string T.attrs[k].2) rfl
    have hadd : (⟨g, 0, none⟩ : Addr).add 0 = ⟨g, 0, none⟩ := by unfold Addr.add; split <;> simp_all
    rw [hadd] at this
    exact ⟨hb, g, cap, rfl, this, (hs.lt g rfl).2⟩

end Go.Proofs.YtoknglpfchjbjaaDoor
