/- Parse of a path's text is the path: on lists. Plain: no program in sight. Conditions: none. -/
import Derived.Test.YtoknglpfchjbjaaGreatDoorReadZ
import Derived.Test.YtoknglpfchjbjaaGreatDoorReadI
import Derived.Lib.Join
import Derived.Lib.ItoaNum
namespace Go.Proofs.YtoknglpfchjbjaaGreatDoor
open Go.RowKit Go.Sp

/-- The mark around a value. -/
def quoteOf (v : ByteArray) : UInt8 := if hasB v 34 then 39 else 34
/-- A predicate's text. -/
def predT (q : PredM) : List UInt8 := if q.place ≠ 0 then 91 :: (Lib.itoa q.place ++ [93]) else 91 :: 64 :: (q.attr.data.toList ++ 61 :: quoteOf q.value :: (q.value.data.toList ++ [quoteOf q.value, 93]))
/-- The texts of predicates. -/
def predsT (l : List PredM) : List UInt8 := (l.map predT).flatten
/-- A step's text. -/
def stepT (s : StepM) : List UInt8 := (if s.isAttr then [64] else []) ++ (s.name.data.toList ++ predsT s.preds)
/-- A path's text. -/
def textM (l : List StepM) : List UInt8 := if l = [] then [46] else Lib.join (l.map stepT) [47]

theorem hasB_no {s : ByteArray} {c : UInt8} (h : c ∉ s.data.toList) : hasB s c = false := by
  rw [← Bool.not_eq_true, hasB_iff]; exact h
theorem indexByte_at (v r : List UInt8) (c : UInt8) (h : c ∉ v) : Lib.indexByte (v ++ c :: r) c = v.length := by
  induction v with
  | nil => simp [Lib.indexByte]
  | cons b l ih =>
    simp only [List.mem_cons, not_or] at h
    rw [List.cons_append]
    unfold Lib.indexByte
    rw [ih h.2, if_neg (by simpa using fun e => h.1 e.symm), if_neg (by rw [beq_iff_eq]; omega)]
    simp
theorem quote_not {v : ByteArray} (h : (hasB v 39 && hasB v 34) = false) : quoteOf v ∉ v.data.toList := by
  unfold quoteOf
  rw [← hasB_iff]
  cases h2 : hasB v 34
  · rw [if_neg (by simp), h2]; simp
  · rw [if_pos rfl]
    rw [h2, Bool.and_true] at h
    rw [h]; simp
theorem quote_mark (v : ByteArray) : hasB mkQuot (quoteOf v) = true := by
  unfold quoteOf
  split <;> rw [hasB_iff] <;> decide
theorem quoted_back (v : ByteArray) (r : List UInt8) (h : (hasB v 39 && hasB v 34) = false) : quotedL (quoteOf v :: (v.data.toList ++ quoteOf v :: r)) = some (v.data.toList, r) := by
  unfold quotedL
  dsimp only
  rw [if_pos (quote_mark v), indexByte_at _ _ _ (quote_not h), if_neg (by omega)]
  have e : (v.data.toList.length : Int).toNat = v.data.toList.length := by simp
  rw [e, List.take_left, List.drop_append]
  simp

theorem part_word (c : UInt8) (h : isPart (c.toNat : Nat) = true) (hl : letB c = false) : hasB mkWord c = true := by
  rw [hasB_iff]
  unfold letB at hl
  unfold isPart at h
  rw [hl] at h
  unfold isDigit at h
  simp only [Bool.false_or, Bool.or_eq_true, Bool.and_eq_true, decide_eq_true_eq] at h
  have h3 : c.toNat = 48 ∨ c.toNat = 49 ∨ c.toNat = 50 ∨ c.toNat = 51 ∨ c.toNat = 52 ∨ c.toNat = 53 ∨ c.toNat = 54 ∨ c.toNat = 55 ∨ c.toNat = 56 ∨ c.toNat = 57 ∨ c.toNat = 45 ∨ c.toNat = 46 := by omega
  have h4 : c = UInt8.ofNat c.toNat := by simp
  rcases h3 with e | e | e | e | e | e | e | e | e | e | e | e <;> rw [h4, e] <;> decide
/-- No byte of a word. -/
def wordEnd : List UInt8 → Prop
  | [] => True
  | c :: _ => c = 91 ∨ c = 47 ∨ c = 61 ∨ c = 93
theorem wordN_end {r : List UInt8} (h : wordEnd r) (b : Bool) : wordN b r = 0 := by
  cases r with
  | nil => rfl
  | cons c r =>
    unfold wordN
    rw [if_neg]
    rcases h with rfl | rfl | rfl | rfl <;> cases b <;> decide
theorem wordN_rest {l r : List UInt8} (hr : wordEnd r) (h : ∀ c ∈ l, isPart (c.toNat : Nat) = true) : wordN false (l ++ r) = l.length := by
  induction l with
  | nil => exact wordN_end hr false
  | cons c l ih =>
    rw [List.cons_append]
    unfold wordN
    rw [if_pos, ih (fun x hx => h x (List.mem_cons_of_mem _ hx))]
    · simp
    · cases hl : letB c
      · rw [part_word c (h c (List.mem_cons_self ..)) hl]; rfl
      · rfl
theorem name_list {s : ByteArray} (h : isName s = true) : ∃ c l, s.data.toList = c :: l ∧ letB c = true ∧ (∀ x ∈ s.data.toList, isPart (x.toNat : Nat) = true) ∧ s.size ≤ 64 := by
  unfold isName allPart at h
  simp only [Bool.and_eq_true, decide_eq_true_eq, List.all_eq_true] at h
  obtain ⟨⟨⟨h1, h2⟩, h3⟩, h4⟩ := h
  cases hs : s.data.toList with
  | nil =>
    have : s.data.size = 0 := by rw [← Array.length_toList, hs]; rfl
    have : s.size = s.data.size := rfl
    omega
  | cons c l =>
    rw [hs] at h3
    exact ⟨c, l, rfl, h3, by rw [← hs]; exact h4, h2⟩
theorem wordN_name {s : ByteArray} (h : isName s = true) {r : List UInt8} (hr : wordEnd r) : wordN true (s.data.toList ++ r) = s.data.toList.length := by
  obtain ⟨c, l, h1, h2, h3, _⟩ := name_list h
  rw [h1, List.cons_append]
  unfold wordN
  rw [h2, Bool.true_or, if_pos rfl, wordN_rest hr (fun x hx => h3 x (by rw [h1]; exact List.mem_cons_of_mem _ hx))]
  simp
theorem bsOf_toList (s : ByteArray) : bsOf s.data.toList = s := by unfold bsOf; simp

theorem dig_nat {d : Nat} (h : d < 10) : (UInt8.ofNat (48 + d)).toNat = 48 + d := by
  rw [UInt8.toNat_ofNat']; omega
theorem dig_has {d : Nat} (h : d < 10) : hasB mkDig (UInt8.ofNat (48 + d)) = true := by
  have : d = 0 ∨ d = 1 ∨ d = 2 ∨ d = 3 ∨ d = 4 ∨ d = 5 ∨ d = 6 ∨ d = 7 ∨ d = 8 ∨ d = 9 := by omega
  rw [hasB_iff]
  rcases this with rfl | rfl | rfl | rfl | rfl | rfl | rfl | rfl | rfl | rfl <;> decide
theorem dig_zero {d : Nat} (h : d < 10) (h1 : 1 ≤ d) : (UInt8.ofNat (48 + d) == 48) = false := by
  have : d = 1 ∨ d = 2 ∨ d = 3 ∨ d = 4 ∨ d = 5 ∨ d = 6 ∨ d = 7 ∨ d = 8 ∨ d = 9 := by omega
  rcases this with rfl | rfl | rfl | rfl | rfl | rfl | rfl | rfl | rfl <;> decide
theorem placeN_stop (k : Nat) (n : Int) (r : List UInt8) : placeN k n (93 :: r) = (n, 0) := by
  cases k with
  | zero => rfl
  | succ k =>
    unfold placeN
    rw [if_neg]
    rw [hasB_no (by decide)]; simp
theorem placeN_step {k : Nat} (n : Int) {d : Nat} (h : d < 10) (h1 : k + 1 = 4 → 1 ≤ d) (r : List UInt8) : placeN (k + 1) n (UInt8.ofNat (48 + d) :: r) = ((placeN k (n * 10 + d) r).1, (placeN k (n * 10 + d) r).2 + 1) := by
  conv => lhs; unfold placeN
  rw [if_pos, dig_nat h]
  · have : n * 10 + (((48 + d : Nat) : Int) - 48) = n * 10 + d := by omega
    rw [this]
  · rw [dig_has h, Bool.true_and]
    by_cases hk : k + 1 = 4
    · rw [dig_zero h (h1 hk)]; simp
    · have : (k + 1 == 4) = false := by simpa using hk
      rw [this]; rfl
theorem decDigits_lt {u : Nat} (h : u < 10) : Lib.decDigits u = [UInt8.ofNat (48 + u)] := by rw [Lib.decDigits, dif_pos h]
theorem decDigits_ge {u : Nat} (h : ¬ u < 10) : Lib.decDigits u = Lib.decDigits (u / 10) ++ [UInt8.ofNat (48 + u % 10)] := by rw [Lib.decDigits, dif_neg h]
theorem place_back {u : Nat} (h1 : 1 ≤ u) (h2 : u < 10000) (r : List UInt8) : placeN 4 0 (Lib.decDigits u ++ 93 :: r) = ((u : Int), (Lib.decDigits u).length) := by
  by_cases a1 : u < 10
  · rw [decDigits_lt a1, List.singleton_append, placeN_step 0 a1 (by omega), placeN_stop]
    simp
  rw [decDigits_ge a1]
  by_cases a2 : u / 10 < 10
  · rw [decDigits_lt a2]
    simp only [List.cons_append, List.nil_append, List.length_cons, List.length_nil]
    rw [placeN_step 0 a2 (by omega), placeN_step _ (by omega) (by omega), placeN_stop]
    refine Prod.ext ?_ ?_
    · show ((0 * 10 + ((u / 10 : Nat) : Int)) * 10 + ((u % 10 : Nat) : Int)) = u
      omega
    · rfl
  rw [decDigits_ge a2]
  by_cases a3 : u / 10 / 10 < 10
  · rw [decDigits_lt a3]
    simp only [List.cons_append, List.nil_append, List.length_cons, List.length_nil]
    rw [placeN_step 0 a3 (by omega), placeN_step _ (by omega) (by omega), placeN_step _ (by omega) (by omega), placeN_stop]
    refine Prod.ext ?_ ?_
    · show (((0 * 10 + ((u / 10 / 10 : Nat) : Int)) * 10 + ((u / 10 % 10 : Nat) : Int)) * 10 + ((u % 10 : Nat) : Int)) = u
      omega
    · rfl
  rw [decDigits_ge a3, decDigits_lt (by omega)]
  simp only [List.cons_append, List.nil_append, List.length_cons, List.length_nil]
  rw [placeN_step 0 (d := u / 10 / 10 / 10) (by omega) (by omega), placeN_step _ (by omega) (by omega), placeN_step _ (by omega) (by omega), placeN_step _ (by omega) (by omega), placeN_stop]
  refine Prod.ext ?_ ?_
  · show ((((0 * 10 + ((u / 10 / 10 / 10 : Nat) : Int)) * 10 + ((u / 10 / 10 % 10 : Nat) : Int)) * 10 + ((u / 10 % 10 : Nat) : Int)) * 10 + ((u % 10 : Nat) : Int)) = u
    omega
  · rfl
theorem digits_head {u : Nat} (h1 : 1 ≤ u) : ∃ d l, d < 10 ∧ Lib.decDigits u = UInt8.ofNat (48 + d) :: l := by
  induction u using Nat.strongRecOn with
  | _ u ih =>
    by_cases a : u < 10
    · exact ⟨u, [], a, decDigits_lt a⟩
    · obtain ⟨d, l, hd, hl⟩ := ih (u / 10) (by omega) (by omega)
      refine ⟨d, l ++ [UInt8.ofNat (48 + u % 10)], hd, ?_⟩
      rw [decDigits_ge a, hl]; rfl

theorem mark_yes (c : UInt8) (l : List UInt8) : markL c (c :: l) = some l := if_pos rfl
theorem mark_no {c x : UInt8} (h : x ≠ c) (l : List UInt8) : markL c (x :: l) = none := if_neg h

theorem empty_list {s : ByteArray} (h : s.data.toList = []) : s = ⟨#[]⟩ := by rw [← bsOf_toList s, h]; rfl

/-- A predicate that may be, with its names. -/
def goodP (q : PredM) : Prop := formedP q = true ∧ (q.attr.toList.isEmpty || isName q.attr) = true

theorem pred_back {q : PredM} (h : goodP q) (r : List UInt8) : ∃ t, predT q ++ r = 91 :: t ∧ predL t = some (q, r) := by
  obtain ⟨h1, h2⟩ := h
  unfold formedP at h1
  rw [Lib.toList_data] at h1 h2
  cases he : q.attr.data.toList.isEmpty
  · rw [he] at h1 h2
    simp only [Bool.false_eq_true, if_false, Bool.false_or, Bool.and_eq_true, Bool.not_eq_true', beq_iff_eq] at h1 h2
    obtain ⟨h1, h3⟩ := h1
    refine ⟨64 :: (q.attr.data.toList ++ 61 :: quoteOf q.value :: (q.value.data.toList ++ quoteOf q.value :: 93 :: r)), by unfold predT; rw [if_neg (by simpa using h1)]; simp, ?_⟩
    unfold predL
    rw [mark_yes]
    have hw := wordN_name h2 (r := 61 :: quoteOf q.value :: (q.value.data.toList ++ quoteOf q.value :: 93 :: r)) (.inr (.inr (.inl rfl)))
    have hne : q.attr.data.toList.length ≠ 0 := by
      intro e
      rw [List.length_eq_zero_iff] at e
      rw [e] at he; cases he
    dsimp only
    rw [hw, if_neg hne, List.drop_left, mark_yes, List.take_left]
    dsimp only
    rw [quoted_back _ _ h3]
    dsimp only
    rw [mark_yes, bsOf_toList, bsOf_toList, ← h1]
  · rw [he] at h1
    simp only [if_true, Bool.and_eq_true, decide_eq_true_eq] at h1
    obtain ⟨⟨h3, h4⟩, h5⟩ := h1
    rw [Lib.toList_data, List.isEmpty_iff] at h3
    rw [List.isEmpty_iff] at he
    obtain ⟨qa, qv, qp⟩ := q
    dsimp only at h3 h4 h5 he ⊢
    obtain rfl := empty_list he
    obtain rfl := empty_list h3
    obtain ⟨u, rfl⟩ : ∃ u : Nat, qp = u := ⟨qp.toNat, by omega⟩
    have hu : 1 ≤ u := by omega
    have hi : Lib.itoa (u : Int) = Lib.decDigits u := by unfold Lib.itoa; rw [if_neg (by omega)]; simp
    refine ⟨Lib.decDigits u ++ 93 :: r, by unfold predT; dsimp only; rw [if_pos (by omega), hi]; simp, ?_⟩
    unfold predL
    have hm : markL 64 (Lib.decDigits u ++ 93 :: r) = none := by
      obtain ⟨d, l, hd, hl⟩ := digits_head hu
      rw [hl, List.cons_append]
      refine mark_no (fun e => ?_) _
      have := congrArg UInt8.toNat e
      rw [dig_nat hd] at this
      have e64 : (64 : UInt8).toNat = 64 := rfl
      omega
    rw [hm]
    dsimp only
    rw [place_back hu (by omega), if_pos (by dsimp only; omega), List.drop_left, mark_yes]

theorem preds_back (ps : List PredM) (h : ∀ q ∈ ps, goodP q) (r : List UInt8) (hr : ∀ t, r ≠ 91 :: t) (f : Nat) (hf : ps.length < f) : predsL f (predsT ps ++ r) = some (ps, r) := by
  induction ps generalizing f with
  | nil =>
    obtain ⟨f, rfl⟩ : ∃ g, f = g + 1 := ⟨f - 1, by omega⟩
    unfold predsL predsT
    have : markL 91 r = none := by
      cases r with
      | nil => rfl
      | cons x r => exact mark_no (fun e => hr r (by rw [e])) _
    simp only [List.map_nil, List.flatten_nil, List.nil_append]
    rw [this]
  | cons q ps ih =>
    obtain ⟨f, rfl⟩ : ∃ g, f = g + 1 := ⟨f - 1, by omega⟩
    have e : predsT (q :: ps) ++ r = predT q ++ (predsT ps ++ r) := by unfold predsT; simp
    obtain ⟨t, ht, hp⟩ := pred_back (h q (List.mem_cons_self ..)) (predsT ps ++ r)
    rw [e, ht]
    unfold predsL
    rw [mark_yes]
    dsimp only
    rw [hp]
    dsimp only
    rw [ih (fun x hx => h x (List.mem_cons_of_mem _ hx)) f (by simp at hf; omega)]
    rfl

theorem predT_head (q : PredM) : ∃ t, predT q = 91 :: t := by unfold predT; split <;> exact ⟨_, rfl⟩
theorem preds_len (ps : List PredM) : ps.length ≤ (predsT ps).length := by
  induction ps with
  | nil => simp
  | cons q ps ih =>
    obtain ⟨t, ht⟩ := predT_head q
    have : predsT (q :: ps) = predT q ++ predsT ps := by unfold predsT; simp
    rw [this, ht]; simp; omega

/-- A step that may be, with its names. -/
def goodS (s : StepM) : Prop := (∀ q ∈ s.preds, goodP q) ∧ (s.name.toList == [42] || isName s.name) = true

/-- What stands behind a step. -/
def stepEnd : List UInt8 → Prop
  | [] => True
  | c :: _ => c = 47

theorem step_end_word {ps : List PredM} {r : List UInt8} (hr : stepEnd r) : wordEnd (predsT ps ++ r) := by
  cases ps with
  | nil =>
    show wordEnd r
    cases r with
    | nil => trivial
    | cons c r => exact .inr (.inl hr)
  | cons q ps =>
    obtain ⟨t, ht⟩ := predT_head q
    have : predsT (q :: ps) = predT q ++ predsT ps := by unfold predsT; simp
    rw [this, ht]
    exact .inl rfl

theorem step_back {s : StepM} (h : goodS s) (r : List UInt8) (hr : stepEnd r) : stepL (stepT s ++ r) = some (s, r) := by
  obtain ⟨h1, h2⟩ := h
  have hmk : (markL 64 (stepT s ++ r)).isSome = s.isAttr ∧ (markL 64 (stepT s ++ r)).getD (stepT s ++ r) = s.name.data.toList ++ (predsT s.preds ++ r) := by
    unfold stepT
    cases ha : s.isAttr
    · simp only [Bool.false_eq_true, if_false, List.nil_append, List.append_assoc]
      have : markL 64 (s.name.data.toList ++ (predsT s.preds ++ r)) = none := by
        rw [Lib.toList_data, Bool.or_eq_true, beq_iff_eq] at h2
        rcases h2 with h2 | h2
        · rw [h2]; exact mark_no (by decide) _
        · obtain ⟨c, l, e1, e2, _⟩ := name_list h2
          rw [e1]
          refine mark_no (fun e => ?_) _
          rw [e] at e2
          exact absurd e2 (by decide)
      rw [this]; exact ⟨rfl, rfl⟩
    · simp only [if_true, List.append_assoc, List.cons_append, List.nil_append]
      rw [mark_yes]; exact ⟨rfl, rfl⟩
  have hnm : nameL (s.name.data.toList ++ (predsT s.preds ++ r)) = (s.name.data.toList, predsT s.preds ++ r) ∧ s.name.data.toList ≠ [] := by
    rw [Lib.toList_data, Bool.or_eq_true, beq_iff_eq] at h2
    unfold nameL
    rcases h2 with h2 | h2
    · rw [h2]
      rw [List.singleton_append, mark_yes]
      exact ⟨rfl, by decide⟩
    · obtain ⟨c, l, e1, e2, _⟩ := name_list h2
      have hm : markL 42 (s.name.data.toList ++ (predsT s.preds ++ r)) = none := by
        rw [e1]
        refine mark_no (fun e => ?_) _
        rw [e] at e2
        exact absurd e2 (by decide)
      rw [hm]
      dsimp only
      rw [wordN_name h2 (step_end_word hr), List.take_left, List.drop_left]
      exact ⟨rfl, by rw [e1]; simp⟩
  unfold stepL
  rw [hmk.2, hnm.1, hmk.1]
  dsimp only
  rw [if_neg hnm.2, preds_back s.preds h1 r (fun t e => by rw [e] at hr; exact absurd (show (91 : UInt8) = 47 from hr) (by decide)) _ (by have := preds_len s.preds; simp; omega), bsOf_toList]
  rfl

theorem steps_back (l : List StepM) (h : ∀ s ∈ l, goodS s) (hl : l ≠ []) (f : Nat) (hf : l.length ≤ f) : stepsL f (Lib.join (l.map stepT) [47]) = some l := by
  induction l generalizing f with
  | nil => exact absurd rfl hl
  | cons s l ih =>
    obtain ⟨f, rfl⟩ : ∃ g, f = g + 1 := ⟨f - 1, by simp at hf; omega⟩
    have hs := h s (List.mem_cons_self ..)
    rw [List.map_cons, Lib.join_cons]
    unfold stepsL
    cases l with
    | nil =>
      have : Lib.joinTail [47] ([].map stepT) = [] := rfl
      rw [this, step_back hs [] trivial]
      rfl
    | cons s2 l =>
      have e : Lib.joinTail [47] ((s2 :: l).map stepT) = 47 :: Lib.join ((s2 :: l).map stepT) [47] := by
        rw [List.map_cons, Lib.join_cons]
        unfold Lib.joinTail
        simp
      rw [e, step_back hs (47 :: Lib.join ((s2 :: l).map stepT) [47]) (show (47 : UInt8) = 47 from rfl)]
      dsimp only
      rw [if_neg (by simp), mark_yes]
      dsimp only
      rw [ih (fun x hx => h x (List.mem_cons_of_mem _ hx)) (by simp) f (by simp at hf ⊢; omega)]
      rfl

theorem stepT_head {s : StepM} (h : goodS s) : ∃ c t, stepT s = c :: t ∧ c ≠ 46 := by
  unfold stepT
  cases ha : s.isAttr
  · simp only [Bool.false_eq_true, if_false, List.nil_append]
    have h2 := h.2
    rw [Lib.toList_data, Bool.or_eq_true, beq_iff_eq] at h2
    rcases h2 with h2 | h2
    · rw [h2]; exact ⟨42, _, rfl, by decide⟩
    · obtain ⟨c, l, e1, e2, _⟩ := name_list h2
      rw [e1]
      refine ⟨c, _, rfl, fun e => ?_⟩
      rw [e] at e2
      exact absurd e2 (by decide)
  · exact ⟨64, _, rfl, by decide⟩

theorem text_not_dot {l : List StepM} (h : ∀ s ∈ l, goodS s) (hl : l ≠ []) : Lib.join (l.map stepT) [47] ≠ [46] := by
  cases l with
  | nil => exact absurd rfl hl
  | cons s l =>
    obtain ⟨c, t, e1, e2⟩ := stepT_head (h s (List.mem_cons_self ..))
    rw [List.map_cons, Lib.join_cons, e1, List.cons_append]
    intro e
    exact e2 (List.cons.inj e).1

theorem joinTail_len (ls : List (List UInt8)) : ls.length ≤ (Lib.joinTail [47] ls).length := by
  induction ls with
  | nil => simp
  | cons x l ih =>
    have : Lib.joinTail [47] (x :: l) = 47 :: x ++ Lib.joinTail [47] l := by unfold Lib.joinTail; simp
    rw [this]; simp; omega
theorem join_len (ls : List (List UInt8)) : ls.length ≤ (Lib.join ls [47]).length + 1 := by
  cases ls with
  | nil => simp
  | cons x l => rw [Lib.join_cons]; have := joinTail_len l; simp; omega

/-- What is read of a path's text is the path. -/
theorem read_text (l : List StepM) (h : ∀ s ∈ l, goodS s) : (if textM l = [46] then some [] else stepsL ((textM l).length + 1) (textM l)) = some l := by
  by_cases hl : l = []
  · subst hl; unfold textM; rw [if_pos rfl, if_pos rfl]
  · have e : textM l = Lib.join (l.map stepT) [47] := by unfold textM; rw [if_neg hl]
    rw [e, if_neg (text_not_dot h hl), steps_back l h hl _ (by have := join_len (l.map stepT); simp at this; omega)]

theorem good_of_check {l : List StepM} (h1 : formedM l = true) (h2 : (l.any fun s => !namedS s) = false) : ∀ s ∈ l, goodS s := by
  intro s hs
  have hn : namedS s = true := by
    rw [List.any_eq_false] at h2
    have := h2 s hs
    simpa using this
  obtain ⟨k, hk, rfl⟩ := List.getElem_of_mem hs
  unfold formedM at h1
  rw [List.all_eq_true] at h1
  have hf := h1 k (List.mem_range.2 hk)
  rw [List.getElem?_eq_getElem hk, Option.map_some, Option.getD_some] at hf
  unfold okStep at hf
  unfold namedS at hn
  rw [Bool.and_eq_true] at hf hn
  rw [List.all_eq_true] at hf hn
  exact ⟨fun q hq => ⟨hf.2 q hq, hn.1 q hq⟩, hn.2⟩

/-- Values of up to 80 bytes. -/
def smallV (l : List StepM) : Prop := ∀ s ∈ l, ∀ q ∈ s.preds, q.value.size ≤ 80

theorem digits_len {u : Nat} (h2 : u < 10000) : (Lib.decDigits u).length ≤ 4 := by
  by_cases a1 : u < 10
  · rw [decDigits_lt a1]; simp
  rw [decDigits_ge a1]
  by_cases a2 : u / 10 < 10
  · rw [decDigits_lt a2]; simp
  rw [decDigits_ge a2]
  by_cases a3 : u / 10 / 10 < 10
  · rw [decDigits_lt a3]; simp
  rw [decDigits_ge a3, decDigits_lt (by omega)]
  simp
theorem predT_len {q : PredM} (h : goodP q) (hv : q.value.size ≤ 80) : (predT q).length ≤ 150 := by
  obtain ⟨h1, h2⟩ := h
  unfold formedP at h1
  rw [Lib.toList_data] at h1 h2
  unfold predT
  cases he : q.attr.data.toList.isEmpty
  · rw [he] at h1 h2
    simp only [Bool.false_eq_true, if_false, Bool.false_or, Bool.and_eq_true, beq_iff_eq] at h1 h2
    rw [if_neg (by simpa using h1.1)]
    obtain ⟨c, l, _, _, _, h6⟩ := name_list h2
    have e1 : q.attr.data.toList.length = q.attr.size := by rw [Array.length_toList]; rfl
    have e2 : q.value.data.toList.length = q.value.size := by rw [Array.length_toList]; rfl
    simp only [List.length_cons, List.length_append, e1, e2, List.length_nil]
    omega
  · rw [he] at h1
    simp only [if_true, Bool.and_eq_true, decide_eq_true_eq] at h1
    rw [if_pos (by omega)]
    have hi : Lib.itoa q.place = Lib.decDigits q.place.toNat := by unfold Lib.itoa; rw [if_neg (by omega)]
    rw [hi]
    have := digits_len (u := q.place.toNat) (by omega)
    simp; omega
theorem flat_len {α : Type} (f : α → List UInt8) (n : Nat) (l : List α) (h : ∀ x ∈ l, (f x).length ≤ n) : ((l.map f).flatten).length ≤ l.length * n := by
  induction l with
  | nil => simp
  | cons x l ih =>
    have h1 := h x (List.mem_cons_self ..)
    have h2 := ih (fun y hy => h y (List.mem_cons_of_mem _ hy))
    have : (x :: l).length * n = l.length * n + n := by rw [List.length_cons, Nat.add_mul]; omega
    rw [this, List.map_cons, List.flatten_cons, List.length_append]; omega
theorem stepT_len {s : StepM} (h : goodS s) (hv : ∀ q ∈ s.preds, q.value.size ≤ 80) (hp : s.preds.length ≤ 8) : (stepT s).length ≤ 1265 := by
  have h1 : (predsT s.preds).length ≤ s.preds.length * 150 := flat_len predT 150 s.preds fun q hq => predT_len (h.1 q hq) (hv q hq)
  have h3 : s.name.data.toList.length ≤ 64 := by
    have h2 := h.2
    rw [Lib.toList_data, Bool.or_eq_true, beq_iff_eq] at h2
    rcases h2 with h2 | h2
    · rw [h2]; decide
    · obtain ⟨c, l, _, _, _, h6⟩ := name_list h2
      rw [Array.length_toList]; exact h6
  unfold stepT
  rw [List.length_append, List.length_append]
  have : (if s.isAttr = true then [(64 : UInt8)] else []).length ≤ 1 := by split <;> simp
  omega
theorem textM_len {l : List StepM} (h : ∀ s ∈ l, goodS s) (hv : smallV l) (hp : ∀ s ∈ l, s.preds.length ≤ 8) (hl : l.length ≤ 32) : (textM l).length ≤ 65536 := by
  unfold textM
  split
  · simp
  · cases l with
    | nil => simp [Lib.join, List.intercalate]
    | cons s l =>
      rw [List.map_cons, Lib.join_cons]
      have h1 := stepT_len (h s (List.mem_cons_self ..)) (hv s (List.mem_cons_self ..)) (hp s (List.mem_cons_self ..))
      have h2 : (Lib.joinTail [47] (l.map stepT)).length ≤ (l.map stepT).length * 1266 := by
        refine flat_len ([47] ++ ·) 1266 _ fun x hx => ?_
        obtain ⟨y, hy, rfl⟩ := List.mem_map.1 hx
        have := stepT_len (h y (List.mem_cons_of_mem _ hy)) (hv y (List.mem_cons_of_mem _ hy)) (hp y (List.mem_cons_of_mem _ hy))
        simp; omega
      simp only [List.length_map] at h2
      simp only [List.length_cons] at hl
      rw [List.length_append]; omega

theorem pcheck_ok {l : List StepM} (h : pcheckM l = 0) : l.length ≤ 32 ∧ (∀ s ∈ l, s.preds.length ≤ 8) ∧ formedM l = true ∧ (l.any fun s => !namedS s) = false := by
  unfold pcheckM at h
  by_cases h1 : (decide (32 < l.length) || l.any manyP) = true
  · rw [if_pos h1] at h; simp at h
  rw [if_neg h1] at h
  by_cases h2 : formedM l = false
  · rw [if_pos h2] at h; simp at h
  rw [if_neg h2] at h
  by_cases h3 : (l.any fun s => !namedS s) = true
  · rw [if_pos h3] at h; simp at h
  simp only [Bool.not_eq_true, Bool.or_eq_false_iff, decide_eq_false_iff_not, List.any_eq_false] at h1
  refine ⟨by omega, fun s hs => ?_, by simpa using h2, by simpa using h3⟩
  have := h1.2 s hs
  unfold manyP at this
  simp at this
  exact this

/-- Parse of a path's text is the path. -/
theorem parse_text {l : List StepM} (h : pcheckM l = 0) (hv : smallV l) : parseM (bsOf (textM l)) = .ok l := by
  obtain ⟨h1, h2, h3, h4⟩ := pcheck_ok h
  have hg := good_of_check h3 h4
  have hb : (bsOf (textM l)).data.toList = textM l := rfl
  have hz : (bsOf (textM l)).size = (textM l).length := by show (textM l).toArray.size = _; simp
  rw [parseM_some (l := l) (by rw [hz]; have := textM_len hg hv h2 h1; omega) (by rw [hb, hz]; exact read_text l hg), if_pos h]

end Go.Proofs.YtoknglpfchjbjaaGreatDoor
