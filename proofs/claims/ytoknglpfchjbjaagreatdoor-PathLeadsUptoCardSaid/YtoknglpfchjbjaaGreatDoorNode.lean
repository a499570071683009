/- Nodes with their paths, rows of them; slices.Clone of ints, a step's fits, a predicate's question. Conditions: none. -/
import Derived.Test.YtoknglpfchjbjaaGreatDoorPathData
import Derived.Test.YtoknglpfchjbjaaGreatDoorTreeVal
import Derived.Test.YtoknglpfchjbjaaGreatDoorStack
import Derived.Test.YtoknglpfchjbjaaGreatDoorRegionX
import Derived.Test.YtoknglpfchjbjaaGreatDoorWalkKeep
import Derived.Lib.SliceRun
import Derived.Maps.AppendAt
import Derived.Laws.AppendOwnNone
namespace Go.Proofs.YtoknglpfchjbjaaGreatDoor
open Go.RowKit Go.Sp Go.Maps

/-- A node and its path. -/
abbrev NX := List Int × TT
def nodeS (n : Nat) : Shape NX where
  sz := 5
  rep F w vs x := ∃ a c rest, vs = .slice a x.1.length c :: rest ∧ Sl (Shape.int .i64) F w a x.1 ∧ (treeS n).rep F w rest x.2
  len := by
    rintro F w vs x ⟨a, c, rest, rfl, _, h⟩
    have := (treeS n).len h
    rw [treeS_sz] at this
    simp [this]
  frame := by rintro F w w' vs x ⟨a, c, rest, rfl, h1, h2⟩ hw; exact ⟨a, c, rest, rfl, h1.frame hw, (treeS n).frame h2 hw⟩
  mono := by rintro F G w vs x ⟨a, c, rest, rfl, h1, h2⟩ hF; exact ⟨a, c, rest, rfl, h1.mono hF, (treeS n).mono h2 hF⟩
theorem node_parts {n : Nat} {F : Nat → Prop} {w : World} {vs : List Value} {x : NX} (h : (nodeS n).rep F w vs x) :
    ∃ a c aa ca ka ck, vs = [.slice a x.1.length c, .string x.2.label, .string x.2.text, .slice aa x.2.attrs.length ca, .slice ka x.2.kids.length ck] ∧ Sl (Shape.int .i64) F w a x.1 ∧
      (treeS n).rep F w [.string x.2.label, .string x.2.text, .slice aa x.2.attrs.length ca, .slice ka x.2.kids.length ck] x.2 := by
  obtain ⟨a, c, rest, rfl, h1, h2⟩ := h
  cases n with
  | zero => exact h2.elim
  | succ n =>
    have h2' := h2
    obtain ⟨q1, aa, ca, ka, ck, rfl, q2, q3⟩ := tree_open h2
    exact ⟨a, c, aa, ca, ka, ck, rfl, h1, h2'⟩

theorem treeS_parts {n : Nat} {F : Nat → Prop} {w : World} {vs : List Value} {T : TT} (h : (treeS n).rep F w vs T) :
    (T.label.size ≤ maxLen ∧ T.text.size ≤ maxLen ∧ T.attrs.length ≤ maxLen ∧ T.kids.length ≤ maxLen) ∧ ∃ aa ca ka ck, vs = [.string T.label, .string T.text, .slice aa T.attrs.length ca, .slice ka T.kids.length ck] ∧ Sl attrS F w aa T.attrs ∧ Sl (treeS (n - 1)) F w ka T.kids := by
  cases n with
  | zero => exact h.elim
  | succ n => exact tree_open h

/-- A block of cells. -/
def Cel (w : World) (b : Nat) : Prop := ∃ o, w.heap[b]? = some o ∧ o.isCells = true
theorem cel_of_cell {w : World} {b o : Nat} {v : Value} (h : w.cell? ⟨b, o, none⟩ = some v) : Cel w b := by
  unfold World.cell? at h
  cases hb : w.heap[b]? with
  | none => rw [hb] at h; simp at h
  | some x =>
    refine ⟨x, hb, ?_⟩
    rw [hb] at h
    cases x <;> simp at h <;> rfl
theorem Cel.lt {w : World} {b : Nat} (h : Cel w b) : b < w.heap.size := by
  obtain ⟨o, h, _⟩ := h
  exact (Array.getElem?_eq_some_iff.1 h).1
/-- Blocks of cells that the call itself made, but a row. -/
def Rest (base : Nat) (w : World) (v : Value) (b : Nat) : Prop := base ≤ b ∧ Cel w b ∧ some b ≠ v.ownBlock
/-- A row of nodes that the call owns. -/
structure NodesRow (n : Nat) (F : Nat → Prop) (base : Nat) (w : World) (v : Value) (L : List (List Value × NX)) : Prop where
  row : w.ownsRow base 117 5 v L.length (L.flatMap (·.1))
  els : ∀ x ∈ L, (nodeS n).rep (fun b => F b ∨ Rest base w v b) w x.1 x.2

theorem NodesRow.nil (n : Nat) (F : Nat → Prop) (base : Nat) (w : World) : NodesRow n F base w (.slice none 0 0) [] := ⟨World.ownsRow_nil _ _ _ _, by simp⟩
theorem NodesRow.le {n : Nat} {F : Nat → Prop} {base base' : Nat} {w : World} {v : Value} {L : List (List Value × NX)} (h : NodesRow n F base w v L) (hb : base' ≤ base) : NodesRow n F base' w v L :=
  ⟨Joins.ownsRow_le h.row hb, fun x hx => (nodeS n).mono (h.els x hx) (fun b hb' => hb'.imp id (fun h => ⟨Nat.le_trans hb h.1, h.2⟩))⟩
theorem NodesRow.keep {n : Nat} {F : Nat → Prop} {base : Nat} {w w' : World} {v : Value} {L : List (List Value × NX)} (h : NodesRow n F base w v L) (hF : ∀ b, F b → b < w.heap.size) (hb : Below w.heap.size w w') : NodesRow n F base w' v L := by
  refine ⟨own_same h.row (fun g hg => hb.block g (h.row.lt g hg).2), fun x hx => ?_⟩
  refine (nodeS n).mono ((nodeS n).frame (h.els x hx) (fun b hb' => ?_)) (fun b hb' => ?_)
  · rcases hb' with hb' | ⟨_, hb', _⟩
    · exact hb.block b (hF b hb')
    · exact hb.block b hb'.lt
  · rcases hb' with hb' | ⟨h1, ⟨o, h2, h3⟩, h4⟩
    · exact .inl hb'
    · exact .inr ⟨h1, ⟨o, (hb.block b (Array.getElem?_eq_some_iff.1 h2).1).trans h2, h3⟩, h4⟩
/-- One more node. -/
theorem NodesRow.more {n : Nat} {F : Nat → Prop} {base : Nat} {w w' : World} {v v' : Value} {L : List (List Value × NX)} (h : NodesRow n F base w v L) (hF : ∀ b, F b → b < w.heap.size ∧ (∀ g, v.ownBlock = some g → b ≠ g)) {x : List Value × NX}
    (hrow : w'.ownsRow base 117 5 v' (L.length + 1) (L.flatMap (·.1) ++ x.1)) (hg : w.grownBy w' v.ownBlock) (hown : v'.ownBlock = v.ownBlock ∨ ∃ g, v'.ownBlock = some g ∧ w.heap.size ≤ g)
    (hx : (nodeS n).rep (fun b => F b ∨ Rest base w v b) w x.1 x.2) : NodesRow n F base w' v' (L ++ [x]) := by
  have hkeep : ∀ b, (F b ∨ Rest base w v b) → w'.heap[b]? = w.heap[b]? := by
    rintro b (hb | ⟨_, hb, hne⟩)
    · exact hg.block b (hF b hb).1 (fun e => (hF b hb).2 b e.symm rfl)
    · exact hg.block b hb.lt hne
  have hmono : ∀ b, (F b ∨ Rest base w v b) → (F b ∨ Rest base w' v' b) := by
    rintro b (hb | ⟨h1, ⟨o, h2, h3⟩, h4⟩)
    · exact .inl hb
    · refine .inr ⟨h1, ⟨o, (hkeep b (.inr ⟨h1, ⟨o, h2, h3⟩, h4⟩)).trans h2, h3⟩, fun e => ?_⟩
      rcases hown with ho | ⟨g, ho, hg'⟩
      · exact h4 (e.trans ho)
      · rw [ho] at e
        have := (Array.getElem?_eq_some_iff.1 h2).1
        have := Option.some.inj e
        omega
  refine ⟨by simpa using hrow, fun y hy => ?_⟩
  rcases List.mem_append.1 hy with hy | hy
  · exact (nodeS n).mono ((nodeS n).frame (h.els y hy) hkeep) hmono
  · rw [List.mem_singleton.1 hy]
    exact (nodeS n).mono ((nodeS n).frame hx hkeep) hmono

theorem infoIntC : (Tryz.prog.info? 3).map (fun i => (i.zero, i.size, i.bytes)) = some (some (.int .i64 0), 1, 8) := by kernel_rfl

theorem ints_news {F : Nat → Prop} {w : World} {a : Addr} {xs : List Int} (h : Sl (Shape.int .i64) F w (some a) xs) : ∀ j u, (xs.map (Value.int .i64))[j]? = some u → w.cell? (a.add j) = some u := by
  intro j u hu
  rw [List.getElem?_map] at hu
  obtain ⟨x, hx, rfl⟩ := Option.map_eq_some_iff.1 hu
  obtain ⟨hj, he⟩ := List.getElem?_eq_some_iff.1 hx
  obtain ⟨b, o, hab, _, hc⟩ := h.int_cell j hj
  cases hab
  have hadd : (⟨b, o, none⟩ : Addr).add j = ⟨b, o + j, none⟩ := by unfold Addr.add; split <;> simp_all
  rw [hadd, hc, he]

set_option maxRecDepth 100000 in
theorem clone_any (F : Nat → Prop) (a : Option Addr) (c : Nat) (xs : List Int) (w : World) (hxs : Sl (Shape.int .i64) F w a xs) (hF : ∀ k, F k → k < w.heap.size) (hlen : xs.length ≤ 100000) :
    Calls Tryz.prog 74 #[.slice a xs.length c] w fun e w' => ∃ v, e = .returned v ∧ w'.ownsRow w.heap.size 3 1 v xs.length (xs.map (Value.int .i64)) ∧ Below w.heap.size w w' := by
  obtain ⟨i0, hi0, hz0, hz1, hz2⟩ := info_parts infoIntC
  have heq := fun (w : World) => Lib.run_eql_slice_nil (P := Tryz.prog) w 51 3 a xs.length c 0 0 Tryz.underlying51
  cases a with
  | none =>
    have hx0 : xs = [] := by
      cases xs with
      | nil => rfl
      | cons x l => obtain ⟨_, _, _, h, _⟩ := hxs 0 (by simp); cases h
    subst hx0
    simp only [Option.isNone_none, List.length_nil] at heq
    go_enter Tryz.func74, Tryz.ntmps74
    go_wp2
    go_ret
    exact ⟨_, rfl, World.ownsRow_nil _ _ _ _, Below.refl _ _⟩
  | some a =>
    have HX := Sp.hid hxs
    have HF := Sp.hid hF
    clear hxs hF
    simp only [Option.isNone_some] at heq
    go_enter Tryz.func74, Tryz.ntmps74
    have hrow : (w.alloc (.cells #[] 3)).ownsRow w.heap.size 3 1 (.slice (some ⟨w.heap.size, 0, none⟩) 0 0) 0 [] := World.ownsRow_made w #[] 0 (Nat.le_refl _) (by decide) (by simp)
    have HROW := Sp.hid hrow
    clear hrow
    go_wp2_with (at_builtin; refine wpList_append_own_at _ rfl _ _ 51 rfl w.heap.size 3 i0 (.int .i64 0) 1 8 Tryz.underlying51 hi0 hz0 hz1 hz2 rfl (by decide) _ _ _ rfl HROW.out a xs.length c (xs.map (Value.int .i64)) rfl ?c1 ?c2 ?c3 ?c4 ?c5 ?c6 ?c7)
    case c1 => simp
    case c2 => exact ints_news (HX.out.frame (fun k hk => Below.heap_alloc _ _ _ (HF.out k hk)))
    case c3 => intro u hu; obtain ⟨y, _, rfl⟩ := List.mem_map.1 hu; rfl
    case c4 => unfold maxLen; omega
    case c5 => omega
    case c6 => simp
    case c7 =>
      intro v' w2 hown' hgrow _ _
      have hb2 : Below w.heap.size w w2 := ((Below.refl _ _).alloc (Nat.le_refl _) _).grown hgrow (by simp) (fun j hj => (HROW.out.lt j hj).1)
      have HO := Sp.hid hown'
      have HB2 := Sp.hid hb2
      clear hown' hgrow hb2
      go_wp2
      go_ret
      exact ⟨_, rfl, by simpa using HO.out, HB2.out⟩

set_option maxRecDepth 100000 in
theorem fits_any (s : StepM) (pa : Option Addr) (pc : Nat) (name : ByteArray) (w : World) :
    Calls Tryz.prog 75 #[.agg #[.bool s.isAttr, .string s.name, .slice pa s.preds.length pc], .string name] w fun e w' => e = .returned (.bool (s.name.toList == [42] || s.name.toList == name.toList)) ∧ Below w.heap.size w w' := by
  obtain ⟨sa, sn, sp⟩ := s
  dsimp only
  obtain ⟨v, hv⟩ : ∃ v, v = (sn.toList == [42] || sn.toList == name.toList) := ⟨_, rfl⟩
  rw [← hv]
  cases h1 : (sn.toList == [42])
  · rw [h1, Bool.false_or] at hv
    cases h2 : (sn.toList == name.toList)
    all_goals
      rw [h2] at hv
      subst hv
      go_enter Tryz.func75, Tryz.ntmps75
      go_wp2
      go_ret
      exact ⟨rfl, (Below.refl _ _).alloc (Nat.le_refl _) _⟩
  · rw [h1, Bool.true_or] at hv
    subst hv
    go_enter Tryz.func75, Tryz.ntmps75
    go_wp2
    go_ret
    exact ⟨rfl, (Below.refl _ _).alloc (Nat.le_refl _) _⟩

abbrev predV (q : PredM) : Value := .agg #[.string q.attr, .string q.value, .int .i64 q.place]
/-- What a predicate asks. -/
def asks (q : PredM) (place : Int) (T : TT) : Bool := if q.place == 0 then (attrV T.attrs q.attr).isSome && ((attrV T.attrs q.attr).getD ⟨#[]⟩).toList == q.value.toList else place == q.place
def askF (q : PredM) : Nat := if q.place == 0 then 107 else 106

set_option maxRecDepth 100000 in
theorem question_any (q : PredM) (w : World) :
    Calls Tryz.prog 91 #[predV q] w fun e w' => e = .returned (.func (.func (askF q)) #[predV q] #[]) ∧ Below w.heap.size w w' := by
  obtain ⟨qa, qv, qp⟩ := q
  unfold askF
  dsimp only [predV]
  cases h : (qp == 0)
  all_goals
    go_enter Tryz.func91, Tryz.ntmps91
    go_wp2
    go_ret
    exact ⟨rfl, (Below.refl _ _).alloc (Nat.le_refl _) _⟩

set_option maxRecDepth 100000 in
theorem asks_any (F : Nat → Prop) (q : PredM) (place : Int) (l t : ByteArray) (aa ka : Option Addr) (xs : List (ByteArray × ByteArray)) (ca nk ck : Nat) (kids : List TT) (w : World) (hxs : Sl attrS F w aa xs) (hF : ∀ k, F k → k < w.heap.size) (hlen : xs.length ≤ 9223372036854775807) :
    Calls Tryz.prog (askF q) #[predV q, .int .i64 place, .agg #[.string l, .string t, .slice aa xs.length ca, .slice ka nk ck]] w fun e w' => e = .returned (.bool (asks q place (.mk l t xs kids))) ∧ Below w.heap.size w w' := by
  obtain ⟨qa, qv, qp⟩ := q
  unfold askF asks
  dsimp only [predV, TT.attrs]
  have hb0 : Below w.heap.size w ((w.alloc (.cells #[.string qa, .string qv, .int .i64 qp] 70)).alloc (.cells #[.string l, .string t, .slice aa xs.length ca, .slice ka nk ck] 29)) := ((Below.refl _ _).alloc (Nat.le_refl _) _).alloc (by simp) _
  have HB0 := Sp.hid hb0
  have HV := Sp.hid (value_any F l t qa aa ka xs ca nk ck _ (hxs.below hF hb0) (fun k hk => Nat.lt_of_lt_of_le (hF k hk) hb0.size) hlen)
  obtain ⟨vv, hvv⟩ : ∃ vv, vv = attrV xs qa := ⟨_, rfl⟩
  rw [← hvv] at HV ⊢
  clear hb0 hxs hF hvv
  cases h : (qp == 0)
  · cases h2 : (place == qp)
    all_goals
      go_enter Tryz.func106, Tryz.ntmps106
      go_wp2
      go_ret
      exact ⟨rfl, HB0.out⟩
  · go_enter Tryz.func107, Tryz.ntmps107
    go_wp2_with fail
    refine HV.out.mono ?_
    rintro e w1 ⟨rfl, hb1⟩
    have hs1 := hb1.size
    simp only [World.size_alloc] at hs1
    have c1 : w1.cell? ⟨w.heap.size, 1, none⟩ = some (.string qv) := by rw [hb1.cell (p := ⟨w.heap.size, 1, none⟩) (by simp; omega)]; simp
    have hwl : w.heap.size < w1.heap.size := by omega
    have HB1 := Sp.hid (HB0.out.trans (hb1.mono (by simp; omega)))
    clear hb1
    cases vv with
    | none =>
      go_wp2
      go_ret
      exact ⟨rfl, HB1.out⟩
    | some v =>
      cases h2 : (v.toList == qv.toList)
      all_goals
        go_wp2
        go_ret
        exact ⟨by simp [h2], HB1.out⟩

end Go.Proofs.YtoknglpfchjbjaaGreatDoor
