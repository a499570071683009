/- Merged: What path.lead leads to, as data; what of memory stays while a loop's body runs; a region with one great operation · The region in which tree.Walk hands a node on: what has been done of it · path.lead: it hands whatever steps lead to from a node to a loop's body · path.lead at a step to attributes. Conditions: those of the parts. -/
import Derived.Test.YtoknglpfchjbjaaGreatDoorKids
import Derived.Test.YtoknglpfchjbjaaGreatDoorWalkKeep
import Derived.Test.YtoknglpfchjbjaaGreatDoorRegionX
import Derived.Test.YtoknglpfchjbjaaGreatDoorRows
import Derived.Maps.OwnIn
import Derived.Laws.AppendOwnNone
import Derived.OwnWalkIn
import Derived.Shelf.Abstract
import Derived.Shelf.RegionOpen
import Derived.TacticsInMore
import Derived.LoopNIn
import Derived.LoopIn
/- What path.lead leads to, as data; what of memory stays while a loop's body runs; a region with one great operation. Conditions: none. -/
namespace Go.Proofs.YtoknglpfchjbjaaGreatDoor
open Go.RowKit Go.Sp Go.Maps

/-- What steps lead to from a node. -/
def leadM : List StepM → NX → List (List Int × ByteArray)
  | [], x => [(x.1, ⟨#[]⟩)]
  | s :: r, x => if s.isAttr then (x.2.attrs.filter fun a => fitsB s a.1).map fun a => (x.1, a.1) else (kidsM s x).flatMap (leadM r)

theorem thoseM_mem {q : PredM} {l : List NX} {x : NX} (h : x ∈ thoseM q l) : x ∈ l := thoseL_mem h
theorem kidsM_mem {s : StepM} {x y : NX} (h : y ∈ kidsM s x) : y.2 ∈ x.2.kids ∧ y.1.length = x.1.length + 1 ∧ goodKid s y.2 = true := by
  unfold kidsM at h
  have main : ∀ (ps : List PredM) (l : List NX), (∀ z ∈ l, z.2 ∈ x.2.kids ∧ z.1.length = x.1.length + 1 ∧ goodKid s z.2 = true) → ∀ z ∈ ps.foldl (fun l q => thoseM q l) l, z.2 ∈ x.2.kids ∧ z.1.length = x.1.length + 1 ∧ goodKid s z.2 = true := by
    intro ps
    induction ps with
    | nil => exact fun l h => h
    | cons p ps ih => exact fun l hl => ih _ fun z hz => hl z (thoseM_mem hz)
  refine main s.preds _ (fun z hz => ?_) y h
  unfold kids0 at hz
  obtain ⟨i, _, hi⟩ := List.mem_filterMap.1 hz
  cases hk : x.2.kids[i]? with
  | none => rw [hk] at hi; cases hi
  | some t =>
    rw [hk, Option.bind_some] at hi
    split at hi
    · rename_i hg
      cases hi
      exact ⟨List.mem_of_getElem? hk, by simp, hg⟩
    · cases hi

theorem nodes_kids {m : Nat} {T kid : TT} (h : kid ∈ T.kids) : (nodesM m kid).length ≤ (nodesM (m + 1) T).length ∧ T.kids.length ≤ (T.kids.flatMap (nodesM m)).length + if m = 0 then T.kids.length else 0 := by
  constructor
  · show _ ≤ (T :: T.kids.flatMap (nodesM m)).length
    have : (nodesM m kid).length ≤ (T.kids.flatMap (nodesM m)).length := by
      generalize T.kids = l at h ⊢
      induction l with
      | nil => simp at h
      | cons x l ih =>
        rw [List.flatMap_cons, List.length_append]
        rcases List.mem_cons.1 h with rfl | h
        · omega
        · have := ih h; omega
    simp only [List.length_cons]
    omega
  · cases m with
    | zero => simp
    | succ m =>
      simp only [Nat.add_one_ne_zero, if_false, Nat.add_zero]
      clear h
      generalize T.kids = l
      induction l with
      | nil => simp
      | cons x l ih =>
        rw [List.flatMap_cons, List.length_append, List.length_cons]
        have : 1 ≤ (nodesM (m + 1) x).length := by simp [nodesM]
        omega

/-- What stays while a loop's body runs. -/
def SafeB (n₀ B nb : Nat) (W : World) (b : Nat) : Prop := b < n₀ ∨ (B ≤ b ∧ Cel W b ∧ some b ≠ rowOf nb W)
theorem SafeB.keep {n₀ B nb b : Nat} {W W' : World} (h : SafeB n₀ B nb W b) (hk : WKeeps n₀ B nb W W') : W'.heap[b]? = W.heap[b]? ∧ SafeB n₀ B nb W' b := by
  rcases h with h | ⟨h1, ⟨o, h2, h3⟩, h4⟩
  · exact ⟨hk.low.block b h, .inl h⟩
  · have h5 := hk.cells b o h1 h2 h3 h4
    refine ⟨h5.trans h2.symm, .inr ⟨h1, ⟨o, h5, h3⟩, ?_⟩⟩
    have hlt := (Array.getElem?_eq_some_iff.1 h2).1
    rcases hk.row with e | ⟨g, e, hg, _⟩
    · rw [e]; exact h4
    · rw [e]; intro e'; cases e'; omega
theorem SafeB.lt {n₀ B nb b : Nat} {W : World} (h : SafeB n₀ B nb W b) (hn : n₀ ≤ B) (hB : B ≤ W.heap.size) : b < W.heap.size := by
  rcases h with h | ⟨_, h, _⟩
  · omega
  · exact h.lt
theorem rep_keep {α : Type} (S : Shape α) {n₀ B nb : Nat} {W W' : World} {vs : List Value} {x : α} (h : S.rep (SafeB n₀ B nb W) W vs x) (hk : WKeeps n₀ B nb W W') : S.rep (SafeB n₀ B nb W') W' vs x :=
  S.mono (S.frame h fun b hb => (hb.keep hk).1) fun _ hb => (hb.keep hk).2
theorem sl_keep {α : Type} {S : Shape α} {n₀ B nb : Nat} {W W' : World} {a : Option Addr} {xs : List α} (h : Sl S (SafeB n₀ B nb W) W a xs) (hk : WKeeps n₀ B nb W W') : Sl S (SafeB n₀ B nb W') W' a xs :=
  (h.frame fun b hb => (hb.keep hk).1).mono fun _ hb => (hb.keep hk).2
theorem safe_fresh {n₀ B nb b base : Nat} {W : World} (hr : ∀ g, rowOf nb W = some g → g < base) (hB : B ≤ base) (h : base ≤ b) (hc : Cel W b) : SafeB n₀ B nb W b :=
  .inr ⟨Nat.le_trans hB h, hc, fun e => by have := hr b e.symm; omega⟩

/-- A node's cells in a row. -/
theorem nodeX_cells {m : Nat} {F : Nat → Prop} {w : World} {a : Option Addr} {xs : List NX} (h : Sl (nodeS m) F w a xs) (i : Nat) (hi : i < xs.length) :
    ∃ b o va vc aa ca ka ck, a = some ⟨b, o, none⟩ ∧ F b ∧ Sl (Shape.int .i64) F w va xs[i].1 ∧ (treeS m).rep F w [.string xs[i].2.label, .string xs[i].2.text, .slice aa xs[i].2.attrs.length ca, .slice ka xs[i].2.kids.length ck] xs[i].2 ∧
      w.cell? ⟨b, o + i * 5, none⟩ = some (.slice va xs[i].1.length vc) ∧ w.cell? ⟨b, o + i * 5 + 1, none⟩ = some (.string xs[i].2.label) ∧ w.cell? ⟨b, o + i * 5 + 2, none⟩ = some (.string xs[i].2.text) ∧
      w.cell? ⟨b, o + i * 5 + 3, none⟩ = some (.slice aa xs[i].2.attrs.length ca) ∧ w.cell? ⟨b, o + i * 5 + 4, none⟩ = some (.slice ka xs[i].2.kids.length ck) := by
  obtain ⟨b, o, vs, h1, h2, h3, h4⟩ := h i hi
  obtain ⟨va, vc, aa, ca, ka, ck, rfl, h5, h6⟩ := node_parts h3
  exact ⟨b, o, va, vc, aa, ca, ka, ck, h1, h2, h5, h6, h4 0 (by simp), h4 1 (by simp), h4 2 (by simp), h4 3 (by simp), h4 4 (by simp)⟩

/-- A region whose operations but one leave old memory alone. s: the one · Fc: what each other operation's value is good for · After: what holds behind the one. -/
def YInv (W0 : World) (s : Nat) (Fc : Nat → Value → World → Prop) (After : (Nat → Bool) → (Nat → Value) → World → Prop) (L : Nat → Bool) (u : Nat → Value) (w : World) : Prop :=
  (L s = false ∧ Below W0.heap.size W0 w ∧ ∀ i, L i = true → Fc i (u i) w) ∨ (L s = true ∧ After L u w)
section
variable {W0 : World} {s : Nat} {Fc : Nat → Value → World → Prop} {After : (Nat → Bool) → (Nat → Value) → World → Prop} {L : Nat → Bool} {u : Nat → Value} {w w' : World}
theorem yinv_start : YInv W0 s Fc After (fun _ => false) u W0.drew := .inl ⟨rfl, (Below.refl _ _).drew, by simp⟩
theorem yinv_first (h : YInv W0 s Fc After L u w) (hs : L s = false) : Below W0.heap.size W0 w ∧ ∀ i, L i = true → Fc i (u i) w := by
  rcases h with ⟨_, h1, h2⟩ | ⟨h1, _⟩
  · exact ⟨h1, h2⟩
  · rw [h1] at hs; cases hs
theorem yinv_step (hst : ∀ j v X Y, Below X.heap.size X Y → Fc j v X → Fc j v Y) (h : YInv W0 s Fc After L u w) (hs : L s = false) {i : Nat} (hi : i ≠ s) (hb : Below w.heap.size w w') {v : Value} (hv : Fc i v w') : YInv W0 s Fc After (updB L i) (updU u i v) w' := by
  obtain ⟨h1, h2⟩ := yinv_first h hs
  refine .inl ⟨by unfold updB; rw [if_neg (fun e => hi e.symm)]; exact hs, h1.trans (hb.mono h1.size), fun j hj => ?_⟩
  by_cases hji : j = i
  · subst hji; unfold updU; rw [if_pos rfl]; exact hv
  · unfold updB at hj; rw [if_neg hji] at hj
    unfold updU; rw [if_neg hji]
    exact hst j _ _ _ hb (h2 j hj)
theorem yinv_one (h : YInv W0 s Fc After L u w) (hs : L s = false) {v : Value} (ha : After (updB L s) (updU u s v) w') : YInv W0 s Fc After (updB L s) (updU u s v) w' := .inr ⟨by unfold updB; rw [if_pos rfl], ha⟩
theorem yinv_done (h : YInv W0 s Fc After L u w) (hs : L s = true) : After L u w := by
  rcases h with ⟨h1, _⟩ | ⟨_, h2⟩
  · rw [h1] at hs; cases hs
  · exact h2
theorem yinv_later (h : YInv W0 s Fc After L u w) (hs : L s = true) {i : Nat} (hi : i ≠ s) {v : Value} (ha : After (updB L i) (updU u i v) w) : YInv W0 s Fc After (updB L i) (updU u i v) w :=
  .inr ⟨by unfold updB; rw [if_neg (fun e => hi e.symm)]; exact hs, ha⟩
end

end Go.Proofs.YtoknglpfchjbjaaGreatDoor

/- The region in which tree.Walk hands a node on: what has been done of it. Conditions: none. -/
namespace Go.Proofs.YtoknglpfchjbjaaGreatDoor
open Go.RowKit Go.Sp

theorem infoIntT : (Tryz.prog.info? 3).map (fun i => (i.zero, i.size, i.bytes)) = some (some (.int .i64 0), 1, 8) := by kernel_rfl

theorem wpListIn_append_own_none {F : Fence} {nF : Nat} {P : Program} {w : World} {ops : Array Oper} {rest : List Oper} {o : Oper} {a : Act} {Q : Exit → Act → World → Prop} (hgd : o.guard = none) (s x : Operand) (t : TypeId)
    (ho : o.op = .call { callee := .builtin .append, args := #[s, x], argTypes := #[t, t] })
    (base : Nat) (e : TypeId) (i : TypeInfo) (size : Nat) (ht : P.underlying t = some (.slice e)) (hi : P.info? e = some i)
    (v : Value) (n : Nat) (xs : List Value) (hs : a.eval s = v) (hown : w.ownsRow base e size v n xs) (hx : a.eval x = .slice none 0 0)
    (h : wpListIn F nF P ops Q rest (a.put o.dst v) w) : wpListIn F nF P ops Q (o :: rest) a w := by
  refine wpListIn_plain hgd fun K hK => ?_
  have hrun := run_append_owned_none (P := P) (w := w) base t o.type e i size ht hi v n xs hown
  unfold Oper.wpIn
  refine ⟨by simp [Oper.about, ho, resolve, Target.leads, Sem.run_pure], ?_⟩
  rw [Oper.semAt_plain F _ _ (by rw [ho]; intro c hc'; cases hc')]
  simp [execOp, ho, resolve, invoke, builtin, hs, hx, hrun, Result.andThen]
  exact hK _ _ h

theorem path_list {W : World} {b o : Nat} : ∀ {m : Nat}, (∀ j, j < m → ∃ i : Int, W.cell? ⟨b, o + j, none⟩ = some (.int .i64 i)) → ∃ ys : List Int, ys.length = m ∧ ∀ j (hj : j < ys.length), W.cell? ⟨b, o + j, none⟩ = some (.int .i64 ys[j])
  | 0, _ => ⟨[], rfl, fun j hj => by simp at hj⟩
  | m + 1, h => by
    obtain ⟨ys, h1, h2⟩ := path_list (fun j hj => h j (Nat.lt_succ_of_lt hj))
    obtain ⟨i, hi⟩ := h m (Nat.lt_succ_self m)
    refine ⟨ys ++ [i], by simp [h1], fun j hj => ?_⟩
    by_cases hjm : j < ys.length
    · rw [List.getElem_append_left hjm]; exact h2 j hjm
    · have hjm' : j = m := by simp at hj; omega
      subst hjm'
      rw [hi, List.getElem_append_right (by omega)]
      simp
theorem path_news {W : World} {b o : Nat} {ys : List Int} (h : ∀ j (hj : j < ys.length), W.cell? ⟨b, o + j, none⟩ = some (.int .i64 ys[j])) : ∀ j u, (ys.map (Value.int .i64))[j]? = some u → W.cell? ((⟨b, o, none⟩ : Addr).add j) = some u := by
  intro j u hj
  rw [List.getElem?_map] at hj
  have hjl : j < ys.length := by
    rcases Nat.lt_or_ge j ys.length with h | h
    · exact h
    · rw [List.getElem?_eq_none h] at hj; cases hj
  rw [List.getElem?_eq_getElem hjl] at hj
  cases hj
  have hadd : (⟨b, o, none⟩ : Addr).add j = ⟨b, o + j, none⟩ := by unfold Addr.add; split <;> simp_all
  rw [hadd]
  exact h j hjl

/-- Ahead of the call, or behind it. -/
def Inv8 (After : Bool → World → Prop) (w0 : World) (n : Nat) (yv : Value) (k : Nat) (pv nv : Value) (L : Nat → Bool) (u : Nat → Value) (w : World) : Prop :=
  (L 6 = false ∧ L 7 = false ∧ Below w0.heap.size w0 w ∧ (L 0 = true → u 0 = yv) ∧ (L 1 = true → u 1 = .int .i64 (k : Nat)) ∧
    (L 2 = true → L 1 = true ∧ (L 4 = false → w.ownsRow w0.heap.size 3 1 (u 2) 1 [.int .i64 (k : Nat)])) ∧ (L 3 = true → u 3 = pv) ∧ (L 4 = true → L 2 = true ∧ L 3 = true ∧ PathAt (n + 1) w (u 4)) ∧ (L 5 = true → u 5 = nv)) ∨
  (L 6 = true ∧ (∀ i, i < 6 → L i = true) ∧ ∃ bb, u 6 = .bool bb ∧ After bb w ∧ (L 7 = true → u 7 = .bool !bb))

section
variable {After : Bool → World → Prop} {w0 : World} {n : Nat} {yv : Value} {k : Nat} {pv nv : Value} {L : Nat → Bool} {u : Nat → Value} {w : World}
theorem inv8_start : Inv8 After w0 n yv k pv nv (fun _ => false) u w0.drew := .inl ⟨rfl, rfl, (Below.refl _ _).drew, by simp, by simp, by simp, by simp, by simp, by simp⟩
/-- Ahead of the call. -/
theorem inv8_first {i : Nat} (hi : i < 6) (hL : L i = false) (h : Inv8 After w0 n yv k pv nv L u w) : L 6 = false ∧ L 7 = false ∧ Below w0.heap.size w0 w ∧ (L 0 = true → u 0 = yv) ∧ (L 1 = true → u 1 = .int .i64 (k : Nat)) ∧
    (L 2 = true → L 1 = true ∧ (L 4 = false → w.ownsRow w0.heap.size 3 1 (u 2) 1 [.int .i64 (k : Nat)])) ∧ (L 3 = true → u 3 = pv) ∧ (L 4 = true → L 2 = true ∧ L 3 = true ∧ PathAt (n + 1) w (u 4)) ∧ (L 5 = true → u 5 = nv) := by
  rcases h with h | ⟨_, h, _⟩
  · exact h
  · rw [h i hi] at hL; cases hL
theorem inv8_call (hL : L 6 = false) (h : Inv8 After w0 n yv k pv nv L u w) (h0 : L 0 = true) (h4 : L 4 = true) (h5 : L 5 = true) : Below w0.heap.size w0 w ∧ u 0 = yv ∧ PathAt (n + 1) w (u 4) ∧ u 5 = nv ∧ ∀ i, i < 6 → L i = true := by
  rcases h with ⟨_, _, h1, h2, h3, h6, h7, h8, h9⟩ | ⟨h, _⟩
  · refine ⟨h1, h2 h0, (h8 h4).2.2, h9 h5, fun i hi => ?_⟩
    have l2 := (h8 h4).1
    have l3 := (h8 h4).2.1
    have l1 := (h6 l2).1
    have : i = 0 ∨ i = 1 ∨ i = 2 ∨ i = 3 ∨ i = 4 ∨ i = 5 := by omega
    rcases this with rfl | rfl | rfl | rfl | rfl | rfl <;> assumption
  · rw [h] at hL; cases hL
theorem inv8_0 (hL : L 0 = false) (h : Inv8 After w0 n yv k pv nv L u w) : Inv8 After w0 n yv k pv nv (updB L 0) (updU u 0 yv) w := by
  obtain ⟨h1, h2, h3, h4, h5, h6, h7, h8, h9⟩ := inv8_first (by decide) hL h
  exact .inl ⟨h1, h2, h3, fun _ => rfl, h5, h6, h7, h8, h9⟩
theorem inv8_1 (hL : L 1 = false) (h : Inv8 After w0 n yv k pv nv L u w) : Inv8 After w0 n yv k pv nv (updB L 1) (updU u 1 (.int .i64 (k : Nat))) w := by
  obtain ⟨h1, h2, h3, h4, h5, h6, h7, h8, h9⟩ := inv8_first (by decide) hL h
  exact .inl ⟨h1, h2, h3, h4, fun _ => rfl, fun h => ⟨rfl, (h6 h).2⟩, h7, h8, h9⟩
theorem inv8_2 (hL : L 2 = false) (h : Inv8 After w0 n yv k pv nv L u w) (l1 : L 1 = true) {v : Value} {w' : World} (hb : Below w.heap.size w w') (hv : w'.ownsRow w0.heap.size 3 1 v 1 [.int .i64 (k : Nat)]) : Inv8 After w0 n yv k pv nv (updB L 2) (updU u 2 v) w' := by
  obtain ⟨h1, h2, h3, h4, h5, h6, h7, h8, h9⟩ := inv8_first (by decide) hL h
  exact .inl ⟨h1, h2, h3.trans (hb.mono h3.size), h4, h5, fun _ => ⟨l1, fun _ => hv⟩, h7, (fun h => by rw [(h8 h).1] at hL; cases hL), h9⟩
theorem inv8_3 (hL : L 3 = false) (h : Inv8 After w0 n yv k pv nv L u w) : Inv8 After w0 n yv k pv nv (updB L 3) (updU u 3 pv) w := by
  obtain ⟨h1, h2, h3, h4, h5, h6, h7, h8, h9⟩ := inv8_first (by decide) hL h
  exact .inl ⟨h1, h2, h3, h4, h5, h6, fun _ => rfl, fun h => ⟨(h8 h).1, rfl, (h8 h).2.2⟩, h9⟩
theorem inv8_4 (hL : L 4 = false) (h : Inv8 After w0 n yv k pv nv L u w) (l2 : L 2 = true) (l3 : L 3 = true) {v : Value} {w' : World} (hb : Below w0.heap.size w w') (hv : PathAt (n + 1) w' v) : Inv8 After w0 n yv k pv nv (updB L 4) (updU u 4 v) w' := by
  obtain ⟨h1, h2, h3, h4, h5, h6, h7, h8, h9⟩ := inv8_first (by decide) hL h
  exact .inl ⟨h1, h2, h3.trans hb, h4, h5, fun h => ⟨(h6 h).1, fun h' => by cases h'⟩, h7, fun _ => ⟨l2, l3, hv⟩, h9⟩
theorem inv8_5 (hL : L 5 = false) (h : Inv8 After w0 n yv k pv nv L u w) : Inv8 After w0 n yv k pv nv (updB L 5) (updU u 5 nv) w := by
  obtain ⟨h1, h2, h3, h4, h5, h6, h7, h8, h9⟩ := inv8_first (by decide) hL h
  exact .inl ⟨h1, h2, h3, h4, h5, h6, h7, h8, fun _ => rfl⟩
theorem inv8_6 (hL : L 6 = false) (h : Inv8 After w0 n yv k pv nv L u w) (hall : ∀ i, i < 6 → L i = true) {bb : Bool} {w' : World} (ha : After bb w') : Inv8 After w0 n yv k pv nv (updB L 6) (updU u 6 (.bool bb)) w' := by
  rcases h with ⟨_, h7, _⟩ | ⟨h, _⟩
  · refine .inr ⟨rfl, fun i hi => ?_, bb, rfl, ha, fun h => ?_⟩
    · unfold updB; rw [if_neg (by omega)]; exact hall i hi
    · have : L 7 = true := h
      rw [h7] at this; cases this
  · rw [h] at hL; cases hL
theorem inv8_done (hL : L 6 = true) (h : Inv8 After w0 n yv k pv nv L u w) : (∀ i, i < 6 → L i = true) ∧ ∃ bb, u 6 = .bool bb ∧ After bb w ∧ (L 7 = true → u 7 = .bool !bb) := by
  rcases h with ⟨h, _⟩ | ⟨_, h⟩
  · rw [h] at hL; cases hL
  · exact h
theorem inv8_7 (l6 : L 6 = true) (h : Inv8 After w0 n yv k pv nv L u w) {bb : Bool} (hb : u 6 = .bool bb) : Inv8 After w0 n yv k pv nv (updB L 7) (updU u 7 (.bool !bb)) w := by
  obtain ⟨h1, b', h2, h3, _⟩ := inv8_done l6 h
  rw [h2] at hb; cases hb
  exact .inr ⟨l6, fun i hi => by unfold updB; rw [if_neg (by omega)]; exact h1 i hi, bb, h2, h3, fun _ => rfl⟩
end

end Go.Proofs.YtoknglpfchjbjaaGreatDoor

/- path.lead: it hands whatever steps lead to from a node to a loop's body. Conditions: fewer than 2^12 nodes. -/
namespace Go.Proofs.YtoknglpfchjbjaaGreatDoor
open Go.RowKit Go.Sp Go.Maps

attribute [local go_sem] Oper.semAt_some

/-- What a loop over hits is handed: the path's slice, and the hit. -/
abbrev HX := Value × (List Int × ByteArray)
def encH (x : HX) : Array Value := #[.agg #[x.1, .string x.2.2]]
def GoodH (n₀ B nb : Nat) (x : HX) (W : World) : Prop := ∃ a c, x.1 = .slice a x.2.1.length c ∧ Sl (Shape.int .i64) (SafeB n₀ B nb W) W a x.2.1
def LeadPost (n₀ B nb C : Nat) (J Jx : List HX → World → Prop) (done total : List (List Int × ByteArray)) (W : World) (e : Ending) (W' : World) : Prop :=
  (e = .returned (.bool true) ∧ (∃ q : List HX, q.map (·.2) = done ∧ J q W') ∧ WKeeps n₀ B nb W W' ∧ KeepsFrom C W W') ∨ (e = .returned (.bool false) ∧ (∃ q : List HX, q.map (·.2) <+: total ∧ Jx q W') ∧ KeepsFrom C W W')
def YieldH (n₀ B nb C : Nat) (J Jx : List HX → World → Prop) (l : Nat) (total : List (List Int × ByteArray)) : Prop :=
  ∀ (q : List HX) (x : HX) W1, J q W1 → GoodH n₀ B nb x W1 → (q ++ [x]).map (·.2) <+: total → YieldAt Fence.wide 0 Tryz.prog l (encH x) W1 fun e W' =>
    (e = .returned (.bool true) ∧ J (q ++ [x]) W' ∧ WKeeps n₀ B nb W1 W' ∧ KeepsFrom C W1 W') ∨ (e = .returned (.bool false) ∧ Jx (q ++ [x]) W' ∧ KeepsFrom C W1 W')
abbrev pnodeV (a : Option Addr) (c : Nat) (ats : List Int) (T : TT) (aa : Option Addr) (ca : Nat) (ka : Option Addr) (ck : Nat) : Value := .agg #[.slice a ats.length c, .string T.label, .string T.text, .slice aa T.attrs.length ca, .slice ka T.kids.length ck]
def LeadRuns (steps : List StepM) : Prop := ∀ (m n₀ B nb C N l : Nat) (J Jx : List HX → World → Prop) (total : List (List Int × ByteArray)) (pre : List HX) (ats : List Int) (T : TT) (a aa ka sa : Option Addr) (c ca ck sc : Nat) (W : World),
  n₀ ≤ B → C ≤ W.heap.size → RowIn nb B W → OwnFrom C J → OwnFrom C Jx → YieldH n₀ B nb C J Jx l total → J pre W → pre.map (·.2) ++ leadM steps (ats, T) <+: total →
  Sl (Shape.int .i64) (SafeB n₀ B nb W) W a ats → (treeS m).rep (SafeB n₀ B nb W) W [.string T.label, .string T.text, .slice aa T.attrs.length ca, .slice ka T.kids.length ck] T → Sl pstepS (SafeB n₀ B nb W) W sa steps → steps.length ≤ sc →
  ats.length + steps.length ≤ 1000 → (nodesM m T).length ≤ 4096 →
  CallsIn Fence.wide N Tryz.prog 48 #[pnodeV a c ats T aa ca ka ck, .slice sa steps.length sc, .func (.yield l) #[] #[]] W (LeadPost n₀ B nb C J Jx (pre.map (·.2) ++ leadM steps (ats, T)) total W)

theorem ints_own {F : Nat → Prop} {w : World} {base : Nat} {v : Value} {xs : List Int} (h : w.ownsRow base 3 1 v xs.length (xs.map (Value.int .i64))) (hF : ∀ g, v.ownBlock = some g → F g) : ∃ a c, v = .slice a xs.length c ∧ Sl (Shape.int .i64) F w a xs := by
  have h6' : w.ownsRow base 3 (Shape.int .i64).sz v xs.length ((xs.map fun x => ([Value.int .i64 x], x)).flatMap (·.1)) := by
    rw [List.flatMap_map]
    have e0 : ∀ l : List Int, l.flatMap (fun x => [Value.int .i64 x]) = l.map (Value.int .i64) := fun l => by
      induction l with
      | nil => rfl
      | cons x l ih => rw [List.flatMap_cons, ih]; rfl
    rw [e0]; exact h
  obtain ⟨a, c, h1, h2⟩ := own_sl (F := F) h6' (by simp) (fun x hx => by obtain ⟨y, _, rfl⟩ := List.mem_map.1 hx; rfl) hF
  refine ⟨a, c, h1, ?_⟩
  simpa [List.map_map, Function.comp_def] using h2
theorem row_cel {w : World} {base : Nat} {e : TypeId} {size : Nat} {v : Value} {n : Nat} {xs : List Value} (h : w.ownsRow base e size v n xs) (g : Nat) (hg : v.ownBlock = some g) : base ≤ g ∧ Cel w g := by
  rcases h.2 with ⟨rfl, _⟩ | ⟨g', cap, cur, rfl, hb, hh, _⟩
  · cases hg
  · cases hg; exact ⟨hb, _, hh, rfl⟩
theorem own_below {C : Nat} {β : Type} {I : β → World → Prop} (hI : OwnFrom C I) {s : β} {w w' : World} (h : I s w) (hb : Below w.heap.size w w') : I s w' :=
  hI s w w' none h ⟨hb.os, hb.tape, hb.output, hb.size, fun j hj _ => hb.block j hj⟩ (fun r e => by cases e)

set_option maxRecDepth 100000 in
set_option maxHeartbeats 4000000 in
theorem lead_nil : LeadRuns [] := by
  intro m n₀ B nb C N l J Jx total pre ats T a aa ka sa c ca ck sc W hnB hCW hrow hJ hJx hst hJ0 hpre hats hrep hsl hsc hd hwide
  obtain ⟨w1, hw1⟩ : ∃ w1, w1 = W.alloc (.cells #[.slice a ats.length c, .string T.label, .string T.text, .slice aa T.attrs.length ca, .slice ka T.kids.length ck] 117) := ⟨_, rfl⟩
  have hb1 : Below W.heap.size W w1 := by rw [hw1]; exact (Below.refl _ _).alloc (Nat.le_refl _) _
  have hk1 : WKeeps n₀ B nb W w1 := WKeeps.of_below hnB hrow.1 hrow.2.1 hb1
  have hrow1 := hrow.keep hk1
  have hcl := clone_any (SafeB n₀ B nb w1) a c ats w1 (sl_keep hats hk1) (fun k h => h.lt hnB hrow1.2.1) (by omega)
  have HCL := Sp.hid hcl
  have HW1 := Sp.hid hw1
  have HB1 := Sp.hid hb1
  have HJ := Sp.hid hJ
  have HJ0 := Sp.hid hJ0
  have HST := Sp.hid hst
  have HPRE := Sp.hid hpre
  have HROW1 := Sp.hid hrow1
  have HK1 := Sp.hid hk1
  clear hcl hw1 hb1 hJ hJ0 hst hpre hrow1 hk1 hats hrep hsl hJx
  refine callsIn_of_wp_marks Tryz.func48 rfl trivial ?_ rfl
  simp only [Tryz.ntmps48, List.size_toArray, List.length_cons, List.length_nil, Nat.reduceAdd, Nat.reduceSub, Array.replicate_succ, Array.replicate_zero, List.push_toArray, List.append_toArray, List.nil_append, List.cons_append]
  gi_wp2
  refine ⟨trivial, (fun h => nomatch h), ?_⟩
  rw [← HW1.out]
  refine (callsIn_wide.2 HCL.out).mono ?_
  rintro e w2 ⟨v, rfl, hown, hb2⟩
  have hk2 : WKeeps n₀ B nb w1 w2 := WKeeps.of_below hnB HROW1.out.1 HROW1.out.2.1 hb2
  obtain ⟨a', c', rfl, hsl⟩ := ints_own (F := SafeB n₀ B nb w2) hown (fun g hg => by
    obtain ⟨h1, h2⟩ := row_cel hown g hg
    exact safe_fresh (fun g' hg' => by
      rw [rowOf_block (hb2.block nb (by have := HROW1.out.1; have := HROW1.out.2.1; omega))] at hg'
      exact HROW1.out.2.2 g' hg') HROW1.out.2.1 h1 h2)
  have hJ2 : J pre w2 := own_below HJ.out (own_below HJ.out HJ0.out HB1.out) hb2
  obtain ⟨fn, tmps, assign, body, hy, hR⟩ := HST.out pre (.slice a' ats.length c', ats, ⟨#[]⟩) w2 hJ2 ⟨a', c', rfl, hsl⟩ (by simpa [leadM] using HPRE.out)
  dsimp only [encH] at hy
  have HR := Sp.hid hR
  have HK2 := Sp.hid (HK1.out.trans hk2)
  have HB2 := Sp.hid (HB1.out.trans (hb2.mono HB1.out.size))
  clear hR hb2 hk2 hown hsl hJ2
  gi_wp2
  refine ⟨(fun h => nomatch h), ?_⟩
  refine (round_any HR.out).mono ?_
  clear hy
  rintro e W2 (⟨rfl, hJ2, hk2, hf2⟩ | ⟨rfl, hJ2, hf2⟩)
  · gi_wp2
    exact ⟨.bool true, by simp [results, Tryz.f48, go_sem], .inl ⟨rfl, ⟨_, by simp [leadM], hJ2⟩, HK2.out.trans hk2, (KeepsFrom.of_below HB2.out).trans hf2⟩⟩
  · gi_wp2
    exact ⟨.bool false, by simp [results, Tryz.f48, go_sem], .inr ⟨rfl, ⟨_, by simpa [leadM] using HPRE.out, hJ2⟩, (KeepsFrom.of_below HB2.out).trans hf2⟩⟩

end Go.Proofs.YtoknglpfchjbjaaGreatDoor

/- path.lead at a step to attributes. Conditions: fewer than 2^12 nodes. -/
namespace Go.Proofs.YtoknglpfchjbjaaGreatDoor
open Go.RowKit Go.Sp Go.Maps

attribute [local go_sem] Oper.semAt_some

/-- Where lead stands: the hits that it has handed over, and what it holds. -/
structure LRel (n₀ B nb C : Nat) (J : List HX → World → Prop) (W : World) (bs : List (Nat × Obj)) (done : List (List Int × ByteArray)) (w : World) : Prop where
  seq : ∃ q : List HX, q.map (·.2) = done ∧ J q w
  row : RowIn nb B w
  box : ∀ b ∈ bs, Mine nb B b.1 b.2 w
  keep : WKeeps n₀ B nb W w
  far : KeepsFrom C W w
section
variable {n₀ B nb C : Nat} {J : List HX → World → Prop} {W : World} {bs : List (Nat × Obj)} {done : List (List Int × ByteArray)} {w : World}
theorem LRel.below (hn : n₀ ≤ B) (hJ : OwnFrom C J) (h : LRel n₀ B nb C J W bs done w) {w' : World} (hb : Below w.heap.size w w') : LRel n₀ B nb C J W bs done w' := by
  have hk : WKeeps n₀ B nb w w' := WKeeps.of_below hn h.row.1 h.row.2.1 hb
  obtain ⟨q, h1, h2⟩ := h.seq
  exact ⟨⟨q, h1, own_below hJ h2 hb⟩, h.row.keep hk, fun b hb' => (h.box b hb').keep hk, h.keep.trans hk, h.far.trans (KeepsFrom.of_below hb)⟩
theorem LRel.alloc (hn : n₀ ≤ B) (hJ : OwnFrom C J) (h : LRel n₀ B nb C J W bs done w) (o : Obj) : LRel n₀ B nb C J W bs done (w.alloc o) := h.below hn hJ ((Below.refl _ _).alloc (Nat.le_refl _) _)
theorem LRel.more (hn : n₀ ≤ B) (hJ : OwnFrom C J) (h : LRel n₀ B nb C J W bs done w) {o : Obj} (ho : o.isCells = true) : LRel n₀ B nb C J W ((w.heap.size, o) :: bs) done (w.alloc o) := by
  have h1 := h.alloc hn hJ o
  refine ⟨h1.seq, h1.row, fun b hb => ?_, h1.keep, h1.far⟩
  rcases List.mem_cons.1 hb with rfl | hb
  · exact Mine.new h.row ho
  · exact h1.box b hb
theorem LRel.less {b : Nat × Obj} (h : LRel n₀ B nb C J W (b :: bs) done w) : LRel n₀ B nb C J W bs done w := ⟨h.seq, h.row, fun b hb => h.box b (List.mem_cons_of_mem _ hb), h.keep, h.far⟩
theorem LRel.yield (h : LRel n₀ B nb C J W bs done w) {w' : World} {done' : List (List Int × ByteArray)} (hJ : ∃ q : List HX, q.map (·.2) = done' ∧ J q w') (hk : WKeeps n₀ B nb w w') (hf : KeepsFrom C w w') : LRel n₀ B nb C J W bs done' w' :=
  ⟨hJ, h.row.keep hk, fun b hb => (h.box b hb).keep hk, h.keep.trans hk, h.far.trans hf⟩
end

theorem attr_next (s : StepM) (ats : List Int) (xs : List (ByteArray × ByteArray)) (k : Nat) (h : k < xs.length) :
    ((xs.take (k + 1)).filter fun a => fitsB s a.1).map (fun a => (ats, a.1)) = ((xs.take k).filter fun a => fitsB s a.1).map (fun a => (ats, a.1)) ++ (if fitsB s xs[k].1 then [(ats, xs[k].1)] else []) := by
  rw [List.take_succ_eq_append_getElem h, List.filter_append, List.map_append]
  congr 1
  cases hf : fitsB s xs[k].1 <;> simp [hf]
theorem attr_pre (s : StepM) (ats : List Int) (xs : List (ByteArray × ByteArray)) (k : Nat) : ((xs.take k).filter fun a => fitsB s a.1).map (fun a => (ats, a.1)) <+: (xs.filter fun a => fitsB s a.1).map (fun a => (ats, a.1)) := by
  conv => rhs; rw [← List.take_append_drop k xs, List.filter_append, List.map_append]
  exact List.prefix_append _ _

theorem clos_not {l : List Oper} {L : Nat → Bool} {s j : Nat} (hcl : Clos l L) (hj : L j = false) (hn : (needs l l.length [s]).contains j = true) : L s = false := by
  cases h : L s with
  | false => rfl
  | true => have := hcl s j h hn; rw [hj] at this; cases this

theorem wpListIn_unwanted {F : Fence} {n : Nat} {P : Program} {ops : Array Oper} {Q : Exit → Act → World → Prop} {a : Act} {w : World} {rest : List Oper} {o : Oper} (h : Region.wanted o (yielded ops a.tmps) = false) (hf : ∀ f, o.about P w a.eval = some f → F.fn f) (hk : wpListIn F n P ops Q rest (a.put o.dst undef) w) :
    wpListIn F n P ops Q (o :: rest) a w := by
  unfold wpListIn
  rw [if_neg (by rw [h]; decide)]
  exact ⟨hf, hk⟩
theorem cell_at {w : World} {b : Nat} {vs : Array Value} {t : TypeId} (h : w.heap[b]? = some (.cells vs t (0, 0))) (i : Nat) : w.cell? ⟨b, i, none⟩ = vs[i]? := by simp [World.cell?, h]
theorem safe_row (n₀ : Nat) {B nb : Nat} {w w' : World} (hrow : RowIn nb B w) (hb : Below w.heap.size w w') (b : Nat) (h1 : w.heap.size ≤ b) (h2 : Cel w' b) : SafeB n₀ B nb w' b :=
  safe_fresh (fun g hg => by
    rw [rowOf_block (hb.block nb (by have := hrow.1; have := hrow.2.1; omega))] at hg
    exact hrow.2.2 g hg) hrow.2.1 h1 h2
theorem yinv_never {W0 : World} {s : Nat} {Fc : Nat → Value → World → Prop} {L : Nat → Bool} {u : Nat → Value} {w : World} (h : YInv W0 s Fc (fun _ _ _ => False) L u w) : L s = false := by
  rcases h with ⟨h, _⟩ | ⟨_, h⟩
  · exact h
  · exact h.elim

/-- The values of the operations of the region that hands an attribute on. -/
def FcA (base : Nat) (sv yv pv av pA : Value) (nm : ByteArray) (ats : List Int) (i : Nat) (v : Value) (w : World) : Prop :=
  match i with
  | 0 => v = sv | 1 => v = pA | 2 => v = .string nm | 3 => v = .bool true | 4 => v = .bool true | 5 => v = yv | 6 => v = pv | 7 => v = av
  | 8 => w.ownsRow base 3 1 v ats.length (ats.map (Value.int .i64)) | 9 => v = pA | 10 => v = .string nm
  | 11 => ∃ v8, v = .agg #[v8, .string nm] ∧ w.ownsRow base 3 1 v8 ats.length (ats.map (Value.int .i64)) | _ => False
theorem fcA_st {base : Nat} {sv yv pv av pA : Value} {nm : ByteArray} {ats : List Int} (j : Nat) (v : Value) (X Y : World) (hb : Below X.heap.size X Y) (h : FcA base sv yv pv av pA nm ats j v X) : FcA base sv yv pv av pA nm ats j v Y := by
  match j, h with
  | 0, h => exact h
  | 1, h => exact h
  | 2, h => exact h
  | 3, h => exact h
  | 4, h => exact h
  | 5, h => exact h
  | 6, h => exact h
  | 7, h => exact h
  | 8, h => exact own_same h (fun g hg => hb.block g (World.ownsRow.lt h g hg).2)
  | 9, h => exact h
  | 10, h => exact h
  | 11, ⟨v8, h1, h2⟩ => exact ⟨v8, h1, own_same h2 (fun g hg => hb.block g (World.ownsRow.lt h2 g hg).2)⟩
  | _ + 12, h => exact h.elim
/-- .. where the attribute's name does not fit. -/
def FcN (sv pA : Value) (nm : ByteArray) (i : Nat) (v : Value) (_ : World) : Prop :=
  match i with
  | 0 => v = sv | 1 => v = pA | 2 => v = .string nm | 3 => v = .bool false | 4 => v = .bool false | 14 => v = .bool false | _ => True
theorem fcN_st {sv pA : Value} {nm : ByteArray} (j : Nat) (v : Value) (X Y : World) (_ : Below X.heap.size X Y) (h : FcN sv pA nm j v X) : FcN sv pA nm j v Y := h
def AfterA (Post : Bool → World → Prop) (L : Nat → Bool) (u : Nat → Value) (w : World) : Prop := ∃ bb, u 12 = .bool bb ∧ u 4 = .bool true ∧ (L 13 = true → u 13 = .bool !bb) ∧ (L 14 = true → u 14 = .bool !bb) ∧ Post bb w

set_option maxRecDepth 100000 in
set_option maxHeartbeats 4000000 in
theorem lead_attr (s : StepM) (rest : List StepM) (hs : s.isAttr = true) : LeadRuns (s :: rest) := by
  intro m n₀ B nb C N l J Jx total pre ats T a aa ka sa c ca ck sc W hnB hCW hrow hJ hJx hst hJ0 hpre hats hrep hsl hsc hd hwide
  obtain ⟨⟨hl1, hl2, hl3, hl4⟩, aa', ca', ka', ck', hvs, hat, hkd⟩ := treeS_parts hrep
  simp only [List.cons.injEq, Value.slice.injEq, true_and, and_true] at hvs
  obtain ⟨⟨rfl, rfl⟩, rfl, rfl⟩ := hvs
  obtain ⟨sb, so, pa, pc, rfl, fsb, hsn, hps, e0, e1, e2⟩ := pstep_cells hsl 0 (by simp)
  simp only [Nat.zero_mul, Nat.add_zero, List.getElem_cons_zero] at hsn hps e0 e1 e2
  rw [hs] at e0
  have hlead : leadM (s :: rest) (ats, T) = (T.attrs.filter fun a => fitsB s a.1).map fun a => (ats, a.1) := by unfold leadM; rw [if_pos hs]
  rw [hlead] at hpre ⊢
  have hl3' : T.attrs.length ≤ 9223372036854775807 := hl3
  have hsbW := World.block_lt_of_cell? _ _ e0
  dsimp only at hsbW
  obtain ⟨w1, hw1⟩ : ∃ w1, w1 = (W.alloc (.cells #[.slice a ats.length c, .string T.label, .string T.text, .slice aa T.attrs.length ca, .slice ka T.kids.length ck] 117)).alloc (.cells #[.bool true, .string s.name, .slice pa s.preds.length pc] 68) := ⟨_, rfl⟩
  obtain ⟨bs0, hbs0⟩ : ∃ bs0 : List (Nat × Obj), bs0 = [(W.heap.size + 1, .cells #[.bool true, .string s.name, .slice pa s.preds.length pc] 68), (W.heap.size, .cells #[.slice a ats.length c, .string T.label, .string T.text, .slice aa T.attrs.length ca, .slice ka T.kids.length ck] 117)] := ⟨_, rfl⟩
  have hrel0 : LRel n₀ B nb C J W bs0 (pre.map (·.2)) w1 := by
    have h0 : LRel n₀ B nb C J W [] (pre.map (·.2)) W := ⟨⟨pre, rfl, hJ0⟩, hrow, by simp, WKeeps.refl _ _ _ _, KeepsFrom.refl _ _⟩
    have h1 := (h0.more hnB hJ (o := .cells #[.slice a ats.length c, .string T.label, .string T.text, .slice aa T.attrs.length ca, .slice ka T.kids.length ck] 117) rfl).more hnB hJ (o := .cells #[.bool true, .string s.name, .slice pa s.preds.length pc] 68) rfl
    rw [hw1, hbs0]
    simpa using h1
  have hL0 : (((s :: rest).length : Int) == 0) = false := by
    rw [List.length_cons]
    exact beq_eq_false_iff_ne.2 (by omega)
  have hL1 : (0 : Int) < ((s :: rest).length : Int) := by rw [List.length_cons]; omega
  obtain ⟨LL, hLL⟩ : ∃ LL, LL = (s :: rest).length := ⟨_, rfl⟩
  rw [← hLL] at hL0 hL1 ⊢
  have HW1 := Sp.hid hw1
  have HBS0 := Sp.hid hbs0
  have HREL0 := Sp.hid hrel0
  have HJ := Sp.hid hJ
  have HST := Sp.hid hst
  have HPRE := Sp.hid hpre
  have HATS := Sp.hid hats
  have HAT := Sp.hid hat
  have HPS := Sp.hid hps
  clear hw1 hbs0 hrel0 hJ hJ0 hst hpre hats hrep hsl hJx hat hkd hps hlead hLL hwide hrow fsb
  refine callsIn_of_wp_marks Tryz.func48 rfl trivial ?_ rfl
  simp only [Tryz.ntmps48, List.size_toArray, List.length_cons, List.length_nil, Nat.reduceAdd, Nat.reduceSub, Array.replicate_succ, Array.replicate_zero, List.push_toArray, List.append_toArray, List.nil_append, List.cons_append]
  gi_wp2
  rw [← HW1.out]
  refine wpIn_loop (fun ac wr => ∃ (k : Nat) (u9 u31 u32 u33 u34 u35 u36 u37 u38 u39 u40 u41 u42 u43 u44 u45 u46 u47 u48 u49 : Value), (k ≤ T.attrs.length ∧ LRel n₀ B nb C J W bs0 (pre.map (·.2) ++ ((T.attrs.take k).filter fun a => fitsB s a.1).map fun a => (ats, a.1)) wr) ∧ ac = ⟨#[pnodeV a c ats T aa ca ka ck, Value.slice (some { block := sb, off := so }) LL sc, Value.func (Fn.yield l) #[] #[], Value.pointer (some { block := W.heap.size, off := 0 }), undef, undef, Value.bool false, Value.pointer (some { block := W.heap.size + 1, off := 0 }), undef, u9, undef, undef, Value.slice (some { block := sb, off := so }) LL sc, Value.int IntKind.i64 LL, Value.bool false, undef, undef, undef, undef, undef, undef, Value.slice (some { block := sb, off := so }) LL sc, Value.pointer (some { block := sb, off := so }), Value.agg #[Value.bool true, Value.string s.name, Value.slice pa s.preds.length pc], Value.pointer (some { block := W.heap.size + 1, off := 0 }), Value.bool true, Value.pointer (some { block := W.heap.size, off := 1 }), Value.pointer (some { block := W.heap.size, off := 3 }), Value.slice aa T.attrs.length ca, Value.int IntKind.i64 (T.attrs.length : Nat), Value.int IntKind.i64 (k : Nat), u31, u32, u33, u34, u35, u36, u37, u38, u39, u40, u41, u42, u43, u44, u45, u46, u47, u48, u49, undef, undef, undef, undef, undef, undef, undef, undef, undef, undef, undef, undef, undef, undef, undef], []⟩) (fun ac _ => T.attrs.length - (intOf (ac.tmps.getD 30 undef)).toNat) ⟨0, _, _, _, _, _, _, _, _, _, _, _, _, _, _, _, _, _, _, _, _, ⟨Nat.zero_le _, by simpa using HREL0.out⟩, rfl⟩ ?_
  rintro _ wr ⟨k, u9, u31, u32, u33, u34, u35, u36, u37, u38, u39, u40, u41, u42, u43, u44, u45, u46, u47, u48, u49, ⟨hk, hrel⟩, rfl⟩
  dsimp only
  by_cases hlt : k < T.attrs.length
  · have hkw := sl_keep HAT.out hrel.keep
    obtain ⟨ab, ao, rfl, fab, hn1, hn2, a0, a1⟩ := attr_cells hkw k hlt
    have habr := World.block_lt_of_cell? _ _ a0
    dsimp only at habr
    have hnext := attr_next s ats T.attrs k hlt
    have hnpre := attr_pre s ats T.attrs (k + 1)
    obtain ⟨at1, hat1⟩ : ∃ at1, at1 = T.attrs[k] := ⟨_, rfl⟩
    rw [← hat1] at hn1 hn2 a0 a1 hnext
    obtain ⟨nm, vl⟩ := at1
    dsimp only at hn1 hn2 a0 a1 hnext
    have HREL := Sp.hid hrel
    have HNX := Sp.hid hnext
    have HNP := Sp.hid hnpre
    obtain ⟨w3, hw3⟩ : ∃ w3, w3 = wr.alloc (.cells #[.string nm, .string vl] 72) := ⟨_, rfl⟩
    have hrel3 : LRel n₀ B nb C J W ((wr.heap.size, .cells #[.string nm, .string vl] 72) :: bs0) (pre.map (·.2) ++ ((T.attrs.take k).filter fun a => fitsB s a.1).map fun a => (ats, a.1)) w3 := by rw [hw3]; exact hrel.more hnB HJ.out rfl
    have hA3 : w3.heap[wr.heap.size]? = some (.cells #[.string nm, .string vl] 72 (0, 0)) := (hrel3.box (wr.heap.size, .cells #[.string nm, .string vl] 72) (List.mem_cons_self ..)).2.1
    have hS3 : w3.heap[W.heap.size + 1]? = some (.cells #[.bool true, .string s.name, .slice pa s.preds.length pc] 68 (0, 0)) := (hrel3.less.box (W.heap.size + 1, .cells #[.bool true, .string s.name, .slice pa s.preds.length pc] 68) (by rw [HBS0.out]; simp)).2.1
    have hN3 : w3.heap[W.heap.size]? = some (.cells #[.slice a ats.length c, .string T.label, .string T.text, .slice (some ⟨ab, ao, none⟩) T.attrs.length ca, .slice ka T.kids.length ck] 117 (0, 0)) := (hrel3.less.box (W.heap.size, .cells #[.slice a ats.length c, .string T.label, .string T.text, .slice (some ⟨ab, ao, none⟩) T.attrs.length ca, .slice ka T.kids.length ck] 117) (by rw [HBS0.out]; simp)).2.1
    have bA3 := (Array.getElem?_eq_some_iff.1 hA3).1
    have bS3 := (Array.getElem?_eq_some_iff.1 hS3).1
    have bN3 := (Array.getElem?_eq_some_iff.1 hN3).1
    have hfit : ∀ W, Calls Tryz.prog 75 #[.agg #[.bool true, .string s.name, .slice pa s.preds.length pc], .string nm] W fun e w' => e = .returned (.bool (fitsB s nm)) ∧ Below W.heap.size W w' := fun W => by
      have := fits_any s pa pc nm W
      rw [hs] at this
      exact this
    have hwin : ∀ w, Below w3.heap.size w3 w → Sl (Shape.int .i64) (SafeB n₀ B nb w) w a ats := fun w hb => sl_keep HATS.out (hrel3.keep.trans (WKeeps.of_below hnB hrel3.row.1 hrel3.row.2.1 hb))
    have hws : ∀ w, Below w3.heap.size w3 w → ∀ b, SafeB n₀ B nb w b → b < w.heap.size := fun w hb b h => h.lt hnB (by have := hrel3.row.2.1; have := hb.size; omega)
    obtain ⟨w0n, hw0n⟩ : ∃ w0n : Nat, w0n = wr.heap.size := ⟨_, rfl⟩
    have HW3 := Sp.hid hw3
    have HREL3 := Sp.hid hrel3
    have HA3 := Sp.hid hA3
    have HS3 := Sp.hid hS3
    have HN3 := Sp.hid hN3
    have HFIT := Sp.hid hfit
    have HWIN := Sp.hid hwin
    have HWS := Sp.hid hws
    clear hkw hrel hat1 hnext hnpre fab hw3 hrel3 hA3 hS3 hN3 hfit hwin hws hw0n
    cases hft : fitsB s nm
    · rw [hft] at HFIT HNX
      gi_wp2
      rw [← HW3.out]
      refine wpIn_region_invc (by kernel_rfl) [some 34, some 35, some 36, some 37, some 38, some 39, some 40, some 41, some 42, some 43, some 44, some 45, some 46, some 47, some 48] rfl (by kernel_rfl) (by kernel_rfl) ?fr ?hfr (YInv w3 100 (FcN (Value.agg #[Value.bool true, Value.string s.name, Value.slice pa s.preds.length pc]) (Value.pointer (some { block := wr.heap.size, off := 0 })) nm) (fun _ _ _ => False)) (fun u => yinv_start) ?step ?fin
      case hfr => intro u; simp only [Sp.fillFrom, Sp.idx_cons, Sp.idx_nil, Option.some.injEq, reduceCtorEq, reduceIte, Nat.reduceEqDiff, Nat.reduceAdd, Option.map_some, Option.map_none]; exact rfl
      case step =>
        refine ⟨?_, ?_, ?_, ?_, ?_, ?_, ?_, ?_, ?_, ?_, ?_, ?_, ?_, ?_, ?_, trivial⟩
        · intro L u w1 hL hcl hD hI
          have h12 : L 100 = false := yinv_never hI
          obtain ⟨hb, hv⟩ := yinv_first hI h12
          have hsb := hb.size
          have hX := (hb.block _ bS3).trans HS3.out
          have c0 : w1.cell? ⟨W.heap.size + 1, 0, none⟩ = some (.bool true) := cell_at hX 0
          have c1 : w1.cell? ⟨W.heap.size + 1, 1, none⟩ = some (.string s.name) := cell_at hX 1
          have c2 : w1.cell? ⟨W.heap.size + 1, 2, none⟩ = some (.slice pa s.preds.length pc) := cell_at hX 2
          have HI8 := Sp.hid (yinv_step (i := 0) (v := (Value.agg #[Value.bool true, Value.string s.name, Value.slice pa s.preds.length pc])) fcN_st hI h12 (by decide) (Below.refl _ _) rfl)
          clear hL hcl hD hI hb hv h12 hX
          dsimp only
          gi_wp2
          exact ⟨_, rfl, HI8.out⟩
        · intro L u w1 hL hcl hD hI
          have h12 : L 100 = false := yinv_never hI
          obtain ⟨hb, hv⟩ := yinv_first hI h12
          have hsb := hb.size
          have HI8 := Sp.hid (yinv_step (i := 1) (v := (Value.pointer (some { block := wr.heap.size, off := 0 }))) fcN_st hI h12 (by decide) (Below.refl _ _) rfl)
          clear hL hcl hD hI hb hv h12
          dsimp only
          gi_wp2
          exact ⟨_, rfl, HI8.out⟩
        · intro L u w1 hL hcl hD hI
          simp only [DepsDone, Region.binds, and_true, true_implies] at hD
          have h12 : L 100 = false := yinv_never hI
          obtain ⟨hb, hv⟩ := yinv_first hI h12
          have hsb := hb.size
          have r1 : u 1 = (Value.pointer (some { block := wr.heap.size, off := 0 })) := hv 1 hD
          have hX := (hb.block _ bA3).trans HA3.out
          have c0 : w1.cell? ⟨wr.heap.size, 0, none⟩ = some (.string nm) := cell_at hX 0
          have HI8 := Sp.hid (yinv_step (i := 2) (v := (.string nm)) fcN_st hI h12 (by decide) (Below.refl _ _) rfl)
          clear hL hcl hD hI hb hv h12 hX
          dsimp only
          rw [r1]
          clear r1
          gi_wp2
          exact ⟨_, rfl, HI8.out⟩
        · intro L u w1 hL hcl hD hI
          simp only [DepsDone, Region.binds, and_true, true_implies] at hD
          have h12 : L 100 = false := yinv_never hI
          obtain ⟨hb, hv⟩ := yinv_first hI h12
          have hsb := hb.size
          have r0 : u 0 = (Value.agg #[Value.bool true, Value.string s.name, Value.slice pa s.preds.length pc]) := hv 0 hD.1
          have r2 : u 2 = (.string nm) := hv 2 hD.2
          have HI8 := Sp.hid (fun (w' : World) hb' => yinv_step (i := 3) (v := (.bool false)) (w' := w') fcN_st hI h12 (by decide) hb' rfl)
          clear hL hcl hD hI hb hv h12
          dsimp only
          rw [r0, r2]
          clear r0 r2
          gi_wp2
          refine ⟨trivial, (fun h => nomatch h), ?_⟩
          refine (callsIn_wide.2 (HFIT.out _)).mono ?_
          rintro e w2 ⟨rfl, hb2⟩
          have H := Sp.hid (HI8.out w2 hb2)
          clear hb2
          gi_wp2
          exact ⟨_, rfl, H.out⟩
        · intro L u w1 hL hcl hD hI
          simp only [DepsDone, Region.binds, and_true, true_implies] at hD
          have h12 : L 100 = false := yinv_never hI
          obtain ⟨hb, hv⟩ := yinv_first hI h12
          have hsb := hb.size
          have r3 : u 3 = (.bool false) := hv 3 hD.1
          have HI8 := Sp.hid (yinv_step (i := 4) (v := (.bool false)) fcN_st hI h12 (by decide) (Below.refl _ _) rfl)
          clear hL hcl hD hI hb hv h12
          dsimp only
          rw [r3]
          clear r3
          gi_wp2
          exact ⟨_, rfl, HI8.out⟩
        · intro L u w1 hL hcl hD hI
          simp only [DepsDone, Region.binds, and_true, true_implies] at hD
          have h12 : L 100 = false := yinv_never hI
          obtain ⟨hb, hv⟩ := yinv_first hI h12
          have hsb := hb.size
          have r4 : u 4 = (.bool false) := hv 4 hD
          have HI8 := Sp.hid (yinv_step (i := 5) (v := undef) fcN_st hI h12 (by decide) (Below.refl _ _) trivial)
          clear hL hcl hD hI hb hv h12
          dsimp only
          rw [r4]
          clear r4
          gi_wp2
          exact ⟨_, rfl, HI8.out⟩
        · intro L u w1 hL hcl hD hI
          simp only [DepsDone, Region.binds, and_true, true_implies] at hD
          have h12 : L 100 = false := yinv_never hI
          obtain ⟨hb, hv⟩ := yinv_first hI h12
          have hsb := hb.size
          have r4 : u 4 = (.bool false) := hv 4 hD
          have HI8 := Sp.hid (yinv_step (i := 6) (v := undef) fcN_st hI h12 (by decide) (Below.refl _ _) trivial)
          clear hL hcl hD hI hb hv h12
          dsimp only
          rw [r4]
          clear r4
          gi_wp2
          exact ⟨_, rfl, HI8.out⟩
        · intro L u w1 hL hcl hD hI
          simp only [DepsDone, Region.binds, and_true, true_implies] at hD
          have h12 : L 100 = false := yinv_never hI
          obtain ⟨hb, hv⟩ := yinv_first hI h12
          have hsb := hb.size
          have r4 : u 4 = (.bool false) := hv 4 hD.2
          have HI8 := Sp.hid (yinv_step (i := 7) (v := undef) fcN_st hI h12 (by decide) (Below.refl _ _) trivial)
          clear hL hcl hD hI hb hv h12
          dsimp only
          rw [r4]
          clear r4
          gi_wp2
          exact ⟨_, rfl, HI8.out⟩
        · intro L u w1 hL hcl hD hI
          simp only [DepsDone, Region.binds, and_true, true_implies] at hD
          have h12 : L 100 = false := yinv_never hI
          obtain ⟨hb, hv⟩ := yinv_first hI h12
          have hsb := hb.size
          have r4 : u 4 = (.bool false) := hv 4 hD.2.1
          have HI8 := Sp.hid (yinv_step (i := 8) (v := undef) fcN_st hI h12 (by decide) (Below.refl _ _) trivial)
          clear hL hcl hD hI hb hv h12
          dsimp only
          rw [r4]
          clear r4
          refine wpListIn_unwanted rfl (fun _ _ => trivial) ?_
          exact ⟨_, rfl, HI8.out⟩
        · intro L u w1 hL hcl hD hI
          simp only [DepsDone, Region.binds, and_true, true_implies] at hD
          have h12 : L 100 = false := yinv_never hI
          obtain ⟨hb, hv⟩ := yinv_first hI h12
          have hsb := hb.size
          have r4 : u 4 = (.bool false) := hv 4 hD
          have HI8 := Sp.hid (yinv_step (i := 9) (v := undef) fcN_st hI h12 (by decide) (Below.refl _ _) trivial)
          clear hL hcl hD hI hb hv h12
          dsimp only
          rw [r4]
          clear r4
          gi_wp2
          exact ⟨_, rfl, HI8.out⟩
        · intro L u w1 hL hcl hD hI
          simp only [DepsDone, Region.binds, and_true, true_implies] at hD
          have h12 : L 100 = false := yinv_never hI
          obtain ⟨hb, hv⟩ := yinv_first hI h12
          have hsb := hb.size
          have r4 : u 4 = (.bool false) := hv 4 hD.2
          have HI8 := Sp.hid (yinv_step (i := 10) (v := undef) fcN_st hI h12 (by decide) (Below.refl _ _) trivial)
          clear hL hcl hD hI hb hv h12
          dsimp only
          rw [r4]
          clear r4
          gi_wp2
          exact ⟨_, rfl, HI8.out⟩
        · intro L u w1 hL hcl hD hI
          simp only [DepsDone, Region.binds, and_true, true_implies] at hD
          have h12 : L 100 = false := yinv_never hI
          obtain ⟨hb, hv⟩ := yinv_first hI h12
          have hsb := hb.size
          have r4 : u 4 = (.bool false) := hv 4 hD.2.2
          have HI8 := Sp.hid (yinv_step (i := 11) (v := undef) fcN_st hI h12 (by decide) (Below.refl _ _) trivial)
          clear hL hcl hD hI hb hv h12
          dsimp only
          rw [r4]
          clear r4
          gi_wp2
          exact ⟨_, rfl, HI8.out⟩
        · intro L u w1 hL hcl hD hI
          simp only [DepsDone, Region.binds, and_true, true_implies] at hD
          have h12 : L 100 = false := yinv_never hI
          obtain ⟨hb, hv⟩ := yinv_first hI h12
          have hsb := hb.size
          have r4 : u 4 = (.bool false) := hv 4 hD.2.2.2
          have HI8 := Sp.hid (yinv_step (i := 12) (v := undef) fcN_st hI h12 (by decide) (Below.refl _ _) trivial)
          clear hL hcl hD hI hb hv h12
          dsimp only
          rw [r4]
          clear r4
          refine wpListIn_unwanted rfl (fun _ _ => trivial) ?_
          exact ⟨_, rfl, HI8.out⟩
        · intro L u w1 hL hcl hD hI
          simp only [DepsDone, Region.binds, and_true, true_implies] at hD
          have h12 : L 100 = false := yinv_never hI
          obtain ⟨hb, hv⟩ := yinv_first hI h12
          have hsb := hb.size
          have r4 : u 4 = (.bool false) := hv 4 hD.2
          have HI8 := Sp.hid (yinv_step (i := 13) (v := undef) fcN_st hI h12 (by decide) (Below.refl _ _) trivial)
          clear hL hcl hD hI hb hv h12
          dsimp only
          rw [r4]
          clear r4
          gi_wp2
          exact ⟨_, rfl, HI8.out⟩
        · intro L u w1 hL hcl hD hI
          simp only [DepsDone, Region.binds, and_true, true_implies] at hD
          have h12 : L 100 = false := yinv_never hI
          obtain ⟨hb, hv⟩ := yinv_first hI h12
          have hsb := hb.size
          have r4 : u 4 = (.bool false) := hv 4 hD.1
          have HI8 := Sp.hid (yinv_step (i := 14) (v := (.bool false)) fcN_st hI h12 (by decide) (Below.refl _ _) rfl)
          clear hL hcl hD hI hb hv h12
          dsimp only
          rw [r4]
          clear r4
          gi_wp2
          exact ⟨_, rfl, HI8.out⟩
      case fin =>
        intro L u w1 hall hI
        obtain ⟨hb, hv⟩ := yinv_first hI (yinv_never hI)
        have h4 : u 4 = .bool false := hv 4 (hall 4 (by decide))
        have h14 : u 14 = .bool false := hv 14 (hall 14 (by decide))
        have hr := (HREL3.out.below hnB HJ.out hb).less
        have hnx := HNX.out
        simp only [Bool.false_eq_true, if_false, List.append_nil] at hnx
        rw [← hnx] at hr
        have HR := Sp.hid hr
        rw [h4, h14]
        clear hall hI hb hv h4 h14 hr hnx
        gi_wp2
        refine ⟨⟨k + 1, _, _, _, _, _, _, _, _, _, _, _, _, _, _, _, _, _, _, _, _, ⟨by omega, HR.out⟩, rfl⟩, ?_⟩
        simp [intOf]; omega
    · rw [hft] at HFIT HNX
      gi_wp2
      rw [← HW3.out]
      refine wpIn_region_invc (by kernel_rfl) [some 34, some 35, some 36, some 37, some 38, some 39, some 40, some 41, some 42, some 43, some 44, some 45, some 46, some 47, some 48] rfl (by kernel_rfl) (by kernel_rfl) ?fr2 ?hfr2 (YInv w3 12 (FcA w3.heap.size (Value.agg #[Value.bool true, Value.string s.name, Value.slice pa s.preds.length pc]) (.func (.yield l) #[] #[]) (Value.pointer (some { block := W.heap.size, off := 0 })) (.slice a ats.length c) (Value.pointer (some { block := wr.heap.size, off := 0 })) nm ats) (AfterA fun bb w' => if bb = true then LRel n₀ B nb C J W bs0 (pre.map (·.2) ++ ((T.attrs.take (k + 1)).filter fun a => fitsB s a.1).map fun a => (ats, a.1)) w' else (∃ q : List HX, q.map (·.2) <+: total ∧ Jx q w') ∧ KeepsFrom C W w')) (fun u => yinv_start) ?step2 ?fin2
      case hfr2 => intro u; simp only [Sp.fillFrom, Sp.idx_cons, Sp.idx_nil, Option.some.injEq, reduceCtorEq, reduceIte, Nat.reduceEqDiff, Nat.reduceAdd, Option.map_some, Option.map_none]; exact rfl
      case step2 =>
        refine ⟨?_, ?_, ?_, ?_, ?_, ?_, ?_, ?_, ?_, ?_, ?_, ?_, ?_, ?_, ?_, trivial⟩
        · intro L u w1 hL hcl hD hI
          have h12 : L 12 = false := clos_not hcl hL (by kernel_rfl)
          obtain ⟨hb, hv⟩ := yinv_first hI h12
          have hsb := hb.size
          have hX := (hb.block _ bS3).trans HS3.out
          have c0 : w1.cell? ⟨W.heap.size + 1, 0, none⟩ = some (.bool true) := cell_at hX 0
          have c1 : w1.cell? ⟨W.heap.size + 1, 1, none⟩ = some (.string s.name) := cell_at hX 1
          have c2 : w1.cell? ⟨W.heap.size + 1, 2, none⟩ = some (.slice pa s.preds.length pc) := cell_at hX 2
          have HI8 := Sp.hid (yinv_step (i := 0) (v := (Value.agg #[Value.bool true, Value.string s.name, Value.slice pa s.preds.length pc])) fcA_st hI h12 (by decide) (Below.refl _ _) rfl)
          clear hL hcl hD hI hb hv h12 hX
          dsimp only
          gi_wp2
          exact ⟨_, rfl, HI8.out⟩
        · intro L u w1 hL hcl hD hI
          have h12 : L 12 = false := clos_not hcl hL (by kernel_rfl)
          obtain ⟨hb, hv⟩ := yinv_first hI h12
          have hsb := hb.size
          have HI8 := Sp.hid (yinv_step (i := 1) (v := (Value.pointer (some { block := wr.heap.size, off := 0 }))) fcA_st hI h12 (by decide) (Below.refl _ _) rfl)
          clear hL hcl hD hI hb hv h12
          dsimp only
          gi_wp2
          exact ⟨_, rfl, HI8.out⟩
        · intro L u w1 hL hcl hD hI
          simp only [DepsDone, Region.binds, and_true, true_implies] at hD
          have h12 : L 12 = false := clos_not hcl hL (by kernel_rfl)
          obtain ⟨hb, hv⟩ := yinv_first hI h12
          have hsb := hb.size
          have r1 : u 1 = (Value.pointer (some { block := wr.heap.size, off := 0 })) := hv 1 hD
          have hX := (hb.block _ bA3).trans HA3.out
          have c0 : w1.cell? ⟨wr.heap.size, 0, none⟩ = some (.string nm) := cell_at hX 0
          have HI8 := Sp.hid (yinv_step (i := 2) (v := (.string nm)) fcA_st hI h12 (by decide) (Below.refl _ _) rfl)
          clear hL hcl hD hI hb hv h12 hX
          dsimp only
          rw [r1]
          clear r1
          gi_wp2
          exact ⟨_, rfl, HI8.out⟩
        · intro L u w1 hL hcl hD hI
          simp only [DepsDone, Region.binds, and_true, true_implies] at hD
          have h12 : L 12 = false := clos_not hcl hL (by kernel_rfl)
          obtain ⟨hb, hv⟩ := yinv_first hI h12
          have hsb := hb.size
          have r0 : u 0 = (Value.agg #[Value.bool true, Value.string s.name, Value.slice pa s.preds.length pc]) := hv 0 hD.1
          have r2 : u 2 = (.string nm) := hv 2 hD.2
          have HI8 := Sp.hid (fun (w' : World) hb' => yinv_step (i := 3) (v := (.bool true)) (w' := w') fcA_st hI h12 (by decide) hb' rfl)
          clear hL hcl hD hI hb hv h12
          dsimp only
          rw [r0, r2]
          clear r0 r2
          gi_wp2
          refine ⟨trivial, (fun h => nomatch h), ?_⟩
          refine (callsIn_wide.2 (HFIT.out _)).mono ?_
          rintro e w2 ⟨rfl, hb2⟩
          have H := Sp.hid (HI8.out w2 hb2)
          clear hb2
          gi_wp2
          exact ⟨_, rfl, H.out⟩
        · intro L u w1 hL hcl hD hI
          simp only [DepsDone, Region.binds, and_true, true_implies] at hD
          have h12 : L 12 = false := clos_not hcl hL (by kernel_rfl)
          obtain ⟨hb, hv⟩ := yinv_first hI h12
          have hsb := hb.size
          have r3 : u 3 = (.bool true) := hv 3 hD.1
          have HI8 := Sp.hid (yinv_step (i := 4) (v := (.bool true)) fcA_st hI h12 (by decide) (Below.refl _ _) rfl)
          clear hL hcl hD hI hb hv h12
          dsimp only
          rw [r3]
          clear r3
          gi_wp2
          exact ⟨_, rfl, HI8.out⟩
        · intro L u w1 hL hcl hD hI
          simp only [DepsDone, Region.binds, and_true, true_implies] at hD
          have h12 : L 12 = false := clos_not hcl hL (by kernel_rfl)
          obtain ⟨hb, hv⟩ := yinv_first hI h12
          have hsb := hb.size
          have r4 : u 4 = (.bool true) := hv 4 hD
          have HI8 := Sp.hid (yinv_step (i := 5) (v := (.func (.yield l) #[] #[])) fcA_st hI h12 (by decide) (Below.refl _ _) rfl)
          clear hL hcl hD hI hb hv h12
          dsimp only
          rw [r4]
          clear r4
          gi_wp2
          exact ⟨_, rfl, HI8.out⟩
        · intro L u w1 hL hcl hD hI
          simp only [DepsDone, Region.binds, and_true, true_implies] at hD
          have h12 : L 12 = false := clos_not hcl hL (by kernel_rfl)
          obtain ⟨hb, hv⟩ := yinv_first hI h12
          have hsb := hb.size
          have r4 : u 4 = (.bool true) := hv 4 hD
          have HI8 := Sp.hid (yinv_step (i := 6) (v := (Value.pointer (some { block := W.heap.size, off := 0 }))) fcA_st hI h12 (by decide) (Below.refl _ _) rfl)
          clear hL hcl hD hI hb hv h12
          dsimp only
          rw [r4]
          clear r4
          gi_wp2
          exact ⟨_, rfl, HI8.out⟩
        · intro L u w1 hL hcl hD hI
          simp only [DepsDone, Region.binds, and_true, true_implies] at hD
          have h12 : L 12 = false := clos_not hcl hL (by kernel_rfl)
          obtain ⟨hb, hv⟩ := yinv_first hI h12
          have hsb := hb.size
          have r4 : u 4 = (.bool true) := hv 4 hD.2
          have r6 : u 6 = (Value.pointer (some { block := W.heap.size, off := 0 })) := hv 6 hD.1
          have hX := (hb.block _ bN3).trans HN3.out
          have c0 : w1.cell? ⟨W.heap.size, 0, none⟩ = some (.slice a ats.length c) := cell_at hX 0
          have HI8 := Sp.hid (yinv_step (i := 7) (v := (.slice a ats.length c)) fcA_st hI h12 (by decide) (Below.refl _ _) rfl)
          clear hL hcl hD hI hb hv h12 hX
          dsimp only
          rw [r4, r6]
          clear r4 r6
          gi_wp2
          exact ⟨_, rfl, HI8.out⟩
        · intro L u w1 hL hcl hD hI
          simp only [DepsDone, Region.binds, and_true, true_implies] at hD
          have h12 : L 12 = false := clos_not hcl hL (by kernel_rfl)
          obtain ⟨hb, hv⟩ := yinv_first hI h12
          have hsb := hb.size
          have r4 : u 4 = (.bool true) := hv 4 hD.2.1
          have r7 : u 7 = (.slice a ats.length c) := hv 7 hD.1
          have HI8 := Sp.hid (fun (v : Value) (w' : World) hb' hv' => yinv_step (i := 8) (v := v) (w' := w') fcA_st hI h12 (by decide) hb' hv')
          have HC := Sp.hid (clone_any (SafeB n₀ B nb w1) a c ats w1 (HWIN.out w1 hb) (HWS.out w1 hb) (by omega))
          clear hL hcl hD hI hb hv h12
          dsimp only
          rw [r4, r7]
          clear r4 r7
          gi_wp2
          refine ⟨trivial, (fun h => nomatch h), ?_⟩
          refine (callsIn_wide.2 HC.out).mono ?_
          rintro e w2 ⟨v, rfl, hown, hb2⟩
          have H := Sp.hid (HI8.out v w2 hb2 (Joins.ownsRow_le hown hsb))
          clear hb2 hown
          gi_wp2
          exact ⟨_, rfl, H.out⟩
        · intro L u w1 hL hcl hD hI
          simp only [DepsDone, Region.binds, and_true, true_implies] at hD
          have h12 : L 12 = false := clos_not hcl hL (by kernel_rfl)
          obtain ⟨hb, hv⟩ := yinv_first hI h12
          have hsb := hb.size
          have r4 : u 4 = (.bool true) := hv 4 hD
          have HI8 := Sp.hid (yinv_step (i := 9) (v := (Value.pointer (some { block := wr.heap.size, off := 0 }))) fcA_st hI h12 (by decide) (Below.refl _ _) rfl)
          clear hL hcl hD hI hb hv h12
          dsimp only
          rw [r4]
          clear r4
          gi_wp2
          exact ⟨_, rfl, HI8.out⟩
        · intro L u w1 hL hcl hD hI
          simp only [DepsDone, Region.binds, and_true, true_implies] at hD
          have h12 : L 12 = false := clos_not hcl hL (by kernel_rfl)
          obtain ⟨hb, hv⟩ := yinv_first hI h12
          have hsb := hb.size
          have r4 : u 4 = (.bool true) := hv 4 hD.2
          have r9 : u 9 = (Value.pointer (some { block := wr.heap.size, off := 0 })) := hv 9 hD.1
          have hX := (hb.block _ bA3).trans HA3.out
          have c0 : w1.cell? ⟨wr.heap.size, 0, none⟩ = some (.string nm) := cell_at hX 0
          have HI8 := Sp.hid (yinv_step (i := 10) (v := (.string nm)) fcA_st hI h12 (by decide) (Below.refl _ _) rfl)
          clear hL hcl hD hI hb hv h12 hX
          dsimp only
          rw [r4, r9]
          clear r4 r9
          gi_wp2
          exact ⟨_, rfl, HI8.out⟩
        · intro L u w1 hL hcl hD hI
          simp only [DepsDone, Region.binds, and_true, true_implies] at hD
          have h12 : L 12 = false := clos_not hcl hL (by kernel_rfl)
          obtain ⟨hb, hv⟩ := yinv_first hI h12
          have hsb := hb.size
          have r4 : u 4 = (.bool true) := hv 4 hD.2.2
          have r10 : u 10 = (.string nm) := hv 10 hD.2.1
          have hown : w1.ownsRow w3.heap.size 3 1 (u 8) ats.length (ats.map (Value.int .i64)) := hv 8 hD.1
          have HI8 := Sp.hid (yinv_step (i := 11) (v := .agg #[u 8, .string nm]) fcA_st hI h12 (by decide) (Below.refl _ _) ⟨_, rfl, hown⟩)
          obtain ⟨a8, c8, h8, _⟩ := ints_own (F := fun _ => True) hown (fun _ _ => trivial)
          rw [h8] at HI8
          clear hL hcl hD hI hb hv h12 hown
          dsimp only
          rw [r4, r10, h8]
          clear r4 r10 h8
          gi_wp2
          exact ⟨_, rfl, HI8.out⟩
        · intro L u w1 hL hcl hD hI
          simp only [DepsDone, Region.binds, and_true, true_implies] at hD
          have h12 : L 12 = false := hL
          obtain ⟨hb, hv⟩ := yinv_first hI h12
          have hsb := hb.size
          have r4 : u 4 = (.bool true) := hv 4 hD.2.2.2
          have r5 : u 5 = (.func (.yield l) #[] #[]) := hv 5 hD.1
          obtain ⟨v8, r11, hown⟩ := (hv 11 hD.2.1 : FcA _ _ _ _ _ _ _ _ 11 (u 11) w1)
          obtain ⟨a8, c8, rfl, hsl8⟩ := ints_own (F := SafeB n₀ B nb w1) hown (fun g hg => by obtain ⟨q1, q2⟩ := row_cel hown g hg; exact safe_row n₀ HREL3.out.row hb g q1 q2)
          have hrel1 := (HREL3.out.below hnB HJ.out hb).less
          obtain ⟨q, hq, hJq⟩ := hrel1.seq
          have hnx := HNX.out
          simp only [if_true] at hnx
          have hqx : ∀ v : Value, (q ++ [((v, ats, nm) : HX)]).map (·.2) = pre.map (·.2) ++ ((T.attrs.take (k + 1)).filter fun a => fitsB s a.1).map fun a => (ats, a.1) := fun v => by rw [List.map_append, hq, hnx, List.append_assoc]; rfl
          have hpx : ∀ v : Value, (q ++ [((v, ats, nm) : HX)]).map (·.2) <+: total := fun v => by rw [hqx]; exact ((List.prefix_append_right_inj _).2 HNP.out).trans HPRE.out
          obtain ⟨fn2, tmps2, assign2, body2, hy2, hR2⟩ := HST.out q (.slice a8 ats.length c8, ats, nm) w1 hJq ⟨a8, c8, rfl, hsl8⟩ (hpx _)
          dsimp only [encH] at hy2
          have HR2 := Sp.hid hR2
          have HREL1 := Sp.hid hrel1
          have HQX := Sp.hid hqx
          have HPX := Sp.hid hpx
          have HI8 := Sp.hid (fun (bb : Bool) (w' : World) hp => yinv_one (v := .bool bb) (w' := w') hI h12 ⟨bb, rfl, r4, (fun h => by have := hcl 13 12 h (by kernel_rfl); rw [hL] at this; cases this), (fun h => by have := hcl 14 12 h (by kernel_rfl); rw [hL] at this; cases this), hp⟩)
          clear hL hcl hD hI hb hv h12 hown hsl8 hrel1 hq hJq hnx hqx hpx hR2
          dsimp only
          rw [r4, r5, r11]
          clear r4 r5 r11
          gi_wp2
          refine ⟨(fun h => nomatch h), ?_⟩
          refine (round_any HR2.out).mono ?_
          clear hy2
          rintro e w' (⟨rfl, hJ2, hk2, hf2⟩ | ⟨rfl, hJ2, hf2⟩)
          · have H := Sp.hid (HI8.out true w' (by rw [if_pos rfl]; exact HREL1.out.yield ⟨_, HQX.out _, hJ2⟩ hk2 hf2))
            clear hJ2 hk2 hf2
            gi_wp2
            exact ⟨_, rfl, H.out⟩
          · have H := Sp.hid (HI8.out false w' (by rw [if_neg (by decide)]; exact ⟨⟨_, HPX.out _, hJ2⟩, HREL1.out.far.trans hf2⟩))
            clear hJ2 hf2
            gi_wp2
            exact ⟨_, rfl, H.out⟩
        · intro L u w1 hL hcl hD hI
          simp only [DepsDone, Region.binds, and_true, true_implies] at hD
          have h12 : L 12 = true := hD.1
          obtain ⟨bb, q12, q4, q13, q14, hp⟩ := yinv_done hI h12
          have HI8 := Sp.hid (yinv_later (i := 13) (v := .bool !bb) hI h12 (by decide) ⟨bb, q12, q4, fun _ => rfl, (fun h => by have := hcl 14 13 h (by kernel_rfl); rw [hL] at this; cases this), hp⟩)
          clear hL hcl hD hI hp q14 h12 q13
          dsimp only
          rw [q12, q4]
          clear q12 q4
          gi_wp2
          exact ⟨_, rfl, HI8.out⟩
        · intro L u w1 hL hcl hD hI
          simp only [DepsDone, Region.binds, and_true, true_implies] at hD
          have h12 : L 12 = true := hcl 13 12 hD.2 (by kernel_rfl)
          obtain ⟨bb, q12, q4, q13, q14, hp⟩ := yinv_done hI h12
          have q13' := q13 hD.2
          have HI8 := Sp.hid (yinv_later (i := 14) (v := .bool !bb) hI h12 (by decide) ⟨bb, q12, q4, fun _ => q13', fun _ => rfl, hp⟩)
          clear hL hcl hD hI hp q14 h12 q13
          dsimp only
          rw [q4, q13']
          clear q12 q4 q13'
          gi_wp2
          exact ⟨_, rfl, HI8.out⟩
      case fin2 =>
        intro L u w1 hall hI
        obtain ⟨bb, h12, h4, _, h14, hp⟩ := yinv_done hI (hall 12 (by decide))
        have h14' := h14 (hall 14 (by decide))
        rw [h4, h14']
        have HP := Sp.hid hp
        clear hall hI h12 h4 h14 h14' hp
        cases bb
        · have hp := HP.out
          simp only [Bool.false_eq_true, if_false] at hp
          have HP2 := Sp.hid hp
          clear hp
          gi_wp2
          exact ⟨.bool false, by simp [results, Tryz.f48, go_sem], .inr ⟨rfl, HP2.out.1, HP2.out.2⟩⟩
        · have hp := HP.out
          simp only [if_true] at hp
          have HP2 := Sp.hid hp
          clear hp
          gi_wp2
          refine ⟨⟨k + 1, ⟨by omega, HP2.out⟩, rfl⟩, ?_⟩
          simp [intOf]; omega
  · obtain rfl : k = T.attrs.length := by omega
    have HREL := Sp.hid hrel
    clear hrel
    gi_wp2
    refine ⟨.bool true, by simp [results, Tryz.f48, go_sem], .inl ⟨rfl, ?_, HREL.out.keep, HREL.out.far⟩⟩
    have := HREL.out.seq
    rwa [List.take_length] at this

end Go.Proofs.YtoknglpfchjbjaaGreatDoor
