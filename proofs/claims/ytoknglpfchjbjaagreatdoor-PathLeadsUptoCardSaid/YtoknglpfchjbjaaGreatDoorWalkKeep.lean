/- What a loop over tree.Walk keeps: all but the cells ahead of it and the row that one of them holds. Conditions: none. -/
import Derived.Test.YtoknglpfchjbjaaGreatDoorTree
import Derived.Test.YtoknglpfchjbjaaGreatDoorSeq
import Derived.WalkKit
namespace Go.Proofs.YtoknglpfchjbjaaGreatDoor
open Go.RowKit Go.Sp

/-- The block of the row that the block nb holds: in its one cell, or in its second (a strings.Builder's buffer). -/
def rowOf (nb : Nat) (W : World) : Option Nat := ((W.cell? ⟨nb, 0, none⟩).bind Value.ownBlock).or ((W.cell? ⟨nb, 1, none⟩).bind Value.ownBlock)
theorem rowOf_one {nb : Nat} {W : World} {v : Value} {t : TypeId} (h : W.heap[nb]? = some (.cells #[v] t (0, 0))) : rowOf nb W = v.ownBlock := by
  unfold rowOf
  have h0 : W.cell? ⟨nb, 0, none⟩ = some v := by simp [World.cell?, h]
  have h1 : W.cell? ⟨nb, 1, none⟩ = none := by simp [World.cell?, h]
  rw [h0, h1, Option.bind_some, Option.bind_none, Option.or_none]
theorem rowOf_two {nb : Nat} {W : World} {p : Option Addr} {v : Value} {t : TypeId} (h : W.heap[nb]? = some (.cells #[.pointer p, v] t (0, 0))) : rowOf nb W = v.ownBlock := by
  unfold rowOf
  have h0 : W.cell? ⟨nb, 0, none⟩ = some (.pointer p) := by simp [World.cell?, h]
  have h1 : W.cell? ⟨nb, 1, none⟩ = some v := by simp [World.cell?, h]
  rw [h0, h1]
  rfl

/-- n₀: all below it stays · B: all cells from it on stay, but the row's. -/
structure WKeeps (n₀ B nb : Nat) (W W' : World) : Prop where
  low : Below n₀ W W'
  cells : ∀ k o, B ≤ k → W.heap[k]? = some o → o.isCells = true → some k ≠ rowOf nb W → W'.heap[k]? = some o
  row : rowOf nb W' = rowOf nb W ∨ ∃ g, rowOf nb W' = some g ∧ W.heap.size ≤ g ∧ g < W'.heap.size

theorem WKeeps.refl (n₀ B nb : Nat) (W : World) : WKeeps n₀ B nb W W := ⟨Below.refl _ _, fun _ _ _ h _ _ => h, .inl rfl⟩
theorem WKeeps.trans {n₀ B nb : Nat} {X Y Z : World} (h : WKeeps n₀ B nb X Y) (k : WKeeps n₀ B nb Y Z) : WKeeps n₀ B nb X Z := by
  refine ⟨h.low.trans k.low, fun i o hB hi ho hr => ?_, ?_⟩
  · have hi' := (Array.getElem?_eq_some_iff.1 hi).1
    refine k.cells i o hB (h.cells i o hB hi ho hr) ho ?_
    rcases h.row with e | ⟨g, e, hg, _⟩
    · rw [e]; exact hr
    · rw [e]; intro e'; cases e'; omega
  · rcases k.row with e | ⟨g, e, hg, hg'⟩
    · rw [e]
      rcases h.row with e' | ⟨g, e', h1, h2⟩
      · exact .inl e'
      · exact .inr ⟨g, e', h1, Nat.lt_of_lt_of_le h2 k.low.size⟩
    · exact .inr ⟨g, e, Nat.le_trans h.low.size hg, hg'⟩
theorem rowOf_block {nb : Nat} {W W' : World} (h : W'.heap[nb]? = W.heap[nb]?) : rowOf nb W' = rowOf nb W := by
  unfold rowOf; rw [World.cell?_of_block (a := ⟨nb, 0, none⟩) h, World.cell?_of_block (a := ⟨nb, 1, none⟩) h]
theorem WKeeps.alloc {n₀ B nb : Nat} {W : World} (hn : n₀ ≤ B) (hb : nb < B) (hB : B ≤ W.heap.size) (o : Obj) : WKeeps n₀ B nb W (W.alloc o) :=
  ⟨(Below.refl _ _).alloc (by omega) _, fun k o' _ h _ _ => (Below.heap_alloc _ _ _ (Array.getElem?_eq_some_iff.1 h).1).trans h, .inl (rowOf_block (Below.heap_alloc _ _ _ (by omega)))⟩
theorem WKeeps.putObj {n₀ B nb : Nat} {W : World} (hn : n₀ ≤ B) (hb : nb < B) {l : Nat} (hl : B ≤ l) {o : Obj} (o' : Obj) (h : W.heap[l]? = some o) (ho : o.isCells = false) : WKeeps n₀ B nb W (W.putObj l o') :=
  ⟨⟨rfl, rfl, rfl, by simp, fun k hk => World.putObj_heap_other (by omega)⟩,
    fun k o2 _ h2 hc _ => (World.putObj_heap_other (fun e => by subst e; rw [h] at h2; cases h2; rw [ho] at hc; cases hc)).trans h2, .inl (rowOf_block (World.putObj_heap_other (by omega)))⟩

/-- The row lies in the heap. -/
def RowIn (nb B : Nat) (W : World) : Prop := nb < B ∧ B ≤ W.heap.size ∧ ∀ g, rowOf nb W = some g → g < W.heap.size
theorem RowIn.keep {n₀ B nb : Nat} {W W' : World} (h : RowIn nb B W) (k : WKeeps n₀ B nb W W') : RowIn nb B W' := by
  have hs := k.low.size
  refine ⟨h.1, by have := h.2.1; omega, fun g hg => ?_⟩
  rcases k.row with e | ⟨g', e, h1, h2⟩
  · rw [e] at hg; have := h.2.2 g hg; omega
  · rw [e] at hg; cases hg; omega

/-- A block of cells of the iterator's own. -/
def Mine (nb B k : Nat) (o : Obj) (W : World) : Prop := B ≤ k ∧ W.heap[k]? = some o ∧ o.isCells = true ∧ some k ≠ rowOf nb W
theorem Mine.keep {n₀ B nb k : Nat} {o : Obj} {W W' : World} (h : Mine nb B k o W) (hk : WKeeps n₀ B nb W W') : Mine nb B k o W' := by
  obtain ⟨h1, h2, h3, h4⟩ := h
  have hlt := (Array.getElem?_eq_some_iff.1 h2).1
  refine ⟨h1, hk.cells _ _ h1 h2 h3 h4, h3, ?_⟩
  rcases hk.row with e | ⟨g, e, hg, _⟩
  · rw [e]; exact h4
  · rw [e]; intro e'; cases e'; omega
theorem Mine.new {nb B : Nat} {W : World} {o : Obj} (h : RowIn nb B W) (ho : o.isCells = true) : Mine nb B W.heap.size o (W.alloc o) := by
  refine ⟨h.2.1, World.alloc_heap_new _ _, ho, ?_⟩
  rw [rowOf_block (Below.heap_alloc W o nb (by have := h.1; have := h.2.1; omega))]
  intro e
  have := h.2.2 _ e.symm
  omega
theorem Mine.cell {nb B k : Nat} {vs : Array Value} {t : TypeId} {W : World} (h : Mine nb B k (.cells vs t (0, 0)) W) (i : Nat) : W.cell? ⟨k, i, none⟩ = vs[i]? := by
  obtain ⟨_, h2, _, _⟩ := h
  simp [World.cell?, h2]
theorem Mine.lt {nb B k : Nat} {o : Obj} {W : World} (h : Mine nb B k o W) : k < W.heap.size := (Array.getElem?_eq_some_iff.1 h.2.1).1

theorem wkeeps_own {β : Type} {n₀ B nb B' : Nat} {w₀ : World} (hn : n₀ ≤ B) (hb : nb < B) (hB : B ≤ w₀.heap.size) (hB' : B ≤ B') : OwnFrom B' (fun (_ : β) W => WKeeps n₀ B nb w₀ W) := by
  intro _ X Y row hs hg hr
  have hsz := hs.low.size
  refine hs.trans ⟨⟨hg.os, hg.tape, hg.output, hg.size, fun k hk => hg.block k (by omega) (fun e => by have := (hr k e.symm).1; omega)⟩, fun k o hBk h ho _ => (hg.block k (Array.getElem?_eq_some_iff.1 h).1 (fun e => ?_)).trans h, .inl (rowOf_block (hg.block nb (by omega) (fun e => by have := (hr nb e.symm).1; omega)))⟩
  obtain ⟨_, o', h', hc⟩ := hr k e.symm
  rw [h] at h'; cases h'; rw [ho] at hc; cases hc
theorem rowIn_own {β : Type} {B nb B' : Nat} (hB' : B ≤ B') : OwnFrom B' (fun (_ : β) W => RowIn nb B W) := by
  intro _ X Y row hs hg hr
  have h1 := hs.1
  have h2 := hs.2.1
  refine ⟨h1, Nat.le_trans h2 hg.size, fun g hg' => ?_⟩
  rw [rowOf_block (hg.block nb (by omega) (fun e => by have := (hr nb e.symm).1; omega))] at hg'
  exact Nat.lt_of_lt_of_le (hs.2.2 g hg') hg.size
theorem mine_own {β : Type} {B nb B' k : Nat} {o : Obj} (hb : nb < B) (hB' : B ≤ B') (hnb : ∀ W : World, Mine nb B k o W → nb < W.heap.size) : OwnFrom B' (fun (_ : β) W => Mine nb B k o W) := by
  intro _ X Y row hs hg hr
  have hnx := hnb X hs
  obtain ⟨h1, h2, h3, h4⟩ := hs
  refine ⟨h1, (hg.block k (Array.getElem?_eq_some_iff.1 h2).1 (fun e => ?_)).trans h2, h3, ?_⟩
  · obtain ⟨_, o', h', hc⟩ := hr k e.symm
    rw [h2] at h'; cases h'; rw [h3] at hc; cases hc
  · rw [rowOf_block (hg.block nb hnx (fun e => by have := (hr nb e.symm).1; omega))]; exact h4
theorem mine_own' {β : Type} {B nb B' k : Nat} {o : Obj} (hb : nb < B) (hB' : B ≤ B') : OwnFrom B' (fun (_ : β) W => Mine nb B k o W) :=
  mine_own hb hB' fun W h => by have := h.lt; have := h.1; omega
theorem marks_own {β : Type} {B B' : Nat} {ds : List Deferred} {w₀ : World} (h0 : Marks B ds w₀) (hB' : w₀.heap.size ≤ B') : OwnFrom B' (fun (_ : β) W => Marks B ds W) := by
  intro _ X Y row hs hg hr
  induction ds with
  | nil => exact trivial
  | cons d ds ih =>
    obtain ⟨⟨D, hd, hB, hD, hne⟩, hm⟩ := hs
    obtain ⟨⟨D0, hd0, hB0, hD0, _⟩, hm0⟩ := h0
    rw [hd] at hd0
    cases hd0
    exact ⟨⟨D, hd, hB, (hg.block D (Array.getElem?_eq_some_iff.1 hD).1 (fun e => by have := (hr D e.symm).1; have := (Array.getElem?_eq_some_iff.1 hD0).1; omega)).trans hD, hne⟩, ih hm0 hm⟩
theorem ownFrom_le {β : Type} {B B' : Nat} (h : B ≤ B') {I : β → World → Prop} (hI : OwnFrom B I) : OwnFrom B' I := fun s X Y row hs hg hr => hI s X Y row hs hg (fun r e => ⟨Nat.le_trans h (hr r e).1, (hr r e).2⟩)

/-- What a loop over tree.Walk is handed: a path, a node's cells, the node. -/
abbrev WX := Value × Array Value × TT
def encW (x : WX) : Array Value := #[x.1, .agg x.2.1]
/-- A path. -/
def PathAt (n : Nat) (W : World) (v : Value) : Prop := v = .slice none 0 0 ∨ ∃ b o m c, v = .slice (some ⟨b, o, none⟩) m c ∧ m ≤ n ∧ ∀ j, j < m → ∃ i, W.cell? ⟨b, o + j, none⟩ = some (.int .i64 i)
def NodeAt (n₀ n : Nat) (W : World) (vs : Array Value) (T : TT) : Prop :=
  ∃ aa ca ka ck, vs = #[.string T.label, .string T.text, .slice aa T.attrs.length ca, .slice ka T.kids.length ck] ∧ (treeS n).rep (· < n₀) W [.string T.label, .string T.text, .slice aa T.attrs.length ca, .slice ka T.kids.length ck] T
def GoodW (n₀ n : Nat) (x : WX) (W : World) : Prop := PathAt n W x.1 ∧ NodeAt n₀ n W x.2.1 x.2.2

theorem NodeAt.below {n₀ n : Nat} {W W' : World} {vs : Array Value} {T : TT} (h : NodeAt n₀ n W vs T) (hb : Below n₀ W W') : NodeAt n₀ n W' vs T := by
  obtain ⟨aa, ca, ka, ck, h1, h2⟩ := h
  exact ⟨aa, ca, ka, ck, h1, (treeS n).frame h2 (fun b hb' => hb.block b hb')⟩
theorem NodeAt.up {n₀ n : Nat} {W : World} {vs : Array Value} {T : TT} (h : NodeAt n₀ n W vs T) : NodeAt n₀ (n + 1) W vs T := by
  obtain ⟨aa, ca, ka, ck, h1, h2⟩ := h
  exact ⟨aa, ca, ka, ck, h1, treeS_up h2⟩
theorem PathAt.grown {n : Nat} {W W' : World} {v : Value} (h : PathAt n W v) {row : Option Nat} (hg : W.grownBy W' row) (hrow : ∀ r, row = some r → ∃ o : Obj, W.heap[r]? = some o ∧ o.isCells = false) : PathAt n W' v := by
  rcases h with h | ⟨b, o, m, c, h1, h2, h3⟩
  · exact .inl h
  · exact .inr ⟨b, o, m, c, h1, h2, fun j hj => by obtain ⟨i, hi⟩ := h3 j hj; exact ⟨i, cell_kept hi hg hrow⟩⟩
theorem pathAt_own {n m base : Nat} {W : World} {v : Value} {xs : List Int} (hm : m ≤ n) (h : W.ownsRow base 3 1 v m (xs.map (Value.int .i64))) : PathAt n W v := by
  have hl := h.1
  rcases h.2 with ⟨rfl, _⟩ | ⟨g, cap, cur, rfl, _⟩
  · exact .inl rfl
  · refine .inr ⟨g, 0, m, cap, rfl, hm, fun j hj => ?_⟩
    have hj' : j < xs.length := by simp at hl; omega
    have := h.cells (g := g) rfl j (.int .i64 xs[j]) (by simp [hj'])
    have hadd : (⟨g, 0, none⟩ : Addr).add j = ⟨g, 0 + j, none⟩ := by unfold Addr.add; split <;> simp_all
    rw [hadd] at this
    exact ⟨xs[j], this⟩
theorem PathAt.below {n : Nat} {W W' : World} {v : Value} (h : PathAt n W v) (hb : Below W.heap.size W W') : PathAt n W' v :=
  h.grown (row := none) ⟨hb.os, hb.tape, hb.output, hb.size, fun j hj _ => hb.block j hj⟩ (fun r e => by cases e)
theorem goodW_putObj {n₀ n : Nat} {x : WX} {W : World} {l : Nat} {o : Obj} (o' : Obj) (hl : n₀ ≤ l) (h : W.heap[l]? = some o) (ho : o.isCells = false) (hg : GoodW n₀ n x W) : GoodW n₀ n x (W.putObj l o') :=
  ⟨hg.1.grown (grownBy_putObj' W l o') (fun r e => by cases e; exact ⟨o, h, ho⟩), hg.2.below ⟨rfl, rfl, rfl, by simp, fun k hk => World.putObj_heap_other (by omega)⟩⟩
theorem goodW_alloc {n₀ n : Nat} {x : WX} {W : World} (o : Obj) (hl : n₀ ≤ W.heap.size) (hg : GoodW n₀ n x W) : GoodW n₀ n x (W.alloc o) :=
  ⟨hg.1.grown (World.grownBy_alloc W o none) (fun r e => by cases e), hg.2.below ((Below.refl _ _).alloc hl _)⟩

theorem prefix_more {T kid : TT} {n k : Nat} (hlt : k < T.kids.length) (hk : kid = T.kids[k]) {pre : List WX} {x : WX} (h : (pre ++ [x]).map (·.2.2) <+: nodesM n kid) :
    (T :: (T.kids.take k).flatMap (nodesM n) ++ pre.map (·.2.2)) ++ [x].map (·.2.2) <+: nodesM (n + 1) T := by
  have h1 : T.kids = T.kids.take k ++ (kid :: T.kids.drop (k + 1)) := by rw [hk, List.getElem_cons_drop, List.take_append_drop]
  have h2 : nodesM (n + 1) T = (T :: (T.kids.take k).flatMap (nodesM n)) ++ (nodesM n kid ++ (T.kids.drop (k + 1)).flatMap (nodesM n)) := by
    show T :: T.kids.flatMap (nodesM n) = _
    conv => lhs; rw [h1]
    simp
  rw [h2, List.append_assoc, ← List.map_append]
  exact List.prefix_append_right_inj _ |>.2 (h.trans (List.prefix_append _ _))

/-- Where a walk over a tree stands: the nodes that it has handed over, and what it holds. -/
structure WRel (n₀ B nb : Nat) (J : List WX → World → Prop) (W : World) (bs : List (Nat × Obj)) (ds : List Deferred) (xs : List TT) (w : World) : Prop where
  seq : ∃ q : List WX, q.map (·.2.2) = xs ∧ J q w
  row : RowIn nb B w
  box : ∀ b ∈ bs, Mine nb B b.1 b.2 w
  keep : WKeeps n₀ B nb W w
  marks : Marks W.heap.size ds w

section
variable {n₀ B nb : Nat} {J : List WX → World → Prop} {W : World} {bs : List (Nat × Obj)} {ds : List Deferred} {xs : List TT} {w : World}
theorem WRel.own (hn : n₀ ≤ B) (hb : nb < B) (hB : B ≤ W.heap.size) (hJ : OwnFrom W.heap.size J) {w0 : World} (h0 : WRel n₀ B nb J W bs ds xs w0) {B' : Nat} (hB' : w0.heap.size ≤ B') : OwnFrom B' (fun (xs : List TT) w => WRel n₀ B nb J W bs ds xs w) := by
  have hs0 := h0.keep.low.size
  intro xs X Y row h hg hr
  obtain ⟨⟨q, h1, h2⟩, h3, h4, h5, h6⟩ := h
  refine ⟨⟨q, h1, ownFrom_le (by omega) hJ q X Y row h2 hg hr⟩, rowIn_own (β := Unit) (B' := B') (by omega) () X Y row h3 hg hr, fun b hb' => mine_own' (β := Unit) (B' := B') hb (by omega) () X Y row (h4 b hb') hg hr,
    wkeeps_own (β := Unit) hn hb hB (B' := B') (by omega) () X Y row h5 hg hr, marks_own (β := Unit) h0.marks hB' () X Y row h6 hg hr⟩
theorem WRel.alloc (hn : n₀ ≤ B) (hJ : OwnFrom W.heap.size J) (h : WRel n₀ B nb J W bs ds xs w) (o : Obj) : WRel n₀ B nb J W bs ds xs (w.alloc o) := by
  have hk : WKeeps n₀ B nb w (w.alloc o) := WKeeps.alloc hn h.row.1 h.row.2.1 o
  obtain ⟨q, h1, h2⟩ := h.seq
  exact ⟨⟨q, h1, hJ.alloc o h2⟩, h.row.keep hk, fun b hb => (h.box b hb).keep hk, h.keep.trans hk, h.marks.keep fun k o' _ hk' _ => (Below.heap_alloc _ _ _ (Array.getElem?_eq_some_iff.1 hk').1).trans hk'⟩
/-- .. and the block is one of its own. -/
theorem WRel.more (hn : n₀ ≤ B) (hJ : OwnFrom W.heap.size J) (h : WRel n₀ B nb J W bs ds xs w) {o : Obj} (ho : o.isCells = true) : WRel n₀ B nb J W ((w.heap.size, o) :: bs) ds xs (w.alloc o) := by
  have h1 := h.alloc hn hJ o
  refine ⟨h1.seq, h1.row, fun b hb => ?_, h1.keep, h1.marks⟩
  rcases List.mem_cons.1 hb with rfl | hb
  · exact Mine.new h.row ho
  · exact h1.box b hb
theorem WRel.yield (h : WRel n₀ B nb J W bs ds xs w) {w' : World} {q : List WX} (hq : q.map (·.2.2) = xs) {x : WX} (hJ : J (q ++ [x]) w') (hk : WKeeps n₀ B nb w w') (hf : KeepsFrom W.heap.size w w') : WRel n₀ B nb J W bs ds (xs ++ [x.2.2]) w' :=
  ⟨⟨_, by rw [List.map_append, hq]; rfl, hJ⟩, h.row.keep hk, fun b hb => (h.box b hb).keep hk, h.keep.trans hk, h.marks.keep hf.same⟩
theorem WKeeps.of_below (hn : n₀ ≤ B) (hb : nb < B) {w' : World} (hB : B ≤ w.heap.size) (h : Below w.heap.size w w') : WKeeps n₀ B nb w w' :=
  ⟨h.mono (by omega), fun k _ _ hk _ _ => (h.block k (Array.getElem?_eq_some_iff.1 hk).1).trans hk, .inl (rowOf_block (h.block nb (by omega)))⟩
theorem KeepsFrom.of_below {C : Nat} {w' : World} (h : Below w.heap.size w w') : KeepsFrom C w w' := ⟨h.size, fun k _ _ hk _ => (h.block k (Array.getElem?_eq_some_iff.1 hk).1).trans hk⟩
theorem WRel.below (hn : n₀ ≤ B) (hJ : OwnFrom W.heap.size J) (h : WRel n₀ B nb J W bs ds xs w) {w' : World} (hb : Below w.heap.size w w') : WRel n₀ B nb J W bs ds xs w' := by
  have hk : WKeeps n₀ B nb w w' := WKeeps.of_below hn h.row.1 h.row.2.1 hb
  obtain ⟨q, h1, h2⟩ := h.seq
  exact ⟨⟨q, h1, hJ q w w' none h2 ⟨hb.os, hb.tape, hb.output, hb.size, fun j hj _ => hb.block j hj⟩ (fun r e => by cases e)⟩, h.row.keep hk, fun b hb => (h.box b hb).keep hk, h.keep.trans hk, h.marks.keep (fun k o _ hk _ => (hb.block k (Array.getElem?_eq_some_iff.1 hk).1).trans hk)⟩
theorem WRel.less {b : Nat × Obj} (h : WRel n₀ B nb J W (b :: bs) ds xs w) : WRel n₀ B nb J W bs ds xs w := ⟨h.seq, h.row, fun b hb => h.box b (List.mem_cons_of_mem _ hb), h.keep, h.marks⟩
end

end Go.Proofs.YtoknglpfchjbjaaGreatDoor
