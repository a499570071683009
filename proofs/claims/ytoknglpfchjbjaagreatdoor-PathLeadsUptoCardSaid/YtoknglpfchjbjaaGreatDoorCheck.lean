/- tree.Check: what is wrong with a tree. Conditions: the argument is a tree, the table of spans as laid. -/
import Derived.Test.YtoknglpfchjbjaaGreatDoorCheckA
import Derived.Test.YtoknglpfchjbjaaGreatDoorScopeIn
import Derived.WalkMore
import Derived.Laws.EntriesVeiled
namespace Go.Proofs.YtoknglpfchjbjaaGreatDoor
open Go.RowKit Go.Sp Go.Maps

attribute [local go_sem] Oper.semAt_some

/-- The row of nodes, and the nodes. -/
def NodesIn (nb n : Nat) (w4 : World) (pre : List WX) (W : World) : Prop :=
  (∃ v, W.heap[nb]? = some (.cells #[v] 27 (0, 0)) ∧ W.ownsRow (nb + 1) 29 4 v pre.length (pre.flatMap (fun x => x.2.1.toList))) ∧ (∀ x ∈ pre, NodeAt nb n W x.2.1 x.2.2) ∧ Below nb w4 W ∧ nb + 1 ≤ W.heap.size

theorem NodesIn.rowIn {nb n : Nat} {w4 W : World} {pre : List WX} (h : NodesIn nb n w4 pre W) : RowIn nb (nb + 1) W := by
  obtain ⟨⟨v, h1, h2⟩, _, _, h4⟩ := h
  refine ⟨Nat.lt_succ_self _, h4, fun g hg => ?_⟩
  rw [rowOf_one h1] at hg
  exact (h2.lt g hg).2
theorem NodesIn.own {nb n : Nat} {w4 : World} {B' : Nat} (hB : nb + 1 ≤ B') : OwnFrom B' (fun pre W => NodesIn nb n w4 pre W) := by
  intro pre X Y row h hg hr
  have hnx := h.2.2.2
  obtain ⟨⟨v, h1, h2⟩, h3, h4, h5⟩ := h
  have hnb : Y.heap[nb]? = X.heap[nb]? := hg.block nb (by omega) (fun e => by have := (hr nb e.symm).1; omega)
  have hb : Below nb X Y := ⟨hg.os, hg.tape, hg.output, hg.size, fun k hk => hg.block k (by omega) (fun e => by have := (hr k e.symm).1; omega)⟩
  refine ⟨⟨v, hnb.trans h1, h2.kept hg ?_⟩, fun x hx => (h3 x hx).below hb, h4.trans hb, Nat.le_trans h5 hg.size⟩
  by_cases hv : v.ownBlock = none
  · exact .inl hv
  · refine .inr (fun e => ?_)
    obtain ⟨g, hvg⟩ := Option.ne_none_iff_exists'.1 hv
    obtain ⟨_, o, ho, hc⟩ := hr g (by rw [← e, hvg])
    rcases h2.2 with ⟨hn, _⟩ | ⟨g', cap, cur, hv', _, hg', _⟩
    · rw [hn] at hvg; cases hvg
    · rw [hv'] at hvg
      cases hvg
      rw [hg'] at ho; cases ho; cases hc

theorem nodes_length {n : Nat} : ∀ {xs : List WX} {W : World} {nb : Nat}, (∀ x ∈ xs, NodeAt nb n W x.2.1 x.2.2) → (xs.flatMap (fun x => x.2.1.toList)).length = xs.length * 4
  | [], _, _, _ => rfl
  | x :: xs, W, nb, h => by
    obtain ⟨_, _, _, _, hx, _⟩ := h x (by simp)
    rw [List.flatMap_cons, List.length_append, nodes_length (fun y hy => h y (by simp [hy])), hx, List.length_cons]
    simp; omega

theorem app_post {nb : Nat} {W3 w1 : World} {v0 : Value} {k g cap : Nat} {xs ys : List Value} (hn : nb < W3.heap.size) (hv0 : W3.heap[nb]? = some (.cells #[v0] 27 (0, 0))) (hown : W3.ownsRow (nb + 1) 29 4 v0 k xs)
    (hgo : v0.ownBlock = some g ∨ W3.heap.size ≤ g) (hr : w1.ownsRow (nb + 1) 29 4 (.slice (some ⟨g, 0, none⟩) (k + 1) cap) (k + 1) ys)
    (hw1 : w1.heap[nb]? = some (.cells (#[v0].setIfInBounds 0 (.slice (some ⟨g, 0, none⟩) (k + 1) cap)) 27 (0, 0))) (hrest : Rest2 nb v0.ownBlock W3 w1) :
    (∀ (j : Nat) (o : Obj), W3.heap[j]? = some o → o.isCells = false → w1.heap[j]? = some o) ∧ WKeeps nb (nb + 1) nb W3 w1 := by
  have hr0 : rowOf nb W3 = v0.ownBlock := rowOf_one hv0
  have hr1 : rowOf nb w1 = some g := rowOf_one hw1
  refine ⟨fun j o hj ho => ?_, ⟨⟨hrest.os, hrest.tape, hrest.output, hrest.size, fun j hj => hrest.block j (by omega) (by omega) (fun e => ?_)⟩, fun j o hB hj ho hne => ?_, ?_⟩⟩
  · refine (hrest.block j (Array.getElem?_eq_some_iff.1 hj).1 (fun e => ?_) (fun e => ?_)).trans hj
    · subst e; rw [hv0] at hj; cases hj; cases ho
    · rcases hown.2 with ⟨hv, _⟩ | ⟨g', _, _, hv, _, hg', _⟩
      · rw [hv] at e; cases e
      · rw [hv] at e; cases e; rw [hg'] at hj; cases hj; cases ho
  · have := (hown.lt j e.symm).1; omega
  · rw [hr0] at hne
    exact (hrest.block j (Array.getElem?_eq_some_iff.1 hj).1 (by omega) hne).trans hj
  · rw [hr0, hr1]
    rcases hgo with h | h
    · exact .inl h.symm
    · exact .inr ⟨g, rfl, h, (hr.lt g rfl).2⟩

theorem fits_iff {n : Nat} {T : TT} : Fits n 32 4096 T.kids ↔ (shallow 32 T = true ∧ (nodesM (n + 1) T).length ≤ 4096) := by
  have : (nodesM (n + 1) T).length = 1 + (T.kids.flatMap (nodesM n)).length := by simp [nodesM]; omega
  rw [this]
  exact ⟨fun h => ⟨h.shallow, h.2.2⟩, fun h => ⟨by decide, (shallow_iff.1 h.1).2, h.2⟩⟩

abbrev Boxed2 (W : World) (B : Nat) (t : TypeId) (a b : Value) : Prop := W.heap[B]? = some (.cells #[a, b] t (0, 0))

theorem nodes_get {n nb : Nat} {W : World} : ∀ {xs : List WX}, (∀ x ∈ xs, NodeAt nb n W x.2.1 x.2.2) → ∀ (j i : Nat) (hj : j < xs.length), i < 4 → (xs.flatMap (fun x => x.2.1.toList))[j * 4 + i]? = (xs[j].2.1)[i]?
  | [], _, j, i, hj, _ => by simp at hj
  | x :: xs, h, j, i, hj, hi => by
    obtain ⟨_, _, _, _, hx, _⟩ := h x (by simp)
    have hxl : x.2.1.toList.length = 4 := by rw [hx]; rfl
    cases j with
    | zero =>
      rw [List.flatMap_cons, List.getElem?_append_left (by omega)]
      simp
    | succ j =>
      rw [List.flatMap_cons, List.getElem?_append_right (by omega), hxl, show (j + 1) * 4 + i - 4 = j * 4 + i by omega]
      exact nodes_get (fun y hy => h y (by simp [hy])) j i (by simpa using hj) hi

set_option maxRecDepth 100000 in
set_option maxHeartbeats 4000000 in
theorem check_tree (n : Nat) (hn : n ≤ 2000000) (n₀ : Nat) (vs : Array Value) (T : TT) (w : World) (h : NodeAt n₀ n w vs T) (hn₀ : n₀ ≤ w.heap.size) (hsp : SpansAt w) :
    Calls Tryz.prog 22 #[.agg vs] w fun e w' => e = .returned (.int .i64 (checkM n T)) ∧ Below w.heap.size w w' := by
  have HT := Sp.hid h
  have HSP := Sp.hid hsp
  obtain ⟨aa, ca, ka, ck, rfl, hrep⟩ := h
  cases n with
  | zero => exact hrep.elim
  | succ n =>
  obtain ⟨⟨hl1, hl2, hl3, hl4⟩, aa', ca', ka', ck', hvs, hat, hkd⟩ := tree_open hrep
  simp only [List.cons.injEq, Value.slice.injEq, true_and, and_true] at hvs
  obtain ⟨⟨rfl, rfl⟩, rfl, rfl⟩ := hvs
  obtain ⟨w1, hw1⟩ : ∃ w1, w1 = (w.alloc (.cells #[.string T.label, .string T.text, .slice aa T.attrs.length ca, .slice ka T.kids.length ck] 29)).alloc (.cells #[.int .i64 4096] 3) := ⟨_, rfl⟩
  have hs1 : w1.heap.size = w.heap.size + 2 := by rw [hw1]; simp
  have hb1 : Below w.heap.size w w1 := by rw [hw1]; exact ((Below.refl _ _).alloc (Nat.le_refl _) _).alloc (by simp) _
  have hl : Boxed w1 (w.heap.size + 1) 3 (.int .i64 4096) := by rw [hw1]; have := Boxed.new (w.alloc (.cells #[.string T.label, .string T.text, .slice aa T.attrs.length ca, .slice ka T.kids.length ck] 29)) 3 (.int .i64 4096); simpa using this
  have ht1 : w1.heap[w.heap.size]? = some (.cells #[.string T.label, .string T.text, .slice aa T.attrs.length ca, .slice ka T.kids.length ck] 29 (0, 0)) := by
    rw [hw1]; exact (Below.heap_alloc _ _ _ (by simp)).trans (World.alloc_heap_new w _)
  have HBD : Hid (Calls Tryz.prog 37 #[.agg #[.string T.label, .string T.text, .slice aa T.attrs.length ca, .slice ka T.kids.length ck], .int .i64 32, .pointer (some ⟨w.heap.size + 1, 0, none⟩)] w1 (BoundedPost (w.heap.size + 1) 4096 n 32 T.kids w1)) := Sp.hid (bounded_any n (· < n₀) T.label T.text aa ka T.attrs.length ca T.kids ck 32 (w.heap.size + 1) 4096 w1 (hkd.frame (fun b hb => hb1.block b (by omega))) (fun k hk => ⟨by omega, by omega⟩) hl4 (by decide) (by decide) hl.cell hl.frozen)
  have HT1 := Sp.hid ht1
  have HB1 := Sp.hid hb1
  have HW1 := Sp.hid hw1
  have hs1' : w.heap.size + 2 ≤ w1.heap.size := by omega
  clear hrep hat hkd hl ht1 hb1 hsp hw1 hs1
  refine (callsIn_wide (n := 3)).1 ?_
  refine callsIn_of_wp_marks Tryz.func22 rfl trivial ?_ rfl
  simp only [Tryz.ntmps22, List.size_toArray, List.length_cons, List.length_nil, Nat.reduceAdd, Nat.reduceSub, Array.replicate_succ, Array.replicate_zero, List.push_toArray, List.append_toArray, List.nil_append, List.cons_append]
  gi_wp2
  refine wpIn_scope_straight ?_
  gi_wp2
  refine ⟨trivial, ?_⟩
  rw [← HW1.out]
  refine (callsIn_wide.2 HBD.out).mono ?_
  rintro e w2 ⟨b, left', rfl, hle, hfit, hcount, hg2, hc2, hf2⟩
  have hs2 := hg2.size
  have hb2 : Below w.heap.size w w2 := HB1.out.trans ⟨hg2.os, hg2.tape, hg2.output, hg2.size, fun k hk => hg2.block k (by omega) (fun e => by have := Option.some.inj e; omega)⟩
  have ht2 : w2.heap[w.heap.size]? = some (.cells #[.string T.label, .string T.text, .slice aa T.attrs.length ca, .slice ka T.kids.length ck] 29 (0, 0)) := (hg2.block _ (by omega) (fun e => by have := Option.some.inj e; omega)).trans HT1.out
  have e0 : w2.cell? ⟨w.heap.size, 0, none⟩ = some (.string T.label) := by simp [World.cell?, ht2]
  have e1 : w2.cell? ⟨w.heap.size, 1, none⟩ = some (.string T.text) := by simp [World.cell?, ht2]
  have e2 : w2.cell? ⟨w.heap.size, 2, none⟩ = some (.slice aa T.attrs.length ca) := by simp [World.cell?, ht2]
  have e3 : w2.cell? ⟨w.heap.size, 3, none⟩ = some (.slice ka T.kids.length ck) := by simp [World.cell?, ht2]
  have HCT := Sp.hid hcount
  have HFIT := Sp.hid hfit
  have HB2 := Sp.hid hb2
  have HT2 := Sp.hid ht2
  clear hg2 hc2 hf2 hcount hb2 ht2 hfit
  cases b
  · gi_wp2
    rw [Exit.noGoto_ret]
    have hc17 : checkM (n + 1) T = 17 := by
      unfold checkM
      rw [if_neg]
      rintro ⟨h1, h2⟩
      have := HFIT.out.2 ((fits_iff (n := n)).2 ⟨h1, h2⟩)
      cases this
    refine ⟨.int .i64 17, by simp [results, Tryz.f22, go_sem], by rw [hc17], HB2.out⟩
  have hlen : (nodesM (n + 1) T).length ≤ 4096 := by
    have := HCT.out rfl
    simp only [nodesM, List.length_cons]
    omega
  have HLEN := Sp.hid hlen
  have hcm : checkM (n + 1) T = firstFault (nodesM (n + 1) T) := by
    unfold checkM
    rw [if_pos (fits_iff.1 (HFIT.out.1 rfl))]
  have HCM := Sp.hid hcm
  have hbs : w.heap.size < w2.heap.size := by omega
  clear hlen hcm
  gi_wp2
  refine ⟨trivial, (callsIn_wide.2 (walk_any _ rfl _)).mono ?_⟩
  rintro e w4 ⟨rfl, rfl⟩
  gi_wp2
  obtain ⟨nb, hnb⟩ : ∃ nb, nb = w2.heap.size := ⟨_, rfl⟩
  obtain ⟨w3, hw3⟩ : ∃ w3, w3 = w2.alloc (.cells #[.slice none 0 0] 27) := ⟨_, rfl⟩
  have hs3 : w3.heap.size = nb + 1 := by rw [hw3, hnb]; simp
  have hb3 : Below nb w2 w3 := by rw [hw3, hnb]; exact (Below.refl _ _).alloc (Nat.le_refl _) _
  have hc3 : w3.heap[nb]? = some (.cells #[.slice none 0 0] 27 (0, 0)) := by rw [hw3, hnb]; exact World.alloc_heap_new _ _
  have hrow3 : RowIn nb (nb + 1) w3 := by
    refine ⟨Nat.lt_succ_self _, by omega, fun g hg => ?_⟩
    rw [rowOf_one hc3] at hg
    cases hg
  obtain ⟨w4, hw4⟩ : ∃ w4, w4 = w3.alloc (.cells #[.string T.label, .string T.text, .slice aa T.attrs.length ca, .slice ka T.kids.length ck] 29) := ⟨_, rfl⟩
  have hs4 : w4.heap.size = nb + 2 := by rw [hw4]; simp; omega
  have hmine : Mine nb (nb + 1) (nb + 1) (.cells #[.string T.label, .string T.text, .slice aa T.attrs.length ca, .slice ka T.kids.length ck] 29) w4 := by rw [hw4, ← hs3]; have := Mine.new hrow3 (o := .cells #[.string T.label, .string T.text, .slice aa T.attrs.length ca, .slice ka T.kids.length ck] 29) rfl; rwa [hs3] at this ⊢
  have hk34 : WKeeps nb (nb + 1) nb w3 w4 := by rw [hw4]; exact WKeeps.alloc (Nat.le_succ _) (Nat.lt_succ_self _) (by omega) _
  have hrow4 := hrow3.keep hk34
  have hb4 : Below w.heap.size w w4 := HB2.out.trans ((hb3.trans hk34.low).mono (by omega))
  have hnode4 : NodeAt nb (n + 1) w4 #[.string T.label, .string T.text, .slice aa T.attrs.length ca, .slice ka T.kids.length ck] T := by
    obtain ⟨_, _, _, _, q1, q2⟩ := HT.out.below (hb4.mono hn₀)
    exact ⟨_, _, _, _, q1, (treeS (n + 1)).mono q2 (fun k hk => by omega)⟩
  have hc4 : w4.heap[nb]? = some (.cells #[.slice none 0 0] 27 (0, 0)) := by rw [hw4]; exact (Below.heap_alloc _ _ _ (by omega)).trans hc3
  have hstart : NodesIn nb (n + 1) w4 [] w4 := ⟨⟨_, hc4, World.ownsRow_nil _ _ _ _⟩, by simp, Below.refl _ _, by omega⟩
  have HRUN := Sp.hid (walk_runs (n + 1) hn nb (nb + 1) nb (nb + 1) T _ w4 (Nat.le_succ _) hnode4 hrow4 hmine)
  have HB4 := Sp.hid hb4
  have HST := Sp.hid hstart
  rw [← hw3, ← hw4, ← hnb]
  have hs4' : nb + 2 ≤ w4.heap.size := by omega
  have hnbw : w.heap.size < nb := by omega
  clear hb3 hc3 hrow3 hmine hk34 hrow4 hb4 hnode4 hc4 hstart hw3 hw4 hs3 hs4 e0 e1 e2 e3
  have HNB := Sp.hid hnb
  clear hnb
  refine wpIn_rangeFunc_runs (α := WX) (encs := encW) (Good := GoodW nb (n + 1)) (Kp := WKeeps nb (nb + 1) nb) (w0 := w4) (gf := 59) (lb := #[.pointer (some ⟨nb + 1, 0, none⟩)]) rfl (enters_of Tryz.func59 (by kernel_rfl) rfl)
    HRUN.out (fun h k => h.trans k) (fun W' l' o' o2 hl' h ho _ => WKeeps.putObj (Nat.le_succ _) (Nat.lt_succ_self _) (by omega) o2 h ho) (fun W' o' hs' => WKeeps.alloc (Nat.le_succ _) (Nat.lt_succ_self _) (by omega) o') (WKeeps.refl _ _ _ _) (Nat.le_refl _) (fun _ => rfl)
    (fun pre W' => NodesIn nb (n + 1) w4 pre W') (fun _ _ _ => False) (NodesIn.own (by omega)) (fun c pre X Y row h _ _ => h) HST.out
    (fun pre x a' W' => NodesIn nb (n + 1) w4 pre W' ∧ GoodW nb (n + 1) x W' ∧ ∃ D, a' = ⟨#[Value.agg #[Value.string T.label, Value.string T.text, Value.slice aa T.attrs.length ca, Value.slice ka T.kids.length ck], Value.pointer (some { block := w.heap.size, off := 0 }), Value.int IntKind.i64 0, Value.pointer (some { block := w.heap.size + 1, off := 0 }), Value.pointer (some { block := nb, off := 0 }), undef, Value.pointer (some { block := D, off := 0 }), undef, undef, undef, undef, undef, Value.agg #[Value.string T.label, Value.string T.text, Value.slice aa T.attrs.length ca, Value.slice ka T.kids.length ck], Value.bool true, Value.bool false, Value.agg #[Value.string T.label, Value.string T.text, Value.slice aa T.attrs.length ca, Value.slice ka T.kids.length ck], Value.func (Fn.func 59) #[] #[Value.pointer (some { block := nb + 1, off := 0 })], x.1, Value.agg x.2.1, undef, undef, undef, undef, undef, undef, undef, undef, undef, undef, undef, undef, undef, undef, undef, undef, undef, undef, undef, undef, undef, undef, undef, undef, undef, undef, undef], []⟩ ∧ Mine nb (nb + 1) D (.cells x.2.1 29) W')
    ?ownax ?assign ?body ?done ?stop
  case ownax =>
    intro pre x a' _ X Y row h hg hr
    obtain ⟨h1, h2, D, h3, h4⟩ := h
    exact ⟨NodesIn.own (by omega) pre X Y row h1 hg hr, ⟨h2.1.grown hg (fun r e => (hr r e).2), h2.2.below ⟨hg.os, hg.tape, hg.output, hg.size, fun k hk => hg.block k (by have := h1.2.2.2; omega) (fun e => by have := (hr k e.symm).1; omega)⟩⟩, D, h3, mine_own' (β := Unit) (Nat.lt_succ_self _) (by omega) () X Y row h4 hg hr⟩
  case assign =>
    intro l' pre x W3 K hI hG _ hs3 hK
    have hK' := Sp.hid (hK · (W3.alloc (.cells x.2.1 29)))
    clear hK
    have HI := Sp.hid hI
    have HG := Sp.hid hG
    obtain ⟨x1, x2, x3⟩ := x
    obtain ⟨_, xa, xc, xk, xck, hx2, hxr⟩ := hG
    dsimp only at hx2
    subst hx2
    clear hI hxr
    dsimp only [encW] at hK' ⊢
    gi_wp2
    refine hK'.out _ (KeepsFrom.of_below ((Below.refl _ _).alloc (Nat.le_refl _) _)) (WKeeps.alloc (Nat.le_succ _) (Nat.lt_succ_self _) (by omega) _) ⟨?_, goodW_alloc _ (by omega) HG.out, W3.heap.size, rfl, Mine.new HI.out.rowIn rfl⟩
    exact (NodesIn.own (nb := nb) (B' := nb + 1) (Nat.le_refl _)).alloc _ HI.out
  case body =>
    rintro l' pre x a' W3 ⟨hI, hG, D, rfl, hD⟩ hsp hs3
    obtain ⟨x1, x2, x3⟩ := x
    obtain ⟨hpath, hnd⟩ := hG
    have hnd' := hnd
    obtain ⟨xa, xc, xk, xck, hx2, hxr⟩ := hnd'
    dsimp only at hx2 hnd hpath hD ⊢
    subst hx2
    have hkl : pre.length + 1 ≤ 4096 := by
      have h1 := hsp.length_le
      have h2 := HLEN.out
      simp at h1
      omega
    obtain ⟨⟨v0, hv0, hown⟩, hnds, hb43, hsz3⟩ := hI
    have hxl := nodes_length hnds
    obtain ⟨k, hk⟩ : ∃ k, k = pre.length := ⟨_, rfl⟩
    obtain ⟨xs, hxs⟩ : ∃ xs, xs = pre.flatMap (fun x => x.2.1.toList) := ⟨_, rfl⟩
    rw [← hk] at hown hkl hxl
    rw [← hxs] at hown hxl
    have hne : v0.ownBlock ≠ some nb := fun e => by have := hown.lt nb e; omega
    have hDne : some D ≠ v0.ownBlock := by
      have h4 := hD.2.2.2
      rw [rowOf_one hv0] at h4
      exact h4
    have hDB := hD.1
    have hDl := hD.lt
    have HV0 := Sp.hid hv0
    have HOWN := Sp.hid hown
    have HD := Sp.hid hD
    have HNE := Sp.hid hne
    have HDNE := Sp.hid hDne
    have HXL := Sp.hid hxl
    have HNDS := Sp.hid hnds
    have HND := Sp.hid hnd
    have HB43 := Sp.hid hb43
    have HK := Sp.hid hk
    have HXS := Sp.hid hxs
    clear hv0 hown hD hne hDne hxl hnds hnd hb43 hpath hsp hxr hk hxs
    gi_wp2
    refine wpIn_region_inv (by kernel_rfl) [some 19, some 20, some 21, some 22, some 23, some 24, none, none] rfl (by kernel_rfl) (by kernel_rfl) ?fr ?hfr
      (AppInv W3 nb 0 #[v0] 27 (nb + 1) v0 k xs [.string x3.label, .string x3.text, .slice xa x3.attrs.length xc, .slice xk x3.kids.length xck]) (fun u => app_start) ?step ?fin
    case hfr => intro u; simp only [Sp.fillFrom, Sp.idx_cons, Sp.idx_nil, Option.some.injEq, reduceCtorEq, reduceIte, Nat.reduceEqDiff, Nat.reduceAdd, Option.map_some, Option.map_none]; exact rfl
    case step =>
      have d0 := HD.out.cell 0
      have d1 := HD.out.cell 1
      have d2 := HD.out.cell 2
      have d3 := HD.out.cell 3
      simp at d0 d1 d2 d3
      have cV : W3.cell? ⟨nb, 0, none⟩ = some v0 := by simp [World.cell?, HV0.out]
      have HD0 := Sp.hid d0
      have HD1 := Sp.hid d1
      have HD2 := Sp.hid d2
      have HD3 := Sp.hid d3
      have HCV := Sp.hid cV
      clear d0 d1 d2 d3 cV
      refine ⟨?_, ?_, ?_, ?_, ?_, ?_, ?_, ?_, trivial⟩
      · intro L u w1 hL hD hI
        obtain ⟨hb, hI'⟩ := app_0 hL hI
        have c := (hb.cell (p := ⟨nb, 0, none⟩) (by show nb < _; omega)).trans HCV.out
        have HI' := Sp.hid hI'
        clear hL hD hI hI' hb
        dsimp only
        gi_wp2
        exact ⟨_, rfl, HI'.out⟩
      · intro L u w1 hL hD hI
        have hI' := app_1 hL hI
        have hblk := hI.1.block D hDl (by omega) HDNE.out
        have c0 := (World.cell?_of_block (a := ⟨D, 0, none⟩) hblk).trans HD0.out
        have c1 := (World.cell?_of_block (a := ⟨D, 1, none⟩) hblk).trans HD1.out
        have c2 := (World.cell?_of_block (a := ⟨D, 2, none⟩) hblk).trans HD2.out
        have c3 := (World.cell?_of_block (a := ⟨D, 3, none⟩) hblk).trans HD3.out
        have HI' := Sp.hid hI'
        clear hL hD hI hI' hblk
        dsimp only
        gi_wp2
        exact ⟨_, rfl, HI'.out⟩
      · intro L u w1 hL hD hI
        simp only [DepsDone, Region.binds, and_true, true_implies] at hD
        have hI' := app_2 hL hI
        have h0 := hI.2.1 hD
        have HI' := Sp.hid hI'
        clear hL hD hI hI'
        dsimp only
        rw [h0]
        clear h0
        rcases Joins.ownsRow_forms HOWN.out with ⟨hv, hk0⟩ | ⟨g, cap, hv⟩
        · subst hv
          subst hk0
          gi_wp2
          exact ⟨_, rfl, HI'.out⟩
        · subst hv
          gi_wp2
          exact ⟨_, rfl, HI'.out⟩
      · intro L u w1 hL hD hI
        obtain ⟨_, hI'⟩ := app_3 hL hI
        have HI' := Sp.hid hI'
        clear hL hD hI hI'
        dsimp only
        gi_wp2
        exact ⟨_, rfl, HI'.out _ _ ((Below.refl _ _).alloc (Nat.le_refl _) _) (z4_new _ _)⟩
      · intro L u w1 hL hD hI
        simp only [DepsDone, Region.binds, and_true, true_implies] at hD
        obtain ⟨h0, hb, ⟨z, h3, hz⟩, hI'⟩ := app_4 (by omega) HNE.out HV0.out hL hD.1 hD.2.1 hI
        have hown1 := ownsRow_below' HOWN.out hb
        have hs1 := hb.size
        clear hL hD hI
        dsimp only
        rw [h0, h3]
        obtain ⟨i0, hi0, hz0, hz1, hz2⟩ := info_parts infoTree
        refine wpListIn_append_own_at _ rfl _ _ 27 rfl (nb + 1) 29 i0 _ 4 80 Tryz.underlying27 hi0 hz0 hz1 hz2 rfl (by decide) v0 k xs rfl hown1 ⟨z, 0, none⟩ 1 1 z4 rfl rfl hz (by decide) (by unfold maxLen; omega) (by omega) (by omega) ?_
        intro v' w' r1 r2 _ r4
        exact ⟨_, rfl, hI' v' w' r1 r2 r4⟩
      · intro L u w1 hL hD hI
        simp only [DepsDone, Region.binds, and_true, true_implies] at hD
        obtain ⟨h2, g, cap, h4, hI'⟩ := app_5 hD.1 hD.2.1 hL hI
        have HI' := Sp.hid hI'
        clear hL hD hI hI'
        dsimp only
        rw [h2, h4]
        gi_wp2
        exact ⟨_, rfl, HI'.out⟩
      · intro L u w1 hL hD hI
        simp only [DepsDone, Region.binds, and_true, true_implies] at hD
        obtain ⟨g, cap, h1, h5, hrw, hI'⟩ := app_6 (by simp) HXL.out (by omega) hD.1 hD.2.1 hL hI
        have HI' := Sp.hid hI'
        have HRW := Sp.hid hrw
        have c0 := row_cell0 HXL.out hrw
        have c1 := row_cell1 HXL.out hrw
        have c2 := row_cell2 HXL.out hrw
        have c3 := row_cell3 HXL.out hrw
        have f0 := hrw.frozenAt (k * 4)
        have f1 := hrw.frozenAt (k * 4 + 1)
        have f2 := hrw.frozenAt (k * 4 + 2)
        have f3 := hrw.frozenAt (k * 4 + 3)
        clear hL hD hI hI' hrw
        dsimp only
        rw [h1, h5]
        clear h1 h5
        gi_wp2
        obtain ⟨r1, r2⟩ := own_store4 HXL.out HRW.out
        exact ⟨undef, rfl, HI'.out _ (r1 _ _ _ _) (r2 _ _ _ _) _⟩
      · intro L u w1 hL hD hI
        simp only [DepsDone, Region.binds, and_true, true_implies] at hD
        obtain ⟨g, cap, h4, hnbc, hI'⟩ := app_7 hD.1 hL hI
        have c : w1.cell? ⟨nb, 0, none⟩ = some v0 := by simp [World.cell?, hnbc]
        have f : w1.frozen? ⟨nb, 0, none⟩ = false := by simp [World.frozen?, hnbc]
        rw [h4] at hI'
        have HI' := Sp.hid hI'
        clear hL hD hI hI' hnbc
        dsimp only
        rw [h4]
        clear h4
        gi_wp2
        exact ⟨undef, rfl, HI'.out _⟩
    case fin =>
      intro L u w1 hall hI
      obtain ⟨g, cap, h4, hgd, hgo, hr, hnbw1, hrest⟩ := app_fin hall hI
      obtain ⟨p1, p2⟩ := app_post (by omega) HV0.out HOWN.out hgo hr hnbw1 hrest
      have hnew : NodesIn nb (n + 1) w4 (pre ++ [(x1, #[.string x3.label, .string x3.text, .slice xa x3.attrs.length xc, .slice xk x3.kids.length xck], x3)]) w1 := by
        refine ⟨⟨_, hnbw1, ?_⟩, fun x hx => ?_, HB43.out.trans p2.low, by have := p2.low.size; omega⟩
        · rw [List.length_append, List.length_singleton, ← HK.out, List.flatMap_append, ← HXS.out]
          simpa using hr
        · rcases List.mem_append.1 hx with hx | hx
          · exact (HNDS.out x hx).below p2.low
          · simp only [List.mem_singleton] at hx
            subst hx
            exact HND.out.below p2.low
      have HKF : Hid (KeepsFrom w4.heap.size W3 w1) := Sp.hid ⟨hrest.size, fun j o _ hj ho => p1 j o hj ho⟩
      have HP2 := Sp.hid p2
      have HNEW := Sp.hid hnew
      clear hall hI h4 hgo hr hnbw1 hrest p1 p2 hnew
      gi_wp2
      exact ⟨HKF.out, HP2.out, HNEW.out⟩
  case done =>
    intro D xs W' hD hS hI hd
    dsimp only
    obtain ⟨⟨v, hv, hown⟩, hnds, hb4, hsz⟩ := hI
    have hcv : W'.cell? ⟨nb, 0, none⟩ = some v := by simp [World.cell?, hv]
    have hbw : Below w.heap.size w W' := HB4.out.trans (hb4.mono (by omega))
    have HV := Sp.hid hv
    have HOWN := Sp.hid hown
    have HNDS := Sp.hid hnds
    have HBW := Sp.hid hbw
    have HD := Sp.hid hd
    have HS := Sp.hid hS
    clear hv hown hnds hb4 hd hS hbw HRUN HST
    gi_wp2
    refine wpIn_label ?_
    gi_wp2
    obtain ⟨w7, hw7⟩ : ∃ w7, w7 = W'.alloc (.cells faultCells 111) := ⟨_, rfl⟩
    have hs7 : W'.heap.size + 1 ≤ w7.heap.size := by rw [hw7]; simp
    have hb7 : Below W'.heap.size W' w7 := by rw [hw7]; exact (Below.refl _ _).alloc (Nat.le_refl _) _
    have hf7 : w7.heap[W'.heap.size]? = some (.cells faultCells 111 (0, 0)) := by rw [hw7]; exact World.alloc_heap_new _ _
    have HB7 := Sp.hid hb7
    have HF7 := Sp.hid hf7
    have HW7 := Sp.hid hw7
    have hDl : D < W'.heap.size := (Array.getElem?_eq_some_iff.1 HD.out).1
    have hxl : 0 < xs.length := by
      have h := congrArg List.length HS.out
      simp [nodesM] at h
      omega
    have hxb : xs.length ≤ 4096 := by
      have h := congrArg List.length HS.out
      have h2 := HLEN.out
      simp at h
      omega
    clear hb7 hf7 hw7
    refine ⟨trivial, (callsIn_wide.2 (faults_any _)).mono ?_⟩
    rintro e w7' ⟨rfl, h7'⟩
    rw [← HW7.out] at h7'
    rw [h7']
    clear h7' w7'
    have HAL := Sp.hid (fun (W : World) (hb : Below w7.heap.size w7 W) => (HBW.out.trans ((HB7.out.trans (hb.mono (by omega))).mono (by omega : w.heap.size ≤ W'.heap.size)) : Below w.heap.size w W))
    obtain ⟨kk, hkk⟩ : ∃ kk, kk = xs.length := ⟨_, rfl⟩
    have HKK := Sp.hid hkk
    rw [← hkk] at hxl hxb HOWN
    obtain ⟨g, cap, hvg⟩ := Joins.ownsRow_form HOWN.out hxl
    have HVG := Sp.hid hvg
    rw [hvg] at HOWN HV hcv
    clear hvg hkk
    have hgW : g < W'.heap.size := (HOWN.out.lt g rfl).2
    gi_wp2
    clear hcv
    gi_loopw [7, 27] (fun f i wr => f = .int .i64 0 ∧ ∃ q : Nat, q ≤ 6 ∧ i = .int .i64 q ∧ Below w7.heap.size w7 wr ∧ (∀ p, p < q → ∀ T' ∈ nodesM (n + 1) T, faultB p T' = false)) (fun _ i _ => 6 - (intOf i).toNat)
    case atStart => exact ⟨rfl, 0, by omega, rfl, Below.refl _ _, by omega⟩
    case round =>
      obtain ⟨rfl, q, hq, rfl, hbr, hqr⟩ := hrel
      by_cases hlt : q < 6
      · obtain ⟨fc1, fc2⟩ := fault_cells q hlt
        have c1 : wr.cell? ⟨W'.heap.size, q * 2, none⟩ = some (.int .i64 (faultNo q)) := by
          rw [hbr.cell (p := ⟨W'.heap.size, q * 2, none⟩) (by show W'.heap.size < _; omega), cell_of_row _ _ _ _ _ (0, 0) HF7.out]; exact fc1
        have c2 : wr.cell? ⟨W'.heap.size, q * 2 + 1, none⟩ = some (.func (.func (faultFn q)) #[] #[]) := by
          rw [hbr.cell (p := ⟨W'.heap.size, q * 2 + 1, none⟩) (by show W'.heap.size < _; omega), cell_of_row _ _ _ _ _ (0, 0) HF7.out]; exact fc2
        have cn : wr.cell? ⟨nb, 0, none⟩ = some (.slice (some ⟨g, 0, none⟩) kk cap) := by
          rw [hbr.cell (p := ⟨nb, 0, none⟩) (by show nb < _; omega), HB7.out.cell (p := ⟨nb, 0, none⟩) (by show nb < _; omega)]; simp [World.cell?, HV.out]
        have hen : faultNo q ≠ 0 := by
          have : q = 0 ∨ q = 1 ∨ q = 2 ∨ q = 3 ∨ q = 4 ∨ q = 5 := by omega
          rcases this with rfl | rfl | rfl | rfl | rfl | rfl <;> decide
        have hent : ∀ args W, (callFunc (faultFn q) args).run Tryz.prog W = .ok (.enter (faultFn q) args) W := by
          have : q = 0 ∨ q = 1 ∨ q = 2 ∨ q = 3 ∨ q = 4 ∨ q = 5 := by omega
          rcases this with rfl | rfl | rfl | rfl | rfl | rfl
          · exact enters_of Tryz.func60 (by kernel_rfl) rfl
          · exact enters_of Tryz.func61 (by kernel_rfl) rfl
          · exact enters_of Tryz.func65 (by kernel_rfl) rfl
          · exact enters_of Tryz.func68 (by kernel_rfl) rfl
          · exact enters_of Tryz.func69 (by kernel_rfl) rfl
          · exact enters_of Tryz.func70 (by kernel_rfl) rfl
        have HFA := Sp.hid (fun (W : World) (x : WX) (h : NodeAt nb (n + 1) W x.2.1 x.2.2) (hn : nb ≤ W.heap.size) (hsp : SpansAt W) => fault_any h hn hsp q hlt)
        obtain ⟨ff, hff⟩ : ∃ ff, ff = faultFn q := ⟨_, rfl⟩
        obtain ⟨en, hene⟩ : ∃ en, en = faultNo q := ⟨_, rfl⟩
        rw [← hff] at c2 hent HFA
        rw [← hene] at c1 hen
        have HBR := Sp.hid hbr
        have HQR := Sp.hid hqr
        have hsr := hbr.size
        have hnbr : nb < wr.heap.size := by omega
        have hfbr : W'.heap.size < wr.heap.size := by omega
        have HEN := Sp.hid hene
        clear fc1 fc2 hbr hqr hff hene
        gi_wp2
        clear c1 c2 cn
        obtain ⟨wo, rfl⟩ : ∃ wo : World, wo = wr := ⟨_, rfl⟩
        obtain ⟨w8, hw8⟩ : ∃ w8, w8 = wo.alloc (.cells #[.int .i64 en, .func (.func ff) #[] #[]] 111) := ⟨_, rfl⟩
        have hb8 : Below w7.heap.size w7 w8 := by rw [hw8]; exact HBR.out.alloc hsr _
        have hs8 : wo.heap.size < w8.heap.size := by rw [hw8]; simp
        have hf8 : Boxed2 w8 wo.heap.size 111 (.int .i64 en) (.func (.func ff) #[] #[]) := by rw [hw8]; exact World.alloc_heap_new _ _
        rw [← hw8]
        have HB8 := Sp.hid hb8
        have HF8 := Sp.hid hf8
        clear hw8 hb8 hf8
        gi_loopw [7, 33] (fun f i wr => f = .int .i64 0 ∧ ∃ j : Nat, j ≤ kk ∧ i = .int .i64 j ∧ Below w8.heap.size w8 wr ∧ (∀ x ∈ xs.take j, faultB q x.2.2 = false)) (fun _ i _ => kk - (intOf i).toNat)
        case atStart => exact ⟨rfl, 0, Nat.zero_le _, rfl, Below.refl _ _, by simp⟩
        case round =>
          obtain ⟨rfl, j, hj, rfl, hbj, hjr⟩ := hrel
          by_cases hjlt : j < kk
          · have hjx : j < xs.length := by have := HKK.out; omega
            have hbw : Below W'.heap.size W' wr := HB7.out.trans ((HB8.out.mono (by omega)).trans (hbj.mono (by have := HB8.out.size; omega)))
            have hnd := HNDS.out xs[j] (List.getElem_mem hjx)
            obtain ⟨ya, yc, yk, yck, hy2, hyr⟩ := hnd
            have hndr : NodeAt nb (n + 1) wr xs[j].2.1 xs[j].2.2 := (HNDS.out xs[j] (List.getElem_mem hjx)).below (hbw.mono (by omega))
            have hcell : ∀ i, i < 4 → wr.cell? ⟨g, j * 4 + i, none⟩ = (xs[j].2.1)[i]? := fun i hi => by
              rw [hbw.cell (p := ⟨g, j * 4 + i, none⟩) hgW, HOWN.out.cellAt _ (by omega), nodes_get HNDS.out j i hjx hi]
            have hrj : faultB q xs[j].2.2 = false → ∀ x ∈ xs.take (j + 1), faultB q x.2.2 = false := by
              intro hr x hx
              rw [List.take_succ_eq_append_getElem hjx] at hx
              rcases List.mem_append.1 hx with hx | hx
              · exact hjr x hx
              · simp only [List.mem_singleton] at hx; rw [hx]; exact hr
            have hmem : xs[j].2.2 ∈ nodesM (n + 1) T := by rw [← HS.out]; exact List.mem_map.2 ⟨xs[j], List.getElem_mem hjx, rfl⟩
            obtain ⟨y, hy⟩ : ∃ y, y = xs[j] := ⟨_, rfl⟩
            rw [← hy] at hy2 hndr hcell hrj hmem
            obtain ⟨y1, y2, y3⟩ := y
            dsimp only at hy2 hndr hcell hrj
            subst hy2
            have c0 := hcell 0 (by decide)
            have c1 := hcell 1 (by decide)
            have c2 := hcell 2 (by decide)
            have c3 := hcell 3 (by decide)
            simp only [Nat.add_zero, List.getElem?_toArray, List.getElem?_cons_zero, List.getElem?_cons_succ] at c0 c1 c2 c3
            have hf8 : wr.heap[wo.heap.size]? = some (.cells #[.int .i64 en, .func (.func ff) #[] #[]] 111 (0, 0)) := (hbj.block _ hs8).trans HF8.out
            have b0 : wr.cell? ⟨wo.heap.size, 0, none⟩ = some (.int .i64 en) := by simp [World.cell?, hf8]
            have b1 : wr.cell? ⟨wo.heap.size, 1, none⟩ = some (.func (.func ff) #[] #[]) := by simp [World.cell?, hf8]
            obtain ⟨w9, hw9⟩ : ∃ w9, w9 = wr.alloc (.cells #[.string y3.label, .string y3.text, .slice ya y3.attrs.length yc, .slice yk y3.kids.length yck] 29) := ⟨_, rfl⟩
            have hb9 : Below w8.heap.size w8 w9 := by rw [hw9]; exact hbj.alloc hbj.size _
            have hs9 : wr.heap.size < w9.heap.size := by rw [hw9]; simp
            have hsj := hbj.size
            have hs88 := HB8.out.size
            have hb79 : Below w7.heap.size w7 w9 := HB8.out.trans (hb9.mono hs88)
            have hnd9 : NodeAt nb (n + 1) w9 #[.string y3.label, .string y3.text, .slice ya y3.attrs.length yc, .slice yk y3.kids.length yck] y3 := hndr.below (by rw [hw9]; exact (Below.refl _ _).alloc (by omega) _)
            have HCALL := Sp.hid (HFA.out w9 (y1, #[.string y3.label, .string y3.text, .slice ya y3.attrs.length yc, .slice yk y3.kids.length yck], y3) hnd9 (by omega) (HSP.out.below (HAL.out _ hb79) (Nat.le_refl _)))
            have hf9 : w9.heap[wo.heap.size]? = some (.cells #[.int .i64 en, .func (.func ff) #[] #[]] 111 (0, 0)) := (hb9.block _ hs8).trans HF8.out
            have HF9 := Sp.hid hf9
            have HB9 := Sp.hid hb9
            have HRJ := Sp.hid hrj
            have HMEM := Sp.hid hmem
            obtain ⟨bb, hbbe⟩ : ∃ bb, bb = faultB q y3 := ⟨_, rfl⟩
            rw [← hbbe] at HCALL
            have HBBE := Sp.hid hbbe
            have HW9 := Sp.hid hw9
            have hgr : g < wr.heap.size := by omega
            have hwor : wo.heap.size < wr.heap.size := by omega
            clear hbw hyr hndr hcell hrj hy hf8 hb9 hb79 hnd9 hw9 hbj hjr hf9 hmem hbbe
            gi_wp2
            clear c0 c1 c2 c3 b0 b1
            rw [← HW9.out]
            refine ⟨trivial, (callsIn_wide.2 HCALL.out).mono ?_⟩
            rintro e w10 ⟨rfl, hb10⟩
            have hb810 : Below w8.heap.size w8 w10 := HB9.out.trans (hb10.mono (by omega))
            have HB10 := Sp.hid hb810
            cases bb
            · clear hb10 hb810
              gi_wp2
              go_roundw
              case rel => first | exact ⟨rfl, j + 1, by omega, by go_num, HB10.out, HRJ.out HBBE.out.symm⟩ | ((repeat apply Exists.intro); refine ⟨⟨rfl, j + 1, by omega, by go_num, HB10.out, HRJ.out HBBE.out.symm⟩, ?_⟩; rw [show decide ((q : Int) < 6) = true from decide_eq_true (by omega), show ((j + 1 : Nat) : Int) = (j : Int) + 1 from rfl])
              case measure => simp [intOf]; omega
            · have hf10 : w10.heap[wo.heap.size]? = some (.cells #[.int .i64 en, .func (.func ff) #[] #[]] 111 (0, 0)) := (hb10.block _ (by omega)).trans HF9.out
              have b0 : w10.cell? ⟨wo.heap.size, 0, none⟩ = some (.int .i64 en) := by simp [World.cell?, hf10]
              clear hb10 hb810 hf10
              gi_wp2
              rw [Exit.noGoto_ret]
              have hb710 : Below w7.heap.size w7 w10 := HB8.out.trans (HB10.out.mono hs88)
              have hDr : w10.heap[D]? = some (.deferred (some [])) := (hb710.block D (by omega)).trans ((HB7.out.block D hDl).trans HD.out)
              refine ⟨by simp, .inl ⟨_, _, rfl, run_takeDeferred hDr, ?_⟩⟩
              have hfin : checkM (n + 1) T = en := by rw [HCM.out, firstFault_some hlt ⟨_, HMEM.out, HBBE.out.symm⟩ HQR.out, ← HEN.out]
              refine ⟨.int .i64 en, by simp [results, Tryz.f22, go_sem], by rw [hfin], ?_⟩
              exact (HAL.out _ hb710).trans ⟨rfl, rfl, rfl, by simp, fun k hk => World.putObj_heap_other (by omega)⟩
          · obtain rfl : j = kk := by omega
            have hqr' : ∀ p, p < q + 1 → ∀ T' ∈ nodesM (n + 1) T, faultB p T' = false := by
              intro p hp T' hT'
              by_cases hqe : p = q
              · rw [← HS.out] at hT'
                obtain ⟨x, hx, rfl⟩ := List.mem_map.1 hT'
                rw [hqe]
                exact hjr x (by rw [HKK.out, List.take_length]; exact hx)
              · exact HQR.out p (by omega) T' hT'
            have HQR' := Sp.hid hqr'
            have HBJ := Sp.hid hbj
            clear hqr' hbj hjr
            gi_wp2
            go_roundw
            case rel => exact ⟨rfl, q + 1, by omega, by go_num, HB8.out.trans (HBJ.out.mono (by have := HB8.out.size; omega)), HQR'.out⟩
            case measure => simp [intOf]; omega
      · obtain rfl : q = 6 := by omega
        have HBR := Sp.hid hbr
        have HQR := Sp.hid hqr
        clear hbr hqr
        gi_wp2
        rw [Exit.noGoto_ret]
        have hDr : wr.heap[D]? = some (.deferred (some [])) := (HBR.out.block D (by omega)).trans ((HB7.out.block D hDl).trans HD.out)
        refine ⟨by simp, .inl ⟨_, _, rfl, run_takeDeferred hDr, ?_⟩⟩
        have hfin : checkM (n + 1) T = 0 := by rw [HCM.out]; exact firstFault_none HQR.out
        refine ⟨.int .i64 0, by simp [results, Tryz.f22, go_sem], by rw [hfin], ?_⟩
        exact (HAL.out _ HBR.out).trans ⟨rfl, rfl, rfl, by simp, fun k hk => World.putObj_heap_other (by omega)⟩
  case stop => exact fun D c pre W' _ _ h _ => h.elim
end Go.Proofs.YtoknglpfchjbjaaGreatDoor
