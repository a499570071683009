/- path.texts: the texts within a tree, joined. Conditions: fewer than 2^12 nodes, texts of up to 2^20 bytes. -/
import Derived.Test.YtoknglpfchjbjaaGreatDoorSelect
import Derived.Test.YtoknglpfchjbjaaGreatDoorShelf
namespace Go.Proofs.YtoknglpfchjbjaaGreatDoor
open Go.RowKit Go.Sp Go.Maps

attribute [local go_sem] Oper.semAt_some

def textOf (t : TT) : List UInt8 := if t.label.toList.isEmpty then t.text.data.toList else []
/-- The texts within a tree. -/
def textsM (n : Nat) (T : TT) : List UInt8 := (nodesM n T).flatMap textOf

/-- The builder, and what has been written. -/
def TextsIn (nb n : Nat) (w4 : World) (pre : List WX) (W : World) : Prop :=
  (∃ p v, (p = none ∨ p = some ⟨nb, 0, none⟩) ∧ W.heap[nb]? = some (.cells #[.pointer p, v] 121 (0, 0)) ∧ W.ownsRow (nb + 1) 5 1 v (Lib.byteCells (pre.flatMap fun x => textOf x.2.2)).length (Lib.byteCells (pre.flatMap fun x => textOf x.2.2))) ∧ Below nb w4 W ∧ nb + 1 ≤ W.heap.size
theorem TextsIn.rowIn {nb n : Nat} {w4 W : World} {pre : List WX} (h : TextsIn nb n w4 pre W) : RowIn nb (nb + 1) W := by
  obtain ⟨⟨p, v, _, h1, h2⟩, _, h4⟩ := h
  refine ⟨Nat.lt_succ_self _, h4, fun g hg => ?_⟩
  rw [rowOf_two h1] at hg
  exact (h2.lt g hg).2
theorem TextsIn.own {nb n : Nat} {w4 : World} {B' : Nat} (hB : nb + 1 ≤ B') : OwnFrom B' (fun pre W => TextsIn nb n w4 pre W) := by
  intro pre X Y row h hg hr
  have hnx := h.2.2
  obtain ⟨⟨p, v, hp, h1, h2⟩, h4, h5⟩ := h
  have hnb : Y.heap[nb]? = X.heap[nb]? := hg.block nb (by omega) (fun e => by have := (hr nb e.symm).1; omega)
  have hb : Below nb X Y := ⟨hg.os, hg.tape, hg.output, hg.size, fun k hk => hg.block k (by omega) (fun e => by have := (hr k e.symm).1; omega)⟩
  refine ⟨⟨p, v, hp, hnb.trans h1, h2.kept hg ?_⟩, h4.trans hb, Nat.le_trans h5 hg.size⟩
  by_cases hv : v.ownBlock = none
  · exact .inl hv
  · refine .inr (fun e => ?_)
    obtain ⟨g, hvg⟩ := Option.ne_none_iff_exists'.1 hv
    obtain ⟨_, o, ho, hc⟩ := hr g (by rw [← e, hvg])
    obtain ⟨_, o', h1', h2'⟩ := row_cel h2 g hvg
    rw [h1'] at ho; cases ho; rw [h2'] at hc; cases hc

/-- What stays where the builder has been written. -/
theorem wr_post {nb : Nat} {W3 w1 : World} {p : Option Addr} {v : Value} {xs ys : List Value} (hn : nb < W3.heap.size) (hv : W3.heap[nb]? = some (.cells #[.pointer p, v] 121 (0, 0))) (hown : W3.ownsRow (nb + 1) 5 1 v xs.length xs) (h : WrPost (nb + 1) nb v ys W3 w1) :
    (∀ (j : Nat) (o : Obj), W3.heap[j]? = some o → o.isCells = false → w1.heap[j]? = some o) ∧ WKeeps nb (nb + 1) nb W3 w1 := by
  obtain ⟨v', h1, h2, h3, h4, h5, h6, h7, h8, h9⟩ := h
  have hr0 : rowOf nb W3 = v.ownBlock := rowOf_two hv
  have hr1 : rowOf nb w1 = v'.ownBlock := rowOf_two h1
  refine ⟨fun j o hj ho => ?_, ⟨⟨h5, h6, h7, h8, fun j hj => h9 j (by omega) (by omega) (fun e => ?_)⟩, fun j o hB hj ho hne => ?_, ?_⟩⟩
  · refine (h9 j (Array.getElem?_eq_some_iff.1 hj).1 (fun e => ?_) (fun e => ?_)).trans hj
    · subst e; rw [hv] at hj; cases hj; cases ho
    · obtain ⟨_, o', q1, q2⟩ := row_cel hown j e.symm
      rw [q1] at hj; cases hj; rw [q2] at ho; cases ho
  · have := (hown.lt j e.symm).1; omega
  · rw [hr0] at hne
    exact (h9 j (Array.getElem?_eq_some_iff.1 hj).1 (by omega) hne).trans hj
  · rw [hr0, hr1]
    rcases h4 with h | ⟨g, h, hg⟩
    · exact .inl h
    · exact .inr ⟨g, h, hg, (h2.lt g h).2⟩

theorem texts_length {n : Nat} {T : TT} (hwide : (nodesM n T).length ≤ 4096) (htx : ∀ t ∈ nodesM n T, t.text.size ≤ 1048576) {l : List TT} (h : l <+: nodesM n T) : (l.flatMap textOf).length ≤ 4294967296 := by
  have main : ∀ l : List TT, (∀ t ∈ l, t.text.size ≤ 1048576) → (l.flatMap textOf).length ≤ l.length * 1048576 := by
    intro l
    induction l with
    | nil => intro _; simp
    | cons t l ih =>
      intro hl
      rw [List.flatMap_cons, List.length_append, List.length_cons, Nat.add_mul]
      have h1 := ih (fun x hx => hl x (by simp [hx]))
      have h2 : (textOf t).length ≤ 1048576 := by
        unfold textOf
        split
        · exact hl t (by simp)
        · simp
      omega
  have h1 := main l (fun t ht => htx t (h.subset ht))
  exact Nat.le_trans h1 (Nat.mul_le_mul_right 1048576 (Nat.le_trans h.length_le hwide))

theorem calls_round {N : Nat} (l : Nat) {f : FuncId} {args : Array Value} {w : World} {R : Ending → World → Prop} (h : Calls Tryz.prog f args w R) : CallsIn (Fence.wide.inRound l) N Tryz.prog f args w R := callsIn_wide.2 h

set_option maxRecDepth 100000 in
set_option maxHeartbeats 8000000 in
theorem texts_any (n : Nat) (hn : n ≤ 2000000) (n₀ : Nat) (vs : Array Value) (T : TT) (w : World) (h : NodeAt n₀ n w vs T) (hn₀ : n₀ ≤ w.heap.size) (hwide : (nodesM n T).length ≤ 4096) (htx : ∀ t ∈ nodesM n T, t.text.size ≤ 1048576) :
    Calls Tryz.prog 27 #[.agg vs] w fun e w' => e = .returned (.string ⟨(textsM n T).toArray⟩) ∧ Below w.heap.size w w' := by
  have HT := Sp.hid h
  have HWIDE := Sp.hid hwide
  have HTX := Sp.hid htx
  obtain ⟨aa, ca, ka, ck, rfl, hrep⟩ := h
  clear hrep hwide htx
  refine (callsIn_wide (n := 3)).1 ?_
  refine callsIn_of_wp_marks Tryz.func27 rfl trivial ?_ rfl
  simp only [Tryz.ntmps27, List.size_toArray, List.length_cons, List.length_nil, Nat.reduceAdd, Nat.reduceSub, Array.replicate_succ, Array.replicate_zero, List.push_toArray, List.append_toArray, List.nil_append, List.cons_append]
  gi_wp2
  refine ⟨trivial, (callsIn_wide.2 (walk_any _ rfl _)).mono ?_⟩
  rintro e w4 ⟨rfl, rfl⟩
  gi_wp2
  obtain ⟨nb, hnb⟩ : ∃ nb, nb = w.heap.size + 1 := ⟨_, rfl⟩
  obtain ⟨w2, hw2⟩ : ∃ w2, w2 = w.alloc (.cells #[.string T.label, .string T.text, .slice aa T.attrs.length ca, .slice ka T.kids.length ck] 29) := ⟨_, rfl⟩
  have hs2 : w2.heap.size = nb := by rw [hw2, hnb]; simp
  have hb2 : Below w.heap.size w w2 := by rw [hw2]; exact (Below.refl _ _).alloc (Nat.le_refl _) _
  obtain ⟨w3, hw3⟩ : ∃ w3, w3 = w2.alloc (.cells #[.pointer none, .slice none 0 0] 121) := ⟨_, rfl⟩
  have hs3 : w3.heap.size = nb + 1 := by rw [hw3]; simp; omega
  have hb3 : Below nb w2 w3 := by rw [hw3, ← hs2]; exact (Below.refl _ _).alloc (Nat.le_refl _) _
  have hc3 : w3.heap[nb]? = some (.cells #[.pointer none, .slice none 0 0] 121 (0, 0)) := by rw [hw3, ← hs2]; exact World.alloc_heap_new _ _
  have hrow3 : RowIn nb (nb + 1) w3 := by
    refine ⟨Nat.lt_succ_self _, by omega, fun g hg => ?_⟩
    rw [rowOf_two hc3] at hg
    cases hg
  obtain ⟨w4, hw4⟩ : ∃ w4, w4 = w3.alloc (.cells #[.string T.label, .string T.text, .slice aa T.attrs.length ca, .slice ka T.kids.length ck] 29) := ⟨_, rfl⟩
  have hs4 : w4.heap.size = nb + 2 := by rw [hw4]; simp; omega
  have hmine : Mine nb (nb + 1) (nb + 1) (.cells #[.string T.label, .string T.text, .slice aa T.attrs.length ca, .slice ka T.kids.length ck] 29) w4 := by
    have := Mine.new hrow3 (o := .cells #[.string T.label, .string T.text, .slice aa T.attrs.length ca, .slice ka T.kids.length ck] 29) rfl
    rwa [← hw4, hs3] at this
  have hk34 : WKeeps nb (nb + 1) nb w3 w4 := by rw [hw4]; exact WKeeps.alloc (Nat.le_succ _) (Nat.lt_succ_self _) (by omega) _
  have hrow4 := hrow3.keep hk34
  have hb4 : Below w.heap.size w w4 := hb2.trans ((hb3.trans hk34.low).mono (by omega))
  have hnode4 : NodeAt nb n w4 #[.string T.label, .string T.text, .slice aa T.attrs.length ca, .slice ka T.kids.length ck] T := by
    obtain ⟨_, _, _, _, q1, q2⟩ := HT.out.below (hb4.mono hn₀)
    exact ⟨_, _, _, _, q1, (treeS n).mono q2 (fun k hk => by omega)⟩
  have hc4 : w4.heap[nb]? = some (.cells #[.pointer none, .slice none 0 0] 121 (0, 0)) := by rw [hw4]; exact (Below.heap_alloc _ _ _ (by omega)).trans hc3
  have hstart : TextsIn nb n w4 [] w4 := ⟨⟨none, _, .inl rfl, hc4, World.ownsRow_nil _ _ _ _⟩, Below.refl _ _, by omega⟩
  have HRUN := Sp.hid (walk_runs n hn nb (nb + 1) nb (nb + 1) T _ w4 (Nat.le_succ _) hnode4 hrow4 hmine)
  have HB4 := Sp.hid hb4
  have HST := Sp.hid hstart
  rw [← hw2, ← hw3, ← hw4, ← hnb]
  have hs4' : nb + 2 ≤ w4.heap.size := by omega
  have hnbw : w.heap.size < nb := by omega
  clear hb2 hb3 hc3 hrow3 hmine hk34 hrow4 hb4 hnode4 hc4 hstart hw2 hw3 hw4 hs2 hs3 hs4
  have HNB := Sp.hid hnb
  clear hnb
  refine wpIn_rangeFunc_runs (α := WX) (encs := encW) (Good := GoodW nb n) (Kp := WKeeps nb (nb + 1) nb) (w0 := w4) (gf := 59) (lb := #[.pointer (some ⟨nb + 1, 0, none⟩)]) rfl (enters_of Tryz.func59 (by kernel_rfl) rfl)
    HRUN.out (fun h k => h.trans k) (fun W' l' o' o2 hl' h ho _ => WKeeps.putObj (Nat.le_succ _) (Nat.lt_succ_self _) (by omega) o2 h ho) (fun W' o' hs' => WKeeps.alloc (Nat.le_succ _) (Nat.lt_succ_self _) (by omega) o') (WKeeps.refl _ _ _ _) (Nat.le_refl _) (fun _ => rfl)
    (fun pre W' => TextsIn nb n w4 pre W') (fun _ _ _ => False) (TextsIn.own (by omega)) (fun c pre X Y row h _ _ => h) HST.out
    (fun pre x a' W' => TextsIn nb n w4 pre W' ∧ ∃ D aa1 ca1 ka1 ck1, x.2.1 = #[.string x.2.2.label, .string x.2.2.text, .slice aa1 x.2.2.attrs.length ca1, .slice ka1 x.2.2.kids.length ck1] ∧ a' = ⟨#[Value.agg #[Value.string T.label, Value.string T.text, Value.slice aa T.attrs.length ca, Value.slice ka T.kids.length ck], Value.pointer (some { block := w.heap.size, off := 0 }), Value.string { data := #[] }, Value.pointer (some { block := nb, off := 0 }), undef, Value.pointer (some { block := D, off := 0 }), Value.agg #[Value.string T.label, Value.string T.text, Value.slice aa T.attrs.length ca, Value.slice ka T.kids.length ck], Value.func (Fn.func 59) #[] #[Value.pointer (some { block := nb + 1, off := 0 })], x.1, Value.agg x.2.1, undef, undef, undef, undef, undef, undef, undef], []⟩ ∧ Mine nb (nb + 1) D (.cells x.2.1 29) W')
    ?ownax ?assign ?body ?done ?stop
  case ownax =>
    intro pre x a' _ X Y row h hg hr
    obtain ⟨h1, D, aa1, ca1, ka1, ck1, h2, h3, h4⟩ := h
    exact ⟨TextsIn.own (by omega) pre X Y row h1 hg hr, D, aa1, ca1, ka1, ck1, h2, h3, mine_own' (β := Unit) (Nat.lt_succ_self _) (by omega) () X Y row h4 hg hr⟩
  case assign =>
    intro l' pre x W3 K hI hG _ hs3 hK
    have hK' := Sp.hid (hK · (W3.alloc (.cells x.2.1 29)))
    clear hK
    have HI := Sp.hid hI
    obtain ⟨x1, x2, x3⟩ := x
    obtain ⟨_, xa, xc, xk, xck, hx2, hxr⟩ := hG
    dsimp only at hx2
    subst hx2
    clear hI hxr
    dsimp only [encW] at hK' ⊢
    gi_wp2
    refine hK'.out _ (KeepsFrom.of_below ((Below.refl _ _).alloc (Nat.le_refl _) _)) (WKeeps.alloc (Nat.le_succ _) (Nat.lt_succ_self _) HI.out.2.2 _) ⟨(TextsIn.own (B' := w4.heap.size) (by omega)).alloc _ HI.out, W3.heap.size, xa, xc, xk, xck, rfl, rfl, Mine.new HI.out.rowIn rfl⟩
  case body =>
    rintro l' pre x a' W3 ⟨hI, D, xa, xc, xk, xck, hx2, rfl, hD⟩ hsp hs3
    obtain ⟨x1, x2, x3⟩ := x
    dsimp only at hx2 hD ⊢
    subst hx2
    have hrowI := hI.rowIn
    obtain ⟨⟨p, v0, hp, hv0, hown⟩, hb43, hsz⟩ := hI
    have hnbl : nb < W3.heap.size := by omega
    have d0 := hD.cell 0
    have d1 := hD.cell 1
    simp only [List.getElem?_toArray, List.getElem?_cons_zero, List.getElem?_cons_succ] at d0 d1
    have hDl := hD.lt
    have hne : v0.ownBlock ≠ some nb := fun e => by have := (hown.lt nb e).1; omega
    have hlenx := texts_length HWIDE.out HTX.out hsp
    have hlenx' : (pre.flatMap fun x => textOf x.2.2).length + (textOf x3).length ≤ 4294967296 := by
      rw [List.map_append, List.flatMap_append, List.length_append, List.flatMap_map] at hlenx
      simpa using hlenx
    have hfl : ∀ z : WX, z.2.2 = x3 → (pre ++ [z]).flatMap (fun x => textOf x.2.2) = (pre.flatMap fun x => textOf x.2.2) ++ textOf x3 := fun z hz => by rw [List.flatMap_append]; simp [hz]
    have HFL := Sp.hid hfl
    have HV0 := Sp.hid hv0
    have HOWN := Sp.hid hown
    have HB43 := Sp.hid hb43
    obtain ⟨bs, hbs⟩ : ∃ bs, bs = pre.flatMap fun x => textOf x.2.2 := ⟨_, rfl⟩
    rw [← hbs] at hlenx' HOWN HFL
    have HP := Sp.hid hp
    clear hrowI hv0 hown hb43 hD hsp hlenx hfl hbs hp
    cases hlab : x3.label.toList.isEmpty
    · have htx : textOf x3 = [] := by unfold textOf; rw [hlab]; rfl
      have HNEW : Hid (∀ z : WX, z.2.2 = x3 → TextsIn nb n w4 (pre ++ [z]) W3) := Sp.hid (fun z hz => ⟨⟨p, v0, HP.out, HV0.out, by rw [HFL.out z hz, htx, List.append_nil]; exact HOWN.out⟩, HB43.out, hsz⟩)
      clear htx
      gi_wp2
      exact ⟨KeepsFrom.refl _ _, WKeeps.refl _ _ _ _, HNEW.out _ rfl⟩
    · have htx : textOf x3 = x3.text.data.toList := by unfold textOf; rw [hlab]; rfl
      have hll : (Lib.byteCells bs).length + x3.text.size ≤ 140737488355328 := by
        rw [htx] at hlenx'
        rw [Lib.byteCells_length]
        have : x3.text.data.toList.length = x3.text.size := by rw [Array.length_toList]; rfl
        omega
      have HW := Sp.hid (writeString_any (nb + 1) nb p v0 (Lib.byteCells bs) x3.text W3 HP.out HV0.out HOWN.out hne hll (by omega))
      have HTXO := Sp.hid htx
      clear htx hll
      gi_wp2
      refine ⟨trivial, rfl, ?_⟩
      refine (calls_round l' HW.out).mono ?_
      rintro e w9 ⟨rfl, hwr⟩
      obtain ⟨p1, p2⟩ := wr_post hnbl HV0.out HOWN.out hwr
      have hsz9 := p2.low.size
      have HNEW : Hid (∀ z : WX, z.2.2 = x3 → TextsIn nb n w4 (pre ++ [z]) w9) := Sp.hid (fun z hz => by
        obtain ⟨v', q1, q2, _⟩ := hwr
        refine ⟨⟨_, v', .inr rfl, q1, ?_⟩, HB43.out.trans p2.low, by omega⟩
        rw [HFL.out z hz, HTXO.out]
        have e : Lib.byteCells (bs ++ x3.text.data.toList) = Lib.byteCells bs ++ Lib.strCells x3.text := by rw [Lib.strCells_eq]; simp [Lib.byteCells]
        rw [e]; exact q2)
      have HKF : Hid (KeepsFrom w4.heap.size W3 w9) := Sp.hid ⟨p2.low.size, fun j o _ hj ho => p1 j o hj ho⟩
      have HP2 := Sp.hid p2
      clear hwr p1 p2
      gi_wp2
      exact ⟨HKF.out, HP2.out, HNEW.out _ rfl⟩
  case done =>
    intro D xs W' hD hS hI hd
    dsimp only
    obtain ⟨⟨p, v, hp, hv, hown⟩, hb4, hsz⟩ := hI
    have hbw : Below w.heap.size w W' := HB4.out.trans (hb4.mono (by omega))
    have hbytes : (xs.flatMap fun x => textOf x.2.2) = textsM n T := by
      unfold textsM
      rw [← hS, List.flatMap_map]
    rw [hbytes] at hown
    have hne : v.ownBlock ≠ some nb := fun e => by have := (hown.lt nb e).1; omega
    have hbld : Lib.IsBuilder 121 5 nb nb (Lib.byteCells (textsM n T)) W' := by
      rcases hp with rfl | rfl
      · exact .inl ⟨Nat.le_refl _, v, hv, Joins.ownsRow_le hown (Nat.le_succ _), hne⟩
      · exact .inr ⟨Nat.le_refl _, v, hv, Joins.ownsRow_le hown (Nat.le_succ _), hne⟩
    have HSTR := Sp.hid (builderString_any nb nb (textsM n T) W' hbld (by omega))
    have HBW := Sp.hid hbw
    have HD := Sp.hid hd
    clear hp hv hown hb4 hbw hbytes hbld hS hd HRUN HST
    gi_wp2
    refine ⟨trivial, ?_⟩
    refine (callsIn_wide.2 HSTR.out).mono ?_
    rintro e w9 ⟨rfl, hb9, hok9⟩
    have hd9 : w9.heap[D]? = some (.deferred (some [])) := hok9 D _ HD.out (fun e => by have := Option.some.inj e; omega) (fun c fz e => by cases e)
    have HD9 := Sp.hid hd9
    have HB9 := Sp.hid (HBW.out.trans (hb9.mono (by omega)) : Below w.heap.size w w9)
    clear hb9 hok9 hd9
    gi_wp2
    refine ⟨by simp, .inl ⟨_, _, rfl, run_takeDeferred HD9.out, ?_⟩⟩
    exact ⟨.string ⟨(textsM n T).toArray⟩, by simp [results, Tryz.f27, go_sem], rfl, HB9.out.trans ⟨rfl, rfl, rfl, by simp, fun k hk => World.putObj_heap_other (by omega)⟩⟩
  case stop => exact fun D c pre W' _ _ h _ => h.elim

end Go.Proofs.YtoknglpfchjbjaaGreatDoor
