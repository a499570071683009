/- path.Select: what is wrong with the tree, or with the path, or else to what it leads. Conditions: the table of spans as laid. -/
import Derived.Test.YtoknglpfchjbjaaGreatDoorHits
import Derived.Test.YtoknglpfchjbjaaGreatDoorPathCheckB
namespace Go.Proofs.YtoknglpfchjbjaaGreatDoor
open Go.RowKit Go.Sp Go.Maps

attribute [local go_sem] Oper.semAt_some

theorem infoHit : (Tryz.prog.info? 53).map (fun i => (i.zero, i.size, i.bytes)) = some (some (.agg #[.slice none 0 0, .string ⟨#[]⟩]), 2, 40) := by kernel_rfl

/-- A hit: its path, and its attribute. -/
def hitS : Shape (List Int × ByteArray) where
  sz := 2
  rep F w vs x := ∃ a c, vs = [.slice a x.1.length c, .string x.2] ∧ Sl (Shape.int .i64) F w a x.1
  len := by rintro _ _ _ _ ⟨_, _, rfl, _⟩; rfl
  frame := by rintro F w w' vs x ⟨a, c, rfl, h⟩ hw; exact ⟨a, c, rfl, h.frame hw⟩
  mono := by rintro F G w vs x ⟨a, c, rfl, h⟩ hF; exact ⟨a, c, rfl, h.mono hF⟩
theorem hit_cells {F : Nat → Prop} {w : World} {a : Option Addr} {xs : List (List Int × ByteArray)} (h : Sl hitS F w a xs) (i : Nat) (hi : i < xs.length) :
    ∃ b o va vc, a = some ⟨b, o, none⟩ ∧ F b ∧ Sl (Shape.int .i64) F w va xs[i].1 ∧ w.cell? ⟨b, o + i * 2, none⟩ = some (.slice va xs[i].1.length vc) ∧ w.cell? ⟨b, o + i * 2 + 1, none⟩ = some (.string xs[i].2) := by
  obtain ⟨b, o, vs, h1, h2, ⟨va, vc, rfl, h3⟩, h5⟩ := h i hi
  exact ⟨b, o, va, vc, h1, h2, h3, h5 0 (by simp), h5 1 (by simp)⟩

abbrev hitV (x : HX) : List Value := [x.1, .string x.2.2]
/-- The row of hits, and the hits. -/
def HitsIn (nb : Nat) (w4 : World) (pre : List HX) (W : World) : Prop :=
  (∃ v, W.heap[nb]? = some (.cells #[v] 35 (0, 0)) ∧ W.ownsRow (nb + 1) 53 2 v pre.length (pre.flatMap hitV)) ∧ (∀ x ∈ pre, GoodH nb (nb + 1) nb x W) ∧ Below nb w4 W ∧ nb + 1 ≤ W.heap.size

theorem HitsIn.rowIn {nb : Nat} {w4 W : World} {pre : List HX} (h : HitsIn nb w4 pre W) : RowIn nb (nb + 1) W := by
  obtain ⟨⟨v, h1, h2⟩, _, _, h4⟩ := h
  refine ⟨Nat.lt_succ_self _, h4, fun g hg => ?_⟩
  rw [rowOf_one h1] at hg
  exact (h2.lt g hg).2
theorem HitsIn.own {nb : Nat} {w4 : World} {B' : Nat} (hB : nb + 1 ≤ B') : OwnFrom B' (fun pre W => HitsIn nb w4 pre W) := by
  intro pre X Y row h hg hr
  have hnx := h.2.2.2
  have hk : WKeeps nb (nb + 1) nb X Y := wkeeps_own (β := Unit) (Nat.le_succ _) (Nat.lt_succ_self _) hnx hB () X Y row (WKeeps.refl _ _ _ _) hg hr
  obtain ⟨⟨v, h1, h2⟩, h3, h4, h5⟩ := h
  have hnb : Y.heap[nb]? = X.heap[nb]? := hg.block nb (by omega) (fun e => by have := (hr nb e.symm).1; omega)
  refine ⟨⟨v, hnb.trans h1, h2.kept hg ?_⟩, fun x hx => (h3 x hx).keep hk, h4.trans hk.low, Nat.le_trans h5 hg.size⟩
  by_cases hv : v.ownBlock = none
  · exact .inl hv
  · refine .inr (fun e => ?_)
    obtain ⟨g, hvg⟩ := Option.ne_none_iff_exists'.1 hv
    obtain ⟨_, o, ho, hc⟩ := hr g (by rw [← e, hvg])
    rcases h2.2 with ⟨hn, _⟩ | ⟨g', cap, cur, hv', _, hg', _⟩
    · rw [hn] at hvg; cases hvg
    · rw [hv'] at hvg
      cases hvg
      rw [hg'] at ho; cases ho; cases hc

/-- What stays where a row has grown, and its cell holds it. -/
theorem grown_post {nb k g cap size : Nat} {e t : TypeId} {W3 w1 : World} {v0 : Value} {xs ys : List Value} (hn : nb < W3.heap.size) (hv0 : W3.heap[nb]? = some (.cells #[v0] t (0, 0))) (hown : W3.ownsRow (nb + 1) e size v0 k xs)
    (hgo : v0.ownBlock = some g ∨ W3.heap.size ≤ g) (hr : w1.ownsRow (nb + 1) e size (.slice (some ⟨g, 0, none⟩) (k + 1) cap) (k + 1) ys)
    (hw1 : w1.heap[nb]? = some (.cells #[.slice (some ⟨g, 0, none⟩) (k + 1) cap] t (0, 0))) (hrest : Rest2 nb v0.ownBlock W3 w1) :
    (∀ (j : Nat) (o : Obj), W3.heap[j]? = some o → o.isCells = false → w1.heap[j]? = some o) ∧ WKeeps nb (nb + 1) nb W3 w1 := by
  have hr0 : rowOf nb W3 = v0.ownBlock := rowOf_one hv0
  have hr1 : rowOf nb w1 = some g := rowOf_one hw1
  refine ⟨fun j o hj ho => ?_, ⟨⟨hrest.os, hrest.tape, hrest.output, hrest.size, fun j hj => hrest.block j (by omega) (by omega) (fun e => ?_)⟩, fun j o hB hj ho hne => ?_, ?_⟩⟩
  · refine (hrest.block j (Array.getElem?_eq_some_iff.1 hj).1 (fun e => ?_) (fun e => ?_)).trans hj
    · subst e; rw [hv0] at hj; cases hj; cases ho
    · rcases hown.2 with ⟨hv, _⟩ | ⟨g', _, _, hv, _, hg', _⟩
      · rw [hv] at e; cases e
      · rw [hv] at e; cases e; rw [hg'] at hj; cases hj; cases ho
  · have := (hown.lt j e.symm).1; omega
  · rw [hr0] at hne
    exact (hrest.block j (Array.getElem?_eq_some_iff.1 hj).1 (by omega) hne).trans hj
  · rw [hr0, hr1]
    rcases hgo with h | h
    · exact .inl h.symm
    · exact .inr ⟨g, rfl, h, (hr.lt g rfl).2⟩

theorem pcheckM_zero {l : List StepM} (h : pcheckM l = 0) : l.length ≤ 32 := by
  unfold pcheckM at h
  split at h
  · cases h
  · rename_i h1
    simp only [Bool.or_eq_true, decide_eq_true_eq, not_or] at h1
    omega

theorem news_two (w : World) (a b : Value) (t : TypeId) : ∀ j u, [a, b][j]? = some u → (w.alloc (.cells #[a, b] t)).cell? ((⟨w.heap.size, 0, none⟩ : Addr).add j) = some u := by
  intro j u hj
  have hadd : (⟨w.heap.size, 0, none⟩ : Addr).add j = ⟨w.heap.size, j, none⟩ := by unfold Addr.add; split <;> simp_all
  rw [hadd, World.cell?_alloc_new]
  simpa using hj
theorem checkM_nodes {m : Nat} {T : TT} (h : checkM m T = 0) : (nodesM m T).length ≤ 4096 := by
  unfold checkM at h
  split at h
  · rename_i h1; exact h1.2
  · cases h

def SelPost (m : Nat) (T : TT) (steps : List StepM) (w : World) (e : Ending) (w' : World) : Prop :=
  Below w.heap.size w w' ∧ ((checkM m T ≠ 0 ∧ e = .returned (.tuple #[.slice none 0 0, .int .i64 (checkM m T)])) ∨ (checkM m T = 0 ∧ pcheckM steps ≠ 0 ∧ e = .returned (.tuple #[.slice none 0 0, .int .i64 (pcheckM steps)])) ∨
    (checkM m T = 0 ∧ pcheckM steps = 0 ∧ ∃ a c, e = .returned (.tuple #[.slice a (leadM steps ([], T)).length c, .int .i64 0]) ∧ Sl hitS (fun b => b < w'.heap.size) w' a (leadM steps ([], T))))

set_option maxRecDepth 100000 in
set_option maxHeartbeats 8000000 in
theorem select_any (m : Nat) (hm : m ≤ 2000000) (n₀ : Nat) (vs : Array Value) (T : TT) (steps : List StepM) (sa : Option Addr) (sc : Nat) (w : World) (h : NodeAt n₀ m w vs T) (hsl : Sl pstepS (· < n₀) w sa steps) (hn₀ : n₀ ≤ w.heap.size) (hsc : steps.length ≤ sc) (hst : steps.length ≤ 9223372036854775807) (hsp : SpansAt w) :
    Calls Tryz.prog 9 #[.agg vs, .agg #[.slice sa steps.length sc]] w (SelPost m T steps w) := by
  have HT := Sp.hid h
  have HSL := Sp.hid hsl
  have HSP := Sp.hid hsp
  obtain ⟨aa, ca, ka, ck, rfl, hrep⟩ := h
  obtain ⟨w1, hw1⟩ : ∃ w1, w1 = (w.alloc (.cells #[.string T.label, .string T.text, .slice aa T.attrs.length ca, .slice ka T.kids.length ck] 29)).alloc (.cells #[.slice sa steps.length sc] 25) := ⟨_, rfl⟩
  have hs1 : w.heap.size + 2 ≤ w1.heap.size := by rw [hw1]; simp
  have hb1 : Below w.heap.size w w1 := by rw [hw1]; exact ((Below.refl _ _).alloc (Nat.le_refl _) _).alloc (by simp) _
  have ht1 : w1.heap[w.heap.size]? = some (.cells #[.string T.label, .string T.text, .slice aa T.attrs.length ca, .slice ka T.kids.length ck] 29 (0, 0)) := by
    rw [hw1]; exact (Below.heap_alloc _ _ _ (by simp)).trans (World.alloc_heap_new w _)
  have hp1 : w1.heap[w.heap.size + 1]? = some (.cells #[.slice sa steps.length sc] 25 (0, 0)) := by
    rw [hw1]; have := World.alloc_heap_new (w.alloc (.cells #[.string T.label, .string T.text, .slice aa T.attrs.length ca, .slice ka T.kids.length ck] 29)) (.cells #[.slice sa steps.length sc] 25); simpa using this
  have HCT : Hid (Calls Tryz.prog 22 #[.agg #[.string T.label, .string T.text, .slice aa T.attrs.length ca, .slice ka T.kids.length ck]] w1 fun e w' => e = .returned (.int .i64 (checkM m T)) ∧ Below w1.heap.size w1 w') :=
    Sp.hid (check_tree m hm n₀ _ T w1 (HT.out.below (hb1.mono hn₀)) (by omega) (hsp.below hb1 (Nat.le_refl _)))
  have HCP := Sp.hid (fun (W : World) (hb : Below w.heap.size w W) => pathCheck_any (· < n₀) sa sc steps W (hsl.frame (fun b hb' => hb.block b (by omega))) (fun k hk => by have := hb.size; omega) hst (hsp.below hb (Nat.le_refl _)))
  have HW1 := Sp.hid hw1
  have HB1 := Sp.hid hb1
  have HT1 := Sp.hid ht1
  have HP1 := Sp.hid hp1
  obtain ⟨ct, hct⟩ : ∃ ct, ct = checkM m T := ⟨_, rfl⟩
  obtain ⟨cp, hcp⟩ : ∃ cp, cp = pcheckM steps := ⟨_, rfl⟩
  have HCTE := Sp.hid hct
  have HCPE := Sp.hid hcp
  rw [← hct] at HCT
  rw [← hcp] at HCP
  clear hw1 hb1 ht1 hp1 hct hcp hrep hsl hsp
  refine (callsIn_wide (n := 3)).1 ?_
  refine callsIn_of_wp_marks Tryz.func9 rfl trivial ?_ rfl
  simp only [Tryz.ntmps9, List.size_toArray, List.length_cons, List.length_nil, Nat.reduceAdd, Nat.reduceSub, Array.replicate_succ, Array.replicate_zero, List.push_toArray, List.append_toArray, List.nil_append, List.cons_append]
  gi_wp2
  refine ⟨trivial, ?_⟩
  rw [← HW1.out]
  refine (callsIn_wide.2 HCT.out).mono ?_
  rintro e w2 ⟨rfl, hb2⟩
  have hs2 := hb2.size
  have HB2 := Sp.hid (HB1.out.trans (hb2.mono (by omega)))
  have HT2 := Sp.hid ((hb2.block _ (by omega)).trans HT1.out)
  have HP2 := Sp.hid ((hb2.block _ (by omega)).trans HP1.out)
  clear hb2
  by_cases h0 : ct = 0
  rotate_left
  · have h0' : (ct != 0) = true := by simpa using h0
    gi_wp2
    exact ⟨.tuple #[.slice none 0 0, .int .i64 ct], by simp [results, Tryz.f9, go_sem], HB2.out, .inl ⟨by rw [← HCTE.out]; exact h0, by rw [← HCTE.out]⟩⟩
  have p0 : w2.cell? ⟨w.heap.size + 1, 0, none⟩ = some (.slice sa steps.length sc) := cell_at HP2.out 0
  have hw2 : w.heap.size + 1 < w2.heap.size := by omega
  have h0' : (ct != 0) = false := by simpa using h0
  have HCP2 := Sp.hid (HCP.out w2 HB2.out)
  clear HCP
  gi_wp2
  refine ⟨trivial, ?_⟩
  refine (callsIn_wide.2 HCP2.out).mono ?_
  rintro e w3 ⟨rfl, hb3⟩
  have hs3 := hb3.size
  have HB3 := Sp.hid (HB2.out.trans (hb3.mono (by omega)))
  have HT3 := Sp.hid ((hb3.block _ (by omega)).trans HT2.out)
  have HP3 := Sp.hid ((hb3.block _ (by omega)).trans HP2.out)
  clear hb3 p0
  by_cases h1 : cp = 0
  rotate_left
  · have h1' : (cp != 0) = true := by simpa using h1
    gi_wp2
    exact ⟨.tuple #[.slice none 0 0, .int .i64 cp], by simp [results, Tryz.f9, go_sem], HB3.out, .inr (.inl ⟨by rw [← HCTE.out]; exact h0, by rw [← HCPE.out]; exact h1, by rw [← HCPE.out]⟩)⟩
  have h1' : (cp != 0) = false := by simpa using h1
  have t0 : w3.cell? ⟨w.heap.size, 0, none⟩ = some (.string T.label) := cell_at HT3.out 0
  have t1 : w3.cell? ⟨w.heap.size, 1, none⟩ = some (.string T.text) := cell_at HT3.out 1
  have t2 : w3.cell? ⟨w.heap.size, 2, none⟩ = some (.slice aa T.attrs.length ca) := cell_at HT3.out 2
  have t3 : w3.cell? ⟨w.heap.size, 3, none⟩ = some (.slice ka T.kids.length ck) := cell_at HT3.out 3
  have p0 : w3.cell? ⟨w.heap.size + 1, 0, none⟩ = some (.slice sa steps.length sc) := cell_at HP3.out 0
  have hw3 : w.heap.size + 1 < w3.heap.size := by omega
  have hw3' : w.heap.size < w3.heap.size := by omega
  gi_wp2
  refine ⟨trivial, (callsIn_wide.2 (hits_any _ rfl _ _)).mono ?_⟩
  rintro e w5 ⟨rfl, rfl⟩
  gi_wp2
  clear t0 t1 t2 t3 p0
  obtain ⟨nb, hnb⟩ : ∃ nb, nb = w3.heap.size := ⟨_, rfl⟩
  obtain ⟨w4, hw4⟩ : ∃ w4, w4 = w3.alloc (.cells #[.slice none 0 0] 35) := ⟨_, rfl⟩
  have hs4 : w4.heap.size = nb + 1 := by rw [hw4, hnb]; simp
  have hb4 : Below nb w3 w4 := by rw [hw4, hnb]; exact (Below.refl _ _).alloc (Nat.le_refl _) _
  have hc4 : w4.heap[nb]? = some (.cells #[.slice none 0 0] 35 (0, 0)) := by rw [hw4, hnb]; exact World.alloc_heap_new _ _
  have hrow4 : RowIn nb (nb + 1) w4 := by
    refine ⟨Nat.lt_succ_self _, by omega, fun g hg => ?_⟩
    rw [rowOf_one hc4] at hg
    cases hg
  obtain ⟨w5, hw5⟩ : ∃ w5, w5 = w4.alloc (.cells #[.string T.label, .string T.text, .slice aa T.attrs.length ca, .slice ka T.kids.length ck] 29) := ⟨_, rfl⟩
  have hs5 : w5.heap.size = nb + 1 + 1 := by rw [hw5]; simp; omega
  have hk45 : WKeeps nb (nb + 1) nb w4 w5 := by rw [hw5]; exact WKeeps.alloc (Nat.le_succ _) (Nat.lt_succ_self _) (by omega) _
  have hm5 : Mine nb (nb + 1) (nb + 1) (.cells #[.string T.label, .string T.text, .slice aa T.attrs.length ca, .slice ka T.kids.length ck] 29) w5 := by
    have := Mine.new hrow4 (o := .cells #[.string T.label, .string T.text, .slice aa T.attrs.length ca, .slice ka T.kids.length ck] 29) rfl
    rwa [← hw5, hs4] at this
  have hrow5 := hrow4.keep hk45
  obtain ⟨w6, hw6⟩ : ∃ w6, w6 = w5.alloc (.cells #[.slice sa steps.length sc] 25) := ⟨_, rfl⟩
  have hs6 : w6.heap.size = nb + 1 + 1 + 1 := by rw [hw6]; simp; omega
  have hk56 : WKeeps nb (nb + 1) nb w5 w6 := by rw [hw6]; exact WKeeps.alloc (Nat.le_succ _) (Nat.lt_succ_self _) (by omega) _
  have hp6 : Mine nb (nb + 1) (nb + 1 + 1) (.cells #[.slice sa steps.length sc] 25) w6 := by
    have := Mine.new hrow5 (o := .cells #[.slice sa steps.length sc] 25) rfl
    rwa [← hw6, hs5] at this
  have hm6 := hm5.keep hk56
  have hrow6 := hrow5.keep hk56
  have hb6 : Below w.heap.size w w6 := HB3.out.trans ((hb4.trans (hk45.low.trans hk56.low)).mono (by omega))
  have hc6 : w6.heap[nb]? = some (.cells #[.slice none 0 0] 35 (0, 0)) := by
    rw [hw6, hw5]; exact (Below.heap_alloc _ _ _ (by simp; omega)).trans ((Below.heap_alloc _ _ _ (by omega)).trans hc4)
  have hrep6 : (treeS m).rep (· < nb) w6 [.string T.label, .string T.text, .slice aa T.attrs.length ca, .slice ka T.kids.length ck] T := by
    obtain ⟨aa', ca', ka', ck', hvs, q2⟩ := HT.out.below (hb6.mono hn₀)
    simp only [Array.mk.injEq, List.cons.injEq, Value.slice.injEq, true_and, and_true] at hvs
    obtain ⟨⟨rfl, rfl⟩, rfl, rfl⟩ := hvs
    exact (treeS m).mono q2 (fun k hk => by omega)
  have hsl6 : Sl pstepS (· < nb) w6 sa steps := (HSL.out.frame (fun b hb => hb6.block b (by omega))).mono (fun k hk => by omega)
  have hcm : checkM m T = 0 := by rw [← HCTE.out]; exact h0
  have hpm : pcheckM steps = 0 := by rw [← HCPE.out]; exact h1
  have hwide := checkM_nodes hcm
  have hfew := pcheckM_zero hpm
  have hll : (leadM steps ([], T)).length ≤ 4294967296 := Nat.le_trans (leadM_length rfl steps m [] T (thin_rep hrep6)) (Nat.mul_le_mul_right 1048576 hwide)
  have hstart : HitsIn nb w6 [] w6 := ⟨⟨_, hc6, World.ownsRow_nil _ _ _ _⟩, by simp, Below.refl _ _, by omega⟩
  have HRUN := Sp.hid (hits_runs m nb (nb + 1) nb (nb + 1) (nb + 1 + 1) T steps aa ka sa ca ck sc w6 (Nat.le_succ _) hrow6 hm6 hp6 hrep6 hsl6 hsc (by omega) hwide)
  have HB6 := Sp.hid hb6
  have HST := Sp.hid hstart
  have HCM := Sp.hid hcm
  have HPM := Sp.hid hpm
  have HLL := Sp.hid hll
  rw [← hw4, ← hw5, ← hw6, ← hnb]
  have hs6' : nb + 3 ≤ w6.heap.size := by omega
  have hnbw : w.heap.size < nb := by omega
  obtain ⟨i0, hi0, hz0, hz1, hz2⟩ := info_parts infoHit
  clear hb4 hc4 hrow4 hm5 hk45 hrow5 hp6 hk56 hm6 hrow6 hb6 hc6 hrep6 hsl6 hcm hpm hwide hfew hll hstart hw4 hw5 hw6 hs4 hs5 hs6 HCT HCP2
  have HNB := Sp.hid hnb
  clear hnb
  refine wpIn_rangeFunc_runs (α := HX) (encs := encH) (Good := GoodH nb (nb + 1) nb) (Kp := WKeeps nb (nb + 1) nb) (w0 := w6) (gf := 47) (lb := #[.pointer (some ⟨nb + 1, 0, none⟩), .pointer (some ⟨nb + 1 + 1, 0, none⟩)]) rfl (enters_of Tryz.func47 (by kernel_rfl) rfl)
    HRUN.out (fun h k => h.trans k) (fun W' l' o' o2 hl' h ho _ => WKeeps.putObj (Nat.le_succ _) (Nat.lt_succ_self _) (by omega) o2 h ho) (fun W' o' hs' => WKeeps.alloc (Nat.le_succ _) (Nat.lt_succ_self _) (by omega) o') (WKeeps.refl _ _ _ _) (Nat.le_refl _) (fun _ => rfl)
    (fun pre W' => HitsIn nb w6 pre W') (fun _ _ _ => False) (HitsIn.own (by omega)) (fun c pre X Y row h _ _ => h) HST.out
    (fun pre x a' W' => HitsIn nb w6 pre W' ∧ GoodH nb (nb + 1) nb x W' ∧ ∃ D, a' = ⟨#[Value.agg #[Value.string T.label, Value.string T.text, Value.slice aa T.attrs.length ca, Value.slice ka T.kids.length ck], Value.agg #[Value.slice sa steps.length sc], Value.pointer (some { block := w.heap.size, off := 0 }), Value.pointer (some { block := w.heap.size + 1, off := 0 }), Value.slice none 0 0, Value.int IntKind.i64 0, Value.int IntKind.i64 0, Value.int IntKind.i64 0, Value.pointer (some { block := nb, off := 0 }), Value.pointer (some { block := D, off := 0 }), Value.agg #[Value.string T.label, Value.string T.text, Value.slice aa T.attrs.length ca, Value.slice ka T.kids.length ck], Value.int IntKind.i64 0, Value.int IntKind.i64 0, Value.bool false, undef, Value.agg #[Value.slice sa steps.length sc], Value.int IntKind.i64 0, Value.int IntKind.i64 0, Value.bool false, undef, Value.agg #[Value.string T.label, Value.string T.text, Value.slice aa T.attrs.length ca, Value.slice ka T.kids.length ck], Value.agg #[Value.slice sa steps.length sc], Value.func (Fn.func 47) #[] #[Value.pointer (some { block := nb + 1, off := 0 }), Value.pointer (some { block := nb + 1 + 1, off := 0 })], Value.agg #[x.1, Value.string x.2.2], undef, undef, undef, undef, undef], []⟩ ∧ Mine nb (nb + 1) D (.cells #[x.1, .string x.2.2] 53) W')
    ?ownax ?assign ?body ?done ?stop
  case ownax =>
    intro pre x a' _ X Y row h hg hr
    obtain ⟨h1, h2, D, h3, h4⟩ := h
    exact ⟨HitsIn.own (by omega) pre X Y row h1 hg hr, h2.keep (wkeeps_own (β := Unit) (B' := w6.heap.size) (Nat.le_succ _) (Nat.lt_succ_self _) h1.2.2.2 (by omega) () X Y row (WKeeps.refl _ _ _ _) hg hr), D, h3, mine_own' (β := Unit) (Nat.lt_succ_self _) (by omega) () X Y row h4 hg hr⟩
  case assign =>
    intro l' pre x W3 K hI hG _ hs3 hK
    have hK' := Sp.hid (hK · (W3.alloc (.cells #[x.1, .string x.2.2] 53)))
    clear hK
    have HI := Sp.hid hI
    have HG := Sp.hid hG
    obtain ⟨x1, x2, x3⟩ := x
    obtain ⟨xa, xc, hx1, hxs⟩ := hG
    dsimp only at hx1
    subst hx1
    clear hI hxs
    dsimp only [encH] at hK' ⊢
    gi_wp2
    have hk : WKeeps nb (nb + 1) nb W3 (W3.alloc (.cells #[.slice xa x2.length xc, .string x3] 53)) := WKeeps.alloc (Nat.le_succ _) (Nat.lt_succ_self _) HI.out.2.2.2 _
    refine hK'.out _ (KeepsFrom.of_below ((Below.refl _ _).alloc (Nat.le_refl _) _)) hk ⟨(HitsIn.own (B' := w6.heap.size) (by omega)).alloc _ HI.out, HG.out.keep hk, W3.heap.size, rfl, Mine.new HI.out.rowIn rfl⟩
  case body =>
    rintro l' pre x a' W3 ⟨hI, hG, D, rfl, hD⟩ hsp hs3
    obtain ⟨x1, x2, x3⟩ := x
    have HG := Sp.hid hG
    obtain ⟨xa, xc, hx1, hxs⟩ := hG
    dsimp only at hx1 hD ⊢
    subst hx1
    have hrowI := hI.rowIn
    obtain ⟨⟨v0, hv0, hown⟩, hgs, hb63, hsz⟩ := hI
    have hnbl : nb < W3.heap.size := by omega
    have cv : W3.cell? ⟨nb, 0, none⟩ = some v0 := by simp [World.cell?, hv0]
    have d0 := hD.cell 0
    have d1 := hD.cell 1
    simp only [List.getElem?_toArray, List.getElem?_cons_zero, List.getElem?_cons_succ] at d0 d1
    have hDl := hD.lt
    have hpl : pre.length + 1 ≤ 4294967296 := by
      have h1 := hsp.length_le
      rw [List.map_append, List.length_append, List.length_map] at h1
      exact Nat.le_trans h1 HLL.out
    have HV0 := Sp.hid hv0
    have HOWN := Sp.hid hown
    have HGS := Sp.hid hgs
    have HB63 := Sp.hid hb63
    have HRI := Sp.hid hrowI
    have hw3n : v0.ownBlock ≠ some nb := fun e => by have := (hown.lt nb e).1; omega
    clear hxs hrowI hv0 hown hgs hb63 hD hsp
    gi_wp2_with (refine wpListIn_append_own_at _ rfl _ _ 35 rfl (nb + 1) 53 i0 _ 2 40 Tryz.underlying35 hi0 hz0 hz1 hz2 rfl (by decide) _ _ _ rfl (HOWN.out.alloc _) ⟨W3.heap.size, 0, none⟩ 1 1 [.slice xa x2.length xc, .string x3] rfl rfl (news_two _ _ _ _) (fun u hu => by simp at hu; rcases hu with rfl | rfl <;> rfl) (by unfold maxLen; omega) (by omega) (by simp; omega) (fun v' w' r1 r2 r3 r4 => by
      obtain ⟨g, cap, rfl⟩ := Joins.ownsRow_form r1 (Nat.succ_pos _)
      have hgn : g ≠ nb := by have := (r1.lt g rfl).1; omega
      have hwnb : w'.heap[nb]? = some (.cells #[v0] 35 (0, 0)) := (r2.block nb (by simp; omega) (fun e => hw3n e.symm)).trans ((Below.heap_alloc _ _ _ hnbl).trans HV0.out)
      have cvn : w'.cell? ⟨nb, 0, none⟩ = some v0 := by simp [World.cell?, hwnb]
      have fvn : w'.frozen? ⟨nb, 0, none⟩ = false := by simp [World.frozen?, hwnb]
      obtain ⟨wf, hwf0⟩ : ∃ wf, wf = w'.setCell ⟨nb, 0, none⟩ (.slice (some ⟨g, 0, none⟩) (pre.length + 1) cap) := ⟨_, rfl⟩
      have hwf : wf.heap[nb]? = some (.cells #[.slice (some ⟨g, 0, none⟩) (pre.length + 1) cap] 35 (0, 0)) := by
        rw [hwf0]; have := heap_setCell_same w' nb 0 #[v0] _ (.slice (some ⟨g, 0, none⟩) (pre.length + 1) cap) hwnb; simpa using this
      have hgw : w'.grownBy wf (some nb) := by rw [hwf0]; exact ⟨rfl, rfl, rfl, by simp, fun j _ hj => heap_setCell_other w' ⟨nb, 0, none⟩ j _ (fun e => hj (by simp [e]))⟩
      have hrf := r1.kept hgw (.inr (fun e => hgn (Option.some.inj e)))
      have hrest : Rest2 nb v0.ownBlock W3 wf := ((Rest2.of_below (db := nb) (rb := v0.ownBlock) ((Below.refl W3.heap.size W3).alloc (Nat.le_refl _) _)).grown r2 (fun j _ _ h2 => h2)).grown hgw (fun j _ h1 _ e => h1 (Option.some.inj e))
      have hgo : v0.ownBlock = some g ∨ W3.heap.size ≤ g := by
        rcases r4 with h | h
        · exact .inl h.symm
        · right; have := Option.some.inj h; simp at this; omega
      obtain ⟨p1, p2⟩ := grown_post hnbl HV0.out HOWN.out hgo hrf hwf hrest
      have hnew : HitsIn nb w6 (pre ++ [(.slice xa x2.length xc, x2, x3)]) wf := by
        refine ⟨⟨_, hwf, ?_⟩, fun x hx => ?_, HB63.out.trans p2.low, by have := p2.low.size; omega⟩
        · rw [List.length_append, List.length_singleton, List.flatMap_append]
          simpa using hrf
        · rcases List.mem_append.1 hx with hx | hx
          · exact (HGS.out x hx).keep p2
          · rw [List.mem_singleton.1 hx]; exact HG.out.keep p2
      have HKF : Hid (KeepsFrom w6.heap.size W3 wf) := Sp.hid ⟨hrest.size, fun j o _ hj ho => p1 j o hj ho⟩
      have HP2 := Sp.hid p2
      have HNEW := Sp.hid hnew
      have HWF := Sp.hid hwf0
      have hnbw' : nb < w'.heap.size := (Array.getElem?_eq_some_iff.1 hwnb).1
      clear r1 r2 r3 r4 hwnb hwf hgw hrf hrest hgo p1 p2 hnew hwf0
      gi_wp2
      rw [← HWF.out]
      exact ⟨HKF.out, HP2.out, HNEW.out⟩))
  case done =>
    intro D xs W' hD hS hI hd
    dsimp only
    obtain ⟨⟨v, hv, hown⟩, hgs, hb6, hsz⟩ := hI
    have hcv : W'.cell? ⟨nb, 0, none⟩ = some v := by simp [World.cell?, hv]
    have hbw : Below w.heap.size w W' := HB6.out.trans (hb6.mono (by omega))
    have hnbl : nb < W'.heap.size := by omega
    have hDl : D < W'.heap.size := (Array.getElem?_eq_some_iff.1 hd).1
    have hlen : xs.length = (leadM steps ([], T)).length := by rw [← hS, List.length_map]
    have hor : W'.ownsRow (nb + 1) 53 hitS.sz v xs.length ((xs.map fun x => (hitV x, x.2)).flatMap (·.1)) := by rw [List.flatMap_map]; exact hown
    obtain ⟨ra, rc, hva, hsl⟩ := own_sl (S := hitS) (F := fun b => SafeB nb (nb + 1) nb W' b ∨ v.ownBlock = some b) hor (by simp) (fun y hy => by
      obtain ⟨x, hx, rfl⟩ := List.mem_map.1 hy
      obtain ⟨a, c, h1, h2⟩ := hgs x hx
      exact ⟨a, c, by simp [h1], h2.mono (fun b hb => .inl hb)⟩) (fun g hg => .inr hg)
    have hmap : (xs.map fun x => (hitV x, x.2)).map (·.2) = leadM steps ([], T) := by rw [List.map_map, ← hS]; rfl
    rw [hmap] at hsl
    rw [hlen] at hva
    have hfin : ∀ o, Sl hitS (fun b => b < (W'.putObj D o).heap.size) (W'.putObj D o) ra (leadM steps ([], T)) := by
      intro o
      have hne : ∀ b, (SafeB nb (nb + 1) nb W' b ∨ v.ownBlock = some b) → b < W'.heap.size ∧ b ≠ D := by
        rintro b ((h | ⟨_, ⟨o, h1, h2⟩, _⟩) | h)
        · exact ⟨by omega, by omega⟩
        · exact ⟨(Array.getElem?_eq_some_iff.1 h1).1, fun e => by subst e; rw [hd] at h1; cases h1; cases h2⟩
        · refine ⟨(hown.lt b h).2, fun e => ?_⟩
          subst e
          obtain ⟨_, o, h1, h2⟩ := row_cel hown b h
          rw [hd] at h1; cases h1; cases h2
      exact (hsl.frame (fun b hb => World.putObj_heap_other (fun e => (hne b hb).2 e))).mono (fun b hb => by have := (hne b hb).1; simpa using this)
    have HD := Sp.hid hd
    have HBW := Sp.hid hbw
    have HVA := Sp.hid hva
    have HFIN := Sp.hid hfin
    clear hv hown hgs hb6 hd hS hbw hor hsl hmap hfin hlen HRUN HST hva
    gi_wp2
    refine ⟨by simp, .inl ⟨_, _, rfl, run_takeDeferred HD.out, ?_⟩⟩
    refine ⟨.tuple #[v, .int .i64 0], by simp [results, Tryz.f9, go_sem], HBW.out.trans ⟨rfl, rfl, rfl, by simp, fun k hk => World.putObj_heap_other (by omega)⟩, .inr (.inr ⟨HCM.out, HPM.out, ra, rc, by rw [HVA.out], HFIN.out _⟩)⟩
  case stop => exact fun D c pre W' _ _ h _ => h.elim

end Go.Proofs.YtoknglpfchjbjaaGreatDoor
