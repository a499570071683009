/- A region that draws its order and whose operations each have one value; what holds of the world is told by which operations have been. General: no program in sight. Conditions: none. -/
import Derived.Test.YtoknglpfchjbjaaGreatDoorReadY
namespace Go.Sp
open Go.RowKit

/-- What the operations that have been have left. -/
def ValsAre (Vs : List Value) (L : Nat → Bool) (u : Nat → Value) : Prop := ∀ j, L j = true → j < Vs.length → u j = (Vs[j]?).getD undef
/-- What an operation has to leave. -/
def RwPost (Vs : List Value) (WI : (Nat → Bool) → World → Prop) (L : Nat → Bool) (u : Nat → Value) (i : Nat) (a0 : Act) (dst : Option Nat) (a' : Act) (w' : World) : Prop :=
  ∃ v, a' = Act.put a0 dst v ∧ (WI (updB L i) w' ∧ ValsAre Vs (updB L i) (updU u i v))
/-- One goal an operation. -/
def StepRw (P : Program) (ops : Array Oper) (Vs : List Value) (WI : (Nat → Bool) → World → Prop) (df : List Deferred) (fr : (Nat → Value) → Array Value) : Nat → List Oper → Prop
  | _, [] => True
  | i, o :: r => (∀ L u w, L i = false → DepsDone L o.after.toList → WI L w → ValsAre Vs L u → DepsHold (factAt (Vs.map isV)) u w o.after.toList →
      wpList P ops (StepPost (RwPost Vs WI L u i ⟨fr u, df⟩ o.dst)) [o] ⟨fr u, df⟩ w) ∧ StepRw P ops Vs WI df fr (i + 1) r

theorem factAt_val {Vs : List Value} {i : Nat} {v : Value} {w : World} (h : factAt (Vs.map isV) i v w) (hi : i < Vs.length) : v = (Vs[i]?).getD undef := by
  unfold factAt at h
  rw [List.getElem?_map, List.getElem?_eq_getElem hi] at h
  rw [List.getElem?_eq_getElem hi]
  exact h
theorem val_factAt {Vs : List Value} {i : Nat} {v : Value} {w : World} (h : i < Vs.length → v = (Vs[i]?).getD undef) : factAt (Vs.map isV) i v w := by
  unfold factAt
  rw [List.getElem?_map]
  by_cases hi : i < Vs.length
  · have := h hi
    rw [List.getElem?_eq_getElem hi] at this ⊢
    exact this
  · rw [List.getElem?_eq_none (Nat.le_of_not_lt hi)]; trivial

theorem rw_close {Vs : List Value} {WI : (Nat → Bool) → World → Prop} {L : Nat → Bool} {u : Nat → Value} {i : Nat} {a0 a' : Act} {dst : Option Nat} {w' : World} {v : Value} (hU : ValsAre Vs L u) (hI : WI (updB L i) w') (ha : a' = Act.put a0 dst v) (hF : (Vs.map isV)[i]? = some (isV v)) :
    StepPost (RwPost Vs WI L u i a0 dst) .normal a' w' := by
  refine ⟨v, ha, hI, fun j hj hjl => ?_⟩
  by_cases hjk : j = i
  · subst hjk; unfold updU; rw [if_pos rfl]
    exact factAt_val (w := w') (isV_at hF) hjl
  · unfold updB at hj; rw [if_neg hjk] at hj
    unfold updU; rw [if_neg hjk]; exact hU j hj hjl

theorem stepRw_inv {P : Program} {ops : Array Oper} {Vs : List Value} {WI : (Nat → Bool) → World → Prop} {df : List Deferred} {fr : (Nat → Value) → Array Value} : ∀ {l : List Oper} {k : Nat}, StepRw P ops Vs WI df fr k l →
    StepInvO P ops (fun L u w => WI L w ∧ ValsAre Vs L u) df fr k l
  | [], _, _ => trivial
  | o :: r, k, h => by
    refine ⟨fun L u w hL hD hI => ?_, stepRw_inv h.2⟩
    have hd : ∀ es : List Edge, DepsDone L es → DepsHold (factAt (Vs.map isV)) u w es := fun es => by
      induction es with
      | nil => exact fun _ => trivial
      | cons e es ih => exact fun he => ⟨fun hb => val_factAt fun hi => hI.2 e.on (he.1 hb) hi, ih he.2⟩
    exact h.1 L u w hL hD hI.1 hI.2 (hd _ hD)

theorem wp_region_readw {P : Program} {Q : Exit → Act → World → Prop} {l : List Oper} {id : Nat} {base : List Value} {df : List Deferred} {w : World} (hm : P.follows .mixedOrders = true)
    (slots : List (Option Nat)) (Vs : List Value) (hsl : l.map (·.dst) = slots) (hok : slotsOk slots = true) (hd : edgesDown l = true) (hlen : (Vs.length == l.length) = true)
    (fr : (Nat → Value) → Array Value) (hfr : ∀ u, (fillFrom slots u 0 base).toArray = fr u)
    (WI : (Nat → Bool) → World → Prop) (h0 : WI (fun _ => false) w.drew)
    (step : StepRw P l.toArray Vs WI df fr 0 l)
    (fin : ∀ L w', (∀ i, i < l.length → L i = true) → WI L w' → Q .normal ⟨fr fun i => (Vs[i]?).getD undef, df⟩ w') :
    (Code.region id l.toArray true).wp P Q ⟨base.toArray, df⟩ w := by
  have hlen0 : Vs.length = l.length := by simpa using hlen
  have hlen' : Vs.length = slots.length := by rw [← hsl, List.length_map]; exact hlen0
  refine wp_region_inv hm slots hsl hok hd fr hfr (fun L u w => WI L w ∧ ValsAre Vs L u) (fun u => ⟨h0, fun j hj => by cases hj⟩) (stepRw_inv step) (fun L u w' hL hI => ?_)
  have e : fr u = fr fun i => (Vs[i]?).getD undef := by
    rw [← hfr, ← hfr]
    congr 1
    exact fillFrom_congr slots (fun i hi => hI.2 i (hL i (by omega)) (by omega)) base 0
  rw [e]
  exact fin L w' hL hI.1
end Go.Sp

/- The reader of path.Parse: a predicate. Conditions: none. -/
namespace Go.Proofs.YtoknglpfchjbjaaGreatDoor
open Go.RowKit Go.Sp Go.Maps

abbrev predO (qa qv : ByteArray) (qp : Int) : Obj := .cells #[.string qa, .string qv, .int .i64 qp] 70

theorem grown_new {w W W' : World} {r D : Nat} (h : w.grownBy W (some r)) (k : W.grownBy W' (some D)) (hD : w.heap.size ≤ D) : w.grownBy W' (some r) :=
  ⟨k.os.trans h.os, k.tape.trans h.tape, k.output.trans h.output, Nat.le_trans h.size k.size, fun j hj hne => (k.block j (Nat.lt_of_lt_of_le hj h.size) (fun e => by cases e; omega)).trans (h.block j hj hne)⟩
theorem pred_store {W : World} {D : Nat} {a0 a1 : ByteArray} {a2 : Int} (qa qv : ByteArray) (qp : Int) (h : W.heap[D]? = some (predO a0 a1 a2)) :
    (((W.setCell ⟨D, 0, none⟩ (.string qa)).setCell ⟨D, 1, none⟩ (.string qv)).setCell ⟨D, 2, none⟩ (.int .i64 qp)).heap[D]? = some (predO qa qv qp) ∧
      W.grownBy (((W.setCell ⟨D, 0, none⟩ (.string qa)).setCell ⟨D, 1, none⟩ (.string qv)).setCell ⟨D, 2, none⟩ (.int .i64 qp)) (some D) := by
  constructor
  · have := Joins.block_setCell (Joins.block_setCell (Joins.block_setCell h (.string qa) (i := 0)) (.string qv) (i := 1)) (.int .i64 qp) (i := 2)
    simpa using this
  · have g : ∀ (X : World) (i : Nat) (v : Value), X.grownBy (X.setCell ⟨D, i, none⟩ v) (some D) := fun X i v => ⟨rfl, rfl, rfl, by simp, fun j _ hj => heap_setCell_other X ⟨D, i, none⟩ j _ (fun e => hj (by simp [e]))⟩
    exact grown_trans (grown_trans (g _ _ _) (g _ _ _)) (g _ _ _)
theorem grown_keep {W W' : World} {r D : Nat} {o : Obj} (k : W.grownBy W' (some r)) (h : W.heap[D]? = some o) (hne : D ≠ r) : W'.heap[D]? = some o :=
  (k.block D (Array.getElem?_eq_some_iff.1 h).1 (fun e => hne (by cases e; rfl))).trans h

theorem set_grown (W : World) (D i : Nat) (v : Value) : W.grownBy (W.setCell ⟨D, i, none⟩ v) (some D) := ⟨rfl, rfl, rfl, by simp, fun j _ hj => heap_setCell_other W ⟨D, i, none⟩ j _ (fun e => hj (by simp [e]))⟩
theorem bsOf_isEmpty (l : List UInt8) : (bsOf l).toList.isEmpty = l.isEmpty := by
  rw [Lib.toList_data]; rfl

theorem predL_attr {l r r2 : List UInt8} {k : Nat} (h : markL 64 l = some r) (hk : k = wordN true r) (hk0 : ¬ k = 0) (h5 : markL 61 (r.drop k) = some r2) :
    (∀ v r3, quotedL r2 = some (v, r3) → predL l = (markL 93 r3).map fun l => (⟨bsOf (r.take k), bsOf v, 0⟩, l)) ∧ (quotedL r2 = none → predL l = none) := by
  subst hk
  refine ⟨fun v r3 hq => ?_, fun hq => ?_⟩
  · simp only [predL, h, if_neg hk0, h5, hq]
    cases markL 93 r3 <;> rfl
  · simp only [predL, h, if_neg hk0, h5, hq]

def PredPost (r : Nat) (s : ByteArray) (p : Nat) (w : World) (e : Ending) (w' : World) : Prop := w.grownBy w' (some r) ∧
  ((∃ q p', predL (restB s p) = some (q, restB s p') ∧ p' ≤ s.size ∧ e = .returned (.tuple #[.agg #[.string q.attr, .string q.value, .int .i64 q.place], .bool true]) ∧ RdAt r s p' w') ∨
   (predL (restB s p) = none ∧ ∃ qa qv qp, e = .returned (.tuple #[.agg #[.string qa, .string qv, .int .i64 qp], .bool false])))

set_option maxRecDepth 100000 in
set_option maxHeartbeats 1500000 in
theorem rdPred_any (r : Nat) (s : ByteArray) (p : Nat) (w : World) (h : RdAt r s p w) (hs : s.size ≤ 65536) (hp : p ≤ s.size) :
    Calls Tryz.prog 83 #[.pointer (some ⟨r, 0, none⟩)] w (PredPost r s p w) := by
  have hrl : r < w.heap.size := (Array.getElem?_eq_some_iff.1 h).1
  obtain ⟨w1, hw1⟩ : ∃ w1, w1 = (w.alloc (predO ⟨#[]⟩ ⟨#[]⟩ 0)).alloc (predO ⟨#[]⟩ ⟨#[]⟩ 0) := ⟨_, rfl⟩
  have hs1 : w1.heap.size = w.heap.size + 2 := by rw [hw1]; simp
  have hb1 : Below w.heap.size w w1 := by rw [hw1]; exact ((Below.refl _ _).alloc (Nat.le_refl _) _).alloc (by simp) _
  have ht1 : w1.heap[w.heap.size]? = some (predO ⟨#[]⟩ ⟨#[]⟩ 0) := by rw [hw1]; exact (Below.heap_alloc _ _ _ (by simp)).trans (World.alloc_heap_new w _)
  have hq1 : w1.heap[w.heap.size + 1]? = some (predO ⟨#[]⟩ ⟨#[]⟩ 0) := by
    rw [hw1]; have := World.alloc_heap_new (w.alloc (predO ⟨#[]⟩ ⟨#[]⟩ 0)) (predO ⟨#[]⟩ ⟨#[]⟩ 0); simpa using this
  have HW1 := Sp.hid hw1
  have HR1 := Sp.hid (h.below hb1)
  have HB1 := Sp.hid hb1
  have HT1 := Sp.hid ht1
  have HQ1 := Sp.hid hq1
  have HMA := Sp.hid (rdMark_any r s 64 p w1 (h.below hb1) hs hp)
  clear hw1 h hb1 ht1 hq1
  go_enter Tryz.func83, Tryz.ntmps83
  go_wp2_with fail
  rename_i K2 h2 K1 h1 K0 h0
  have TAIL : ∀ (v6 v7 v8 v9 v10 v11 v12 v13 v14 v15 v16 v17 v18 v19 v20 v21 v22 v23 v24 v25 v26 v27 v28 v29 v30 v31 : Value) (W : World) (qa qv : ByteArray) (qp : Int) (okb : Bool) (p1 : Nat), w.grownBy W (some r) → RdAt r s p1 W → p1 ≤ s.size → W.heap[w.heap.size + 1]? = some (predO qa qv qp) → W.heap[w.heap.size]? = some (predO ⟨#[]⟩ ⟨#[]⟩ 0) →
      (predL (restB s p) = if okb then (markL 93 (restB s p1)).map (fun l => (⟨qa, qv, qp⟩, l)) else none) →
      K2 ⟨#[.pointer (some ⟨r, 0, none⟩), undef, .pointer (some ⟨w.heap.size, 0, none⟩), .bool false, .pointer (some ⟨w.heap.size + 1, 0, none⟩), .bool okb, v6, v7, v8, v9, v10, v11, v12, v13, v14, v15, v16, v17, v18, v19, v20, v21, v22, v23, v24, v25, v26, v27, v28, v29, v30, v31, undef, undef, undef, undef, undef, undef], []⟩ W := by
    intro v6 v7 v8 v9 v10 v11 v12 v13 v14 v15 v16 v17 v18 v19 v20 v21 v22 v23 v24 v25 v26 v27 v28 v29 v30 v31 W qa qv qp okb p1 hgw hrw hp1 hqw htw hpl
    have HPL := Sp.hid hpl
    clear hpl h0 h1 HMA HW1 HR1 HB1 HT1 HQ1
    obtain ⟨mb, p2, hmk, hp2⟩ : ∃ (mb : Bool) (p2 : Nat), (∀ W', RdAt r s p1 W' → Calls Tryz.prog 57 #[.pointer (some ⟨r, 0, none⟩), .string ⟨#[93]⟩] W' fun e w' => e = .returned (.bool mb) ∧ W'.grownBy w' (some r) ∧ RdAt r s p2 w') ∧
        ((mb = true ∧ markL 93 (restB s p1) = some (restB s p2) ∧ p2 ≤ s.size) ∨ (mb = false ∧ markL 93 (restB s p1) = none)) := by
      rcases isM_mark s 93 p1 with ⟨_, h5, h6⟩ | ⟨_, h6⟩
      · refine ⟨true, p1 + 1, fun W' hW' => (rdMark_any r s 93 p1 W' hW' hs hp1).mono ?_, .inl ⟨rfl, h6, by omega⟩⟩
        rintro e w' ⟨g1, ⟨_, _, g2, g3⟩ | ⟨g4, _⟩⟩
        · exact ⟨g2, g1, g3⟩
        · rw [h6] at g4; cases g4
      · refine ⟨false, p1, fun W' hW' => (rdMark_any r s 93 p1 W' hW' hs hp1).mono ?_, .inr ⟨rfl, h6⟩⟩
        rintro e w' ⟨g1, ⟨g4, _⟩ | ⟨_, g2, g3⟩⟩
        · rw [h6] at g4; cases g4
        · exact ⟨g2, g1, g3⟩
    have HMK := Sp.hid hmk
    have HP2 := Sp.hid hp2
    have hDl := (Array.getElem?_eq_some_iff.1 htw).1
    have hQl := (Array.getElem?_eq_some_iff.1 hqw).1
    have hI0 : w.grownBy W.drew (some r) ∧ RdAt r s p1 W.drew ∧ W.drew.heap[w.heap.size + 1]? = some (predO qa qv qp) ∧ W.drew.heap[w.heap.size]? = some (predO ⟨#[]⟩ ⟨#[]⟩ 0) := ⟨grown_trans hgw (grown_weak (grown_below (Below.refl _ _).drew)), hrw, hqw, htw⟩
    have HI0 := Sp.hid hI0
    have hrD : r ≠ w.heap.size := by omega
    have hrQ : r ≠ w.heap.size + 1 := by omega
    clear hmk hp2 hgw hrw hqw htw hI0
    refine h2 _ _ ?_
    cases okb
    · go_wp2
      refine Sp.wp_region_readw (by kernel_rfl) [some 32, some 33, some 34, some 35, some 36, some 37, none, some 3] [?r1v0, ?r1v1, ?r1v2, ?r1v3, ?r1v4, ?r1v5, undef, ?r1v7] rfl (by kernel_rfl) (by kernel_rfl) (by kernel_rfl) ?r1fr ?r1hfr (fun L W' => w.grownBy W' (some r) ∧ RdAt r s p1 W' ∧ W'.heap[w.heap.size + 1]? = some (predO qa qv qp) ∧ W'.heap[w.heap.size]? = some (if L 6 then predO qa qv qp else predO ⟨#[]⟩ ⟨#[]⟩ 0)) (HI0.out) ?r1step ?r1fin
      case r1hfr => intro u; simp only [Sp.fillFrom, Sp.idx_cons, Sp.idx_nil, Option.some.injEq, reduceCtorEq, reduceIte, Nat.reduceEqDiff, Nat.reduceAdd, Option.map_some, Option.map_none]; exact rfl
      case r1step =>
        refine ⟨?_, ?_, ?_, ?_, ?_, ?_, ?_, ?_, trivial⟩
        all_goals
          intro L u w1 hL hDn hI hU hD; simp only [Sp.DepsHold, List.map_cons, List.map_nil, Sp.isV, Sp.any_text, Sp.any_gc, Bool.false_eq_true, false_implies, Sp.factAt, Region.binds, List.getElem?_cons_zero, List.getElem?_cons_succ, List.getElem?_nil, Option.getD_some, Option.getD_none, and_true, true_and, true_implies, implies_true] at hD; dsimp only
          have HU := Sp.hid hU; clear hU hDn
          obtain ⟨g1, g2, g3, g4⟩ := hI; have c0 := cell_at g3 0; have c1 := cell_at g3 1; have c2 := cell_at g3 2; (try (rw [hL] at g2; simp only [Bool.false_eq_true, if_false] at g2)); (try (rw [hL] at g4; simp only [Bool.false_eq_true, if_false] at g4; have z0 := cell_at g4 0; have z1 := cell_at g4 1; have z2 := cell_at g4 2; have f0 : ∀ j, w1.frozen? ⟨w.heap.size, j, none⟩ = false := fun j => by simp [World.frozen?, g4])); have HG1 := Sp.hid g1; have HG2 := Sp.hid g2; have HG3 := Sp.hid g3; have HG4 := Sp.hid g4; clear g1 g2 g3 g4
          try clear hL
          repeat (obtain ⟨hE, hD⟩ := hD; (try rw [hE]); clear hE)
          try rw [hD]
          try clear hD
          go_wp2_with (fail)
          (with_reducible apply Sp.rw_close HU.out)
          · first | exact ⟨HG1.out, HG2.out, HG3.out, HG4.out⟩ | (obtain ⟨s1, s2⟩ := pred_store qa qv qp HG4.out; exact ⟨grown_new HG1.out s2 (Nat.le_refl _), (s2.block r (Array.getElem?_eq_some_iff.1 HG2.out).1 (fun e => hrD (by cases e; rfl))).trans HG2.out, grown_keep s2 HG3.out (by omega), s1⟩) | exact ⟨grown_trans HG1.out GG.out, GR.out, grown_keep GG.out HG3.out (fun e => hrQ e.symm), grown_keep GG.out HG4.out (fun e => hrD e.symm)⟩
          · exact rfl
          · exact rfl
      case r1fin =>
        intro L w' hL hI; simp only [List.getElem?_cons_zero, List.getElem?_cons_succ, Option.getD_some]
        obtain ⟨g1, g2, g3, g4⟩ := hI
        rw [hL 6 (by simp)] at g4
        simp only [if_true] at g4
        have z0 := cell_at g4 0
        have z1 := cell_at g4 1
        have z2 := cell_at g4 2
        have HG1 := Sp.hid g1
        clear g1 g2 g3 g4 hL
        go_wp2
        refine bodyPost_ret (v := .tuple #[.agg #[.string qa, .string qv, .int .i64 qp], .bool false]) (by simp [results, Tryz.f83, go_sem, z0, z1, z2]) rfl ?_
        exact ⟨HG1.out, .inr ⟨by rw [HPL.out]; rfl, qa, qv, qp, rfl⟩⟩
    · go_wp2
      refine Sp.wp_region_readw (by kernel_rfl) [some 32, some 33, some 34, some 35, some 36, some 37, none, some 3] [?r2v0, ?r2v1, ?r2v2, ?r2v3, ?r2v4, ?r2v5, undef, ?r2v7] rfl (by kernel_rfl) (by kernel_rfl) (by kernel_rfl) ?r2fr ?r2hfr (fun L W' => w.grownBy W' (some r) ∧ RdAt r s (if L 4 then p2 else p1) W' ∧ W'.heap[w.heap.size + 1]? = some (predO qa qv qp) ∧ W'.heap[w.heap.size]? = some (if L 6 then predO qa qv qp else predO ⟨#[]⟩ ⟨#[]⟩ 0)) (HI0.out) ?r2step ?r2fin
      case r2hfr => intro u; simp only [Sp.fillFrom, Sp.idx_cons, Sp.idx_nil, Option.some.injEq, reduceCtorEq, reduceIte, Nat.reduceEqDiff, Nat.reduceAdd, Option.map_some, Option.map_none]; exact rfl
      case r2step =>
        refine ⟨?_, ?_, ?_, ?_, ?_, ?_, ?_, ?_, trivial⟩
        all_goals
          intro L u w1 hL hDn hI hU hD; simp only [Sp.DepsHold, List.map_cons, List.map_nil, Sp.isV, Sp.any_text, Sp.any_gc, Bool.false_eq_true, false_implies, Sp.factAt, Region.binds, List.getElem?_cons_zero, List.getElem?_cons_succ, List.getElem?_nil, Option.getD_some, Option.getD_none, and_true, true_and, true_implies, implies_true] at hD; dsimp only
          have HU := Sp.hid hU; clear hU hDn
          obtain ⟨g1, g2, g3, g4⟩ := hI; have c0 := cell_at g3 0; have c1 := cell_at g3 1; have c2 := cell_at g3 2; (try (rw [hL] at g2; simp only [Bool.false_eq_true, if_false] at g2)); (try (rw [hL] at g4; simp only [Bool.false_eq_true, if_false] at g4; have z0 := cell_at g4 0; have z1 := cell_at g4 1; have z2 := cell_at g4 2; have f0 : ∀ j, w1.frozen? ⟨w.heap.size, j, none⟩ = false := fun j => by simp [World.frozen?, g4])); have HG1 := Sp.hid g1; have HG2 := Sp.hid g2; have HG3 := Sp.hid g3; have HG4 := Sp.hid g4; clear g1 g2 g3 g4
          try clear hL
          repeat (obtain ⟨hE, hD⟩ := hD; (try rw [hE]); clear hE)
          try rw [hD]
          try clear hD
          go_wp2_with (go_at_call 57; refine (HMK.out _ HG2.out).mono ?_; rintro e w2 ⟨rfl, gg, gr⟩; have GG := Sp.hid gg; have GR := Sp.hid gr; clear gg gr)
          (with_reducible apply Sp.rw_close HU.out)
          · first | exact ⟨HG1.out, HG2.out, HG3.out, HG4.out⟩ | (obtain ⟨s1, s2⟩ := pred_store qa qv qp HG4.out; exact ⟨grown_new HG1.out s2 (Nat.le_refl _), (s2.block r (Array.getElem?_eq_some_iff.1 HG2.out).1 (fun e => hrD (by cases e; rfl))).trans HG2.out, grown_keep s2 HG3.out (by omega), s1⟩) | exact ⟨grown_trans HG1.out GG.out, GR.out, grown_keep GG.out HG3.out (fun e => hrQ e.symm), grown_keep GG.out HG4.out (fun e => hrD e.symm)⟩
          · exact rfl
          · exact rfl
      case r2fin =>
        intro L w' hL hI; simp only [List.getElem?_cons_zero, List.getElem?_cons_succ, Option.getD_some]
        obtain ⟨g1, g2, g3, g4⟩ := hI
        rw [hL 6 (by simp)] at g4
        simp only [if_true] at g4
        have z0 := cell_at g4 0
        have z1 := cell_at g4 1
        have z2 := cell_at g4 2
        rw [hL 4 (by simp)] at g2
        simp only [if_true] at g2
        have HG1 := Sp.hid g1
        have HG2 := Sp.hid g2
        clear g1 g2 g3 g4 hL
        go_wp2
        refine bodyPost_ret (v := .tuple #[.agg #[.string qa, .string qv, .int .i64 qp], .bool mb]) (by simp [results, Tryz.f83, go_sem, z0, z1, z2]) rfl ?_
        refine ⟨HG1.out, ?_⟩
        rcases HP2.out with ⟨rfl, h5, h6⟩ | ⟨rfl, h5⟩
        · exact .inl ⟨_, p2, by rw [HPL.out, h5]; rfl, h6, rfl, HG2.out⟩
        · exact .inr ⟨by rw [HPL.out, h5]; rfl, qa, qv, qp, rfl⟩
  have HTAIL := Sp.hid TAIL
  clear TAIL h2
  rw [← HW1.out]
  refine HMA.out.mono ?_
  have hDw : w.heap.size ≤ w.heap.size + 1 := Nat.le_succ _
  have hrD : w.heap.size ≠ r := by omega
  have hrQ : w.heap.size + 1 ≠ r := by omega
  rintro e w2 ⟨g2, ⟨h3, h4, rfl, r3⟩ | ⟨h3, rfl, r3⟩⟩
  · have HG2 := Sp.hid (grown_trans (grown_weak (r := some r) (grown_below HB1.out)) g2)
    have HT2 := Sp.hid (grown_keep g2 HT1.out hrD)
    have HQ2 := Sp.hid (grown_keep g2 HQ1.out hrQ)
    have HL := Sp.hid h3
    have HWD := Sp.hid (rdWord_any r s (p + 1) w2 r3 hs h4)
    have hkl := wordN_le true (restB s (p + 1))
    rw [restB_len] at hkl
    obtain ⟨k, hk⟩ : ∃ k, k = wordN true (restB s (p + 1)) := ⟨_, rfl⟩
    rw [← hk] at HWD hkl
    obtain ⟨qa, hqa⟩ : ∃ qa, qa = bsOf ((restB s (p + 1)).take k) := ⟨_, rfl⟩
    rw [← hqa] at HWD
    have hqe : qa.toList.isEmpty = decide (k = 0) := by
      rw [hqa, bsOf_isEmpty, Bool.eq_iff_iff, List.isEmpty_iff, decide_eq_true_iff]
      constructor
      · intro h; have := congrArg List.length h; rw [List.length_take, restB_len, List.length_nil] at this; omega
      · rintro rfl; rfl
    have HK := Sp.hid hk
    have HQA := Sp.hid hqa
    clear g2 h3 r3 hk hqa HMA HW1 HR1 HB1 HT1 HQ1
    go_wp2_with fail
    refine HWD.out.mono ?_
    rintro e w3 ⟨g3, rfl, r4⟩
    obtain ⟨ws, hws⟩ : ∃ ws, ws = w3.setCell ⟨w.heap.size + 1, 0, none⟩ (.string qa) := ⟨_, rfl⟩
    have hq3 := grown_keep g3 HQ2.out hrQ
    have q0 := cell_at hq3 0
    have f0 : ∀ j, w3.frozen? ⟨w.heap.size + 1, j, none⟩ = false := fun j => by simp [World.frozen?, hq3]
    have hgs : w3.grownBy ws (some (w.heap.size + 1)) := by rw [hws]; exact set_grown _ _ _ _
    have hqs : ws.heap[w.heap.size + 1]? = some (predO qa ⟨#[]⟩ 0) := by
      rw [hws]; have := Joins.block_setCell hq3 (.string qa) (i := 0); simpa using this
    have hts := grown_keep hgs (grown_keep g3 HT2.out hrD) (by omega)
    have hrs : RdAt r s (p + 1 + k) ws := grown_keep hgs r4 (by omega)
    have HGS := Sp.hid (grown_new (grown_trans HG2.out g3) hgs hDw)
    have HTS := Sp.hid hts
    have HRS := Sp.hid hrs
    have HWS := Sp.hid hws
    have HQS := Sp.hid hqs
    have s0 := cell_at hqs 0
    have hkp : p + 1 + k ≤ s.size := by omega
    have HM := Sp.hid (rdMark_any r s 61 (p + 1 + k) ws hrs hs hkp)
    have t0 := cell_at hts 0
    have t1 := cell_at hts 1
    have t2 := cell_at hts 2
    have ft : ∀ j, ws.frozen? ⟨w.heap.size, j, none⟩ = false := fun j => by simp [World.frozen?, hts]
    clear g3 r4 hq3 hgs hqs hts hrs hws HG2 HT2 HQ2 HWD
    by_cases hk0 : k = 0
    · rw [decide_eq_true hk0] at hqe
      have HN := Sp.hid (show predL (restB s p) = none by simp only [predL, HL.out]; rw [← HK.out, if_pos hk0])
      rw [HWS.out] at t0 t1 t2 ft s0
      clear HM hk0
      go_wp2
      rw [← HWS.out]
      obtain ⟨s1, s2⟩ := pred_store ⟨#[]⟩ ⟨#[]⟩ 0 HTS.out
      have z0 := cell_at s1 0
      have z1 := cell_at s1 1
      have z2 := cell_at s1 2
      refine bodyPost_ret (v := .tuple #[.agg #[.string ⟨#[]⟩, .string ⟨#[]⟩, .int .i64 0], .bool false]) (by simp [results, Tryz.f83, go_sem, z0, z1, z2]) rfl ?_
      exact ⟨grown_new HGS.out s2 (Nat.le_refl _), .inr ⟨HN.out, _, _, _, rfl⟩⟩
    · rw [decide_eq_false hk0] at hqe
      have HK0 := Sp.hid hk0
      clear hk0
      go_wp2_with fail
      rw [← HWS.out]
      refine HM.out.mono ?_
      rintro e w4 ⟨g4, ⟨h5, h6, rfl, r5⟩ | ⟨h5, rfl, r5⟩⟩
      · have HG4 := Sp.hid (grown_trans HGS.out g4)
        have HT4 := Sp.hid (grown_keep g4 HTS.out hrD)
        have HQ4 := Sp.hid (grown_keep g4 HQS.out hrQ)
        have HQD := Sp.hid (rdQuoted_any r s (p + 1 + k + 1) w4 r5 hs h6)
        have HH5 := Sp.hid h5
        clear g4 h5 r5 t0 t1 t2 ft s0 HM HTS HQS HWS HGS HRS q0 f0
        go_wp2_with fail
        refine HQD.out.mono ?_
        have HPE := Sp.hid (predL_attr (k := k) HL.out HK.out HK0.out (by rw [restB_drop]; exact HH5.out))
        have STEP : ∀ (w5 : World) (qv : ByteArray), w4.grownBy w5 (some r) → w5.heap[w.heap.size + 1]? = some (predO qa ⟨#[]⟩ 0) ∧ w.grownBy (w5.setCell ⟨w.heap.size + 1, 1, none⟩ (.string qv)) (some r) ∧ (w5.setCell ⟨w.heap.size + 1, 1, none⟩ (.string qv)).heap[w.heap.size + 1]? = some (predO qa qv 0) ∧
            (w5.setCell ⟨w.heap.size + 1, 1, none⟩ (.string qv)).heap[w.heap.size]? = some (predO ⟨#[]⟩ ⟨#[]⟩ 0) ∧ ∀ q, RdAt r s q w5 → RdAt r s q (w5.setCell ⟨w.heap.size + 1, 1, none⟩ (.string qv)) := by
          intro w5 qv g5
          have hq5 := grown_keep g5 HQ4.out hrQ
          have ht5 := grown_keep g5 HT4.out hrD
          have hg5 := set_grown w5 (w.heap.size + 1) 1 (.string qv)
          refine ⟨hq5, grown_new (grown_trans HG4.out g5) hg5 hDw, ?_, grown_keep hg5 ht5 (by omega), fun q hq => grown_keep hg5 hq (by omega)⟩
          have := Joins.block_setCell hq5 (.string qv) (i := 1)
          simpa using this
        have HSTEP := Sp.hid STEP
        clear STEP
        rintro e w5 ⟨g5, ⟨v, q, hq, hqs, rfl, r6⟩ | ⟨hq, rfl, q, hqs, r6⟩⟩
        · obtain ⟨a1, a2, a3, a4, a5⟩ := HSTEP.out w5 (bsOf v) g5
          have q1 := cell_at a1 1
          have f0 : ∀ j, w5.frozen? ⟨w.heap.size + 1, j, none⟩ = false := fun j => by simp [World.frozen?, a1]
          have A2 := Sp.hid a2
          have A3 := Sp.hid a3
          have A4 := Sp.hid a4
          have A5 := Sp.hid (a5 q r6)
          have HPF := Sp.hid (show predL (restB s p) = if true then (markL 93 (restB s q)).map (fun l => (⟨qa, bsOf v, 0⟩, l)) else none by
            rw [if_pos rfl, HPE.out.1 _ _ hq, ← HQA.out])
          clear a1 a2 a3 a4 a5 hq g5 r6
          go_wp2
          exact HTAIL.out _ _ _ _ _ _ _ _ _ _ _ _ _ _ _ _ _ _ _ _ _ _ _ _ _ _ _ _ _ _ _ _ A2.out A5.out hqs A3.out A4.out HPF.out
        · obtain ⟨a1, a2, a3, a4, a5⟩ := HSTEP.out w5 ⟨#[]⟩ g5
          have q1 := cell_at a1 1
          have f0 : ∀ j, w5.frozen? ⟨w.heap.size + 1, j, none⟩ = false := fun j => by simp [World.frozen?, a1]
          have A2 := Sp.hid a2
          have A3 := Sp.hid a3
          have A4 := Sp.hid a4
          have A5 := Sp.hid (a5 q r6)
          have HPF := Sp.hid (show predL (restB s p) = if false then (markL 93 (restB s q)).map (fun l => (⟨qa, ⟨#[]⟩, 0⟩, l)) else none by
            rw [HPE.out.2 hq]; rfl)
          clear a1 a2 a3 a4 a5 hq g5 r6
          go_wp2
          exact HTAIL.out _ _ _ _ _ _ _ _ _ _ _ _ _ _ _ _ _ _ _ _ _ _ _ _ _ _ _ _ _ _ _ _ A2.out A5.out hqs A3.out A4.out HPF.out
      · have hts4 := grown_keep g4 HTS.out hrD
        have HG4 := Sp.hid (grown_trans HGS.out g4)
        have HN := Sp.hid (show predL (restB s p) = none by
          simp only [predL, HL.out]
          rw [← HK.out, if_neg HK0.out, restB_drop]
          simp only [h5])
        clear t0 t1 t2 ft s0
        have t0 := cell_at hts4 0
        have t1 := cell_at hts4 1
        have t2 := cell_at hts4 2
        have ft : ∀ j, w4.frozen? ⟨w.heap.size, j, none⟩ = false := fun j => by simp [World.frozen?, hts4]
        have HT4 := Sp.hid hts4
        clear HM HWS h5 r5 g4 hts4
        go_wp2
        obtain ⟨s1, s2⟩ := pred_store ⟨#[]⟩ ⟨#[]⟩ 0 HT4.out
        have z0 := cell_at s1 0
        have z1 := cell_at s1 1
        have z2 := cell_at s1 2
        refine bodyPost_ret (v := .tuple #[.agg #[.string ⟨#[]⟩, .string ⟨#[]⟩, .int .i64 0], .bool false]) (by simp [results, Tryz.f83, go_sem, z0, z1, z2]) rfl ?_
        exact ⟨grown_new HG4.out s2 (Nat.le_refl _), .inr ⟨HN.out, _, _, _, rfl⟩⟩
  · have HG2 := Sp.hid (grown_trans (grown_weak (r := some r) (grown_below HB1.out)) g2)
    have HT2 := Sp.hid (grown_keep g2 HT1.out hrD)
    have HQ2 := Sp.hid (grown_keep g2 HQ1.out hrQ)
    have HL := Sp.hid h3
    have HPL := Sp.hid (rdPlace_any r s p w2 r3 hs hp)
    obtain ⟨N, hN⟩ : ∃ N, N = (placeN 4 0 (restB s p)).1 := ⟨_, rfl⟩
    obtain ⟨k, hk⟩ : ∃ k, k = (placeN 4 0 (restB s p)).2 := ⟨_, rfl⟩
    have hkl := (placeN_le 4 0 (restB s p)).1
    rw [restB_len, ← hk] at hkl
    rw [← hN, ← hk] at HPL
    have HK := Sp.hid hk
    have HN := Sp.hid hN
    clear g2 h3 r3 hk hN HMA HW1 HR1 HB1 HT1 HQ1
    go_wp2_with fail
    refine HPL.out.mono ?_
    rintro e w3 ⟨g3, rfl, r4⟩
    obtain ⟨ws, hws⟩ : ∃ ws, ws = w3.setCell ⟨w.heap.size + 1, 2, none⟩ (.int .i64 N) := ⟨_, rfl⟩
    have hq3 := grown_keep g3 HQ2.out hrQ
    have q2 := cell_at hq3 2
    have f0 : ∀ j, w3.frozen? ⟨w.heap.size + 1, j, none⟩ = false := fun j => by simp [World.frozen?, hq3]
    have hgs : w3.grownBy ws (some (w.heap.size + 1)) := by rw [hws]; exact set_grown _ _ _ _
    have hqs : ws.heap[w.heap.size + 1]? = some (predO ⟨#[]⟩ ⟨#[]⟩ N) := by
      rw [hws]; have := Joins.block_setCell hq3 (.int .i64 N) (i := 2); simpa using this
    have hts := grown_keep hgs (grown_keep g3 HT2.out hrD) (by omega)
    have hrs : RdAt r s (p + k) ws := grown_keep hgs r4 (by omega)
    have HGS := Sp.hid (grown_new (grown_trans HG2.out g3) hgs hDw)
    have HTS := Sp.hid hts
    have HRS := Sp.hid hrs
    have HWS := Sp.hid hws
    have HQS := Sp.hid hqs
    have HPE := Sp.hid (show predL (restB s p) = if decide (0 < N) then (markL 93 (restB s (p + k))).map (fun l => (⟨⟨#[]⟩, ⟨#[]⟩, N⟩, l)) else none by
      simp only [predL, HL.out]
      rw [← HN.out, ← HK.out, restB_drop]
      by_cases h : 0 < N
      · rw [if_pos h, decide_eq_true h]
        cases markL 93 (restB s (p + k)) <;> rfl
      · rw [if_neg h, decide_eq_false h]; rfl)
    clear g3 r4 hq3 hgs hqs hts hrs hws HG2 HT2 HQ2 HPL
    go_wp2
    rw [← HWS.out]
    exact HTAIL.out _ _ _ _ _ _ _ _ _ _ _ _ _ _ _ _ _ _ _ _ _ _ _ _ _ _ _ _ _ _ _ _ HGS.out HRS.out (by omega) HQS.out HTS.out HPE.out

end Go.Proofs.YtoknglpfchjbjaaGreatDoor

/- The reader of path.Parse: a step. Conditions: none. -/
namespace Go.Proofs.YtoknglpfchjbjaaGreatDoor
open Go.RowKit Go.Sp Go.Maps

def predCells (q : PredM) : List Value := [.string q.attr, .string q.value, .int .i64 q.place]
abbrev pstepO (b : Bool) (nm : ByteArray) (v : Value) : Obj := .cells #[.bool b, .string nm, v] 68

theorem infoPred : (Tryz.prog.info? 70).map (fun i => (i.zero, i.size, i.bytes)) = some (some (.agg #[.string ⟨#[]⟩, .string ⟨#[]⟩, .int .i64 0]), 3, 40) := by kernel_rfl

theorem own_weak {w : World} {base base' : Nat} {e : TypeId} {size : Nat} {v : Value} {n : Nat} {xs : List Value} (h : w.ownsRow base e size v n xs) (hb : base' ≤ base) : w.ownsRow base' e size v n xs := by
  refine ⟨h.1, ?_⟩
  rcases h.2 with h | ⟨g, cap, cur, h1, h2, h3⟩
  · exact .inl h
  · exact .inr ⟨g, cap, cur, h1, Nat.le_trans hb h2, h3⟩

/-- A mark, whether it stands there or not. -/
theorem mark_opt (r : Nat) (s : ByteArray) (c : UInt8) (p : Nat) (hs : s.size ≤ 65536) (hp : p ≤ s.size) :
    ∃ (b : Bool) (p1 : Nat), (∀ W, RdAt r s p W → Calls Tryz.prog 57 #[.pointer (some ⟨r, 0, none⟩), .string ⟨#[c]⟩] W fun e w' => e = .returned (.bool b) ∧ W.grownBy w' (some r) ∧ RdAt r s p1 w') ∧ p1 ≤ s.size ∧
      ((b = true ∧ markL c (restB s p) = some (restB s p1) ∧ p1 = p + 1) ∨ (b = false ∧ markL c (restB s p) = none ∧ p1 = p)) := by
  rcases isM_mark s c p with ⟨_, h5, h6⟩ | ⟨_, h6⟩
  · refine ⟨true, p + 1, fun W' hW' => (rdMark_any r s c p W' hW' hs hp).mono ?_, by omega, .inl ⟨rfl, h6, rfl⟩⟩
    rintro e w' ⟨g1, ⟨_, _, g2, g3⟩ | ⟨g4, _⟩⟩
    · exact ⟨g2, g1, g3⟩
    · rw [h6] at g4; cases g4
  · refine ⟨false, p, fun W' hW' => (rdMark_any r s c p W' hW' hs hp).mono ?_, hp, .inr ⟨rfl, h6, rfl⟩⟩
    rintro e w' ⟨g1, ⟨g4, _⟩ | ⟨_, g2, g3⟩⟩
    · rw [h6] at g4; cases g4
    · exact ⟨g2, g1, g3⟩

def predsA (l : List UInt8) : Option (List PredM × List UInt8) := predsL (l.length + 1) l
theorem predsA_end {l : List UInt8} (h : markL 91 l = none) : predsA l = some ([], l) := by simp only [predsA, predsL, h]
theorem predsA_bad {l r : List UInt8} (h : markL 91 l = some r) (h2 : predL r = none) : predsA l = none := by simp only [predsA, predsL, h, h2]
theorem predsA_step {l r r2 : List UInt8} {q : PredM} (h : markL 91 l = some r) (h2 : predL r = some (q, r2)) : predsA l = (predsA r2).map fun x => (q :: x.1, x.2) := by
  have e1 := congrArg List.length (markL_len h)
  have e2 := predL_len h2
  simp only [List.length_cons] at e1
  simp only [predsA]
  rw [show predsL (l.length + 1) l = (predsL l.length r2).map fun x => (q :: x.1, x.2) from by simp only [predsL, h, h2]]
  rw [predsL_fuel l.length (r2.length + 1) r2 (by omega) (by omega)]
theorem stepL_eq {l l1 nl l3 : List UInt8} {b : Bool} (h1 : (markL 64 l).isSome = b) (h2 : (markL 64 l).getD l = l1) (h3 : nameL l1 = (nl, l3)) :
    stepL l = if nl = [] then none else (predsA l3).map fun x => (⟨b, bsOf nl, x.1⟩, x.2) := by
  simp only [stepL, h2, h3, h1, predsA]
theorem keepO {W W' : World} {o : Option Nat} {D : Nat} {x : Obj} (k : W.grownBy W' o) (h : W.heap[D]? = some x) (hne : o ≠ some D) : W'.heap[D]? = some x :=
  (k.block D (Array.getElem?_eq_some_iff.1 h).1 (fun e => hne e.symm)).trans h
theorem grown_newO {w W W' : World} {r : Nat} {o : Option Nat} (h : w.grownBy W (some r)) (k : W.grownBy W' o) (hD : ∀ g, o = some g → w.heap.size ≤ g) : w.grownBy W' (some r) :=
  ⟨k.os.trans h.os, k.tape.trans h.tape, k.output.trans h.output, Nat.le_trans h.size k.size, fun j hj hne => (k.block j (Nat.lt_of_lt_of_le hj h.size) (fun e => by have := hD j e.symm; omega)).trans (h.block j hj hne)⟩
theorem pstep_store {W : World} {D : Nat} {b0 : Bool} {n0 : ByteArray} {v0 : Value} (b : Bool) (nm : ByteArray) (v : Value) (h : W.heap[D]? = some (pstepO b0 n0 v0)) :
    (((W.setCell ⟨D, 0, none⟩ (.bool b)).setCell ⟨D, 1, none⟩ (.string nm)).setCell ⟨D, 2, none⟩ v).heap[D]? = some (pstepO b nm v) ∧
      W.grownBy (((W.setCell ⟨D, 0, none⟩ (.bool b)).setCell ⟨D, 1, none⟩ (.string nm)).setCell ⟨D, 2, none⟩ v) (some D) := by
  constructor
  · have := Joins.block_setCell (Joins.block_setCell (Joins.block_setCell h (.bool b) (i := 0)) (.string nm) (i := 1)) v (i := 2)
    simpa using this
  · exact grown_trans (grown_trans (set_grown _ _ _ _) (set_grown _ _ _ _)) (set_grown _ _ _ _)

theorem own_slice {w : World} {base : Nat} {e : TypeId} {size : Nat} {v : Value} {n : Nat} {xs : List Value} (h : w.ownsRow base e size v n xs) : ∃ a c, v = .slice a n c := by
  rcases h.2 with ⟨h, h0⟩ | ⟨g, cap, cur, h1, _⟩
  · exact ⟨none, 0, by rw [h, h0]⟩
  · exact ⟨_, _, h1⟩
theorem frozen_not {X : World} {D : Nat} {vs : Array Value} {t : TypeId} (h : X.heap[D]? = some (.cells vs t (0, 0))) (j : Nat) : X.frozen? ⟨D, j, none⟩ = false := by simp [World.frozen?, h]

theorem rdNews3 (w : World) (a b c : Value) (t : TypeId) : ∀ j u, [a, b, c][j]? = some u → (w.alloc (.cells #[a, b, c] t)).cell? ((⟨w.heap.size, 0, none⟩ : Addr).add j) = some u := by
  intro j u hj
  have hadd : (⟨w.heap.size, 0, none⟩ : Addr).add j = ⟨w.heap.size, j, none⟩ := by unfold Addr.add; split <;> simp_all
  rw [hadd, World.cell?_alloc_new]
  simpa using hj

def RdStepPost (r : Nat) (s : ByteArray) (p : Nat) (w : World) (e : Ending) (w' : World) : Prop := w.grownBy w' (some r) ∧
  ((∃ x p' pv, stepL (restB s p) = some (x, restB s p') ∧ p' ≤ s.size ∧ e = .returned (.tuple #[.agg #[.bool x.isAttr, .string x.name, pv], .bool true]) ∧ RdAt r s p' w' ∧ w'.ownsRow w.heap.size 70 3 pv x.preds.length (x.preds.flatMap predCells)) ∨
   (stepL (restB s p) = none ∧ e = .returned (.tuple #[.agg #[.bool false, .string ⟨#[]⟩, .slice none 0 0], .bool false])))

set_option maxRecDepth 100000 in
set_option maxHeartbeats 1500000 in
theorem rdStep_any (r : Nat) (s : ByteArray) (p : Nat) (w : World) (h : RdAt r s p w) (hs : s.size ≤ 65536) (hp : p ≤ s.size) :
    Calls Tryz.prog 56 #[.pointer (some ⟨r, 0, none⟩)] w (RdStepPost r s p w) := by
  have hrl : r < w.heap.size := (Array.getElem?_eq_some_iff.1 h).1
  obtain ⟨w1, hw1⟩ : ∃ w1, w1 = w.alloc (pstepO false ⟨#[]⟩ (.slice none 0 0)) := ⟨_, rfl⟩
  have hs1 : w1.heap.size = w.heap.size + 1 := by rw [hw1]; simp
  have hb1 : Below w.heap.size w w1 := by rw [hw1]; exact (Below.refl _ _).alloc (Nat.le_refl _) _
  have ht1 : w1.heap[w.heap.size]? = some (pstepO false ⟨#[]⟩ (.slice none 0 0)) := by rw [hw1]; exact World.alloc_heap_new w _
  obtain ⟨b, p1, hma, hp1, hbp⟩ := mark_opt r s 64 p hs hp
  have HW1 := Sp.hid hw1
  have HB1 := Sp.hid hb1
  have HT1 := Sp.hid ht1
  have HMA := Sp.hid (hma w1 (h.below hb1))
  have HBP := Sp.hid hbp
  clear hw1 h hb1 ht1 hma hbp
  go_enter Tryz.func56, Tryz.ntmps56
  go_wp2_with fail
  rw [← HW1.out]
  refine HMA.out.mono ?_
  rintro e w2 ⟨rfl, g2, r2⟩
  have hs2 := g2.size
  have hrD : w.heap.size ≠ r := by omega
  have HG2 := Sp.hid (grown_trans (grown_weak (r := some r) (grown_below HB1.out)) g2)
  have HT2 := Sp.hid (grown_keep g2 HT1.out hrD)
  have HR2 := Sp.hid r2
  clear g2 r2 HMA HW1 HB1 HT1
  go_wp2_with fail
  rename_i K2 h2 K1 h1 K0 h0
  obtain ⟨D4, hD4⟩ : ∃ D4, D4 = w2.heap.size := ⟨_, rfl⟩
  rw [← hD4]
  have hDD : w.heap.size < D4 := by omega
  have hrD4 : D4 ≠ r := by omega
  have TAIL : ∀ (v11 v12 v13 v14 v15 : Value) (W : World) (nl : List UInt8) (p3 : Nat), w.grownBy W (some r) → RdAt r s p3 W → p3 ≤ s.size → W.heap[D4]? = some (pstepO b (bsOf nl) (.slice none 0 0)) → W.heap[w.heap.size]? = some (pstepO false ⟨#[]⟩ (.slice none 0 0)) →
      nameL (restB s p1) = (nl, restB s p3) →
      K2 ⟨#[.pointer (some ⟨r, 0, none⟩), undef, .pointer (some ⟨w.heap.size, 0, none⟩), .bool false, .pointer (some ⟨D4, 0, none⟩), undef, undef, .pointer (some ⟨r, 0, none⟩), .bool b, .agg #[.bool b, .string ⟨#[]⟩, .slice none 0 0], .pointer (some ⟨r, 0, none⟩), v11, v12, v13, v14, v15, undef, undef, undef, undef, undef, undef, undef, undef, undef, undef, undef, undef, undef, undef, undef, undef, undef, undef, undef, undef, undef], []⟩ W := by
    intro v11 v12 v13 v14 v15 W nl p3 hgw hrw hp3 hqw htw hnl
    have hse := stepL_eq (l := restB s p) (l1 := restB s p1) (b := b) (by rcases HBP.out with ⟨rfl, h5, _⟩ | ⟨rfl, h5, _⟩ <;> rw [h5] <;> rfl) (by rcases HBP.out with ⟨_, h5, _⟩ | ⟨_, h5, h6⟩ <;> rw [h5] <;> first | rfl | rw [h6]; rfl) hnl
    have HSE := Sp.hid hse
    have hnn : (bsOf nl).toList.isEmpty = nl.isEmpty := bsOf_isEmpty nl
    obtain ⟨nm, hnm⟩ : ∃ nm, nm = bsOf nl := ⟨_, rfl⟩
    rw [← hnm] at hqw hnn
    have HNM := Sp.hid hnm
    have HGW := Sp.hid hgw
    have HRW := Sp.hid hrw
    have HQW := Sp.hid hqw
    have HTW := Sp.hid htw
    have c0 := cell_at hqw 0
    have c1 := cell_at hqw 1
    have c2 := cell_at hqw 2
    have t0 := cell_at htw 0
    have t1 := cell_at htw 1
    have t2 := cell_at htw 2
    have ft : ∀ j, W.frozen? ⟨w.heap.size, j, none⟩ = false := fun j => by simp [World.frozen?, htw]
    have hWl := (Array.getElem?_eq_some_iff.1 hqw).1
    clear hse hgw hrw hqw htw h0 h1 HG2 HT2 HR2 hnl hnm hD4
    refine h2 _ _ ?_
    by_cases hn0 : nl = []
    · have hne : nm.toList.isEmpty = true := by rw [hnn, hn0]; rfl
      have HN := Sp.hid (show stepL (restB s p) = none by rw [HSE.out, if_pos hn0])
      clear hnn hn0
      go_wp2
      obtain ⟨s1, s2⟩ := pstep_store false ⟨#[]⟩ (.slice none 0 0) HTW.out
      have z0 := cell_at s1 0
      have z1 := cell_at s1 1
      have z2 := cell_at s1 2
      refine bodyPost_ret (v := .tuple #[.agg #[.bool false, .string ⟨#[]⟩, .slice none 0 0], .bool false]) (by simp [results, Tryz.f56, go_sem, z0, z1, z2]) rfl ?_
      exact ⟨grown_new HGW.out s2 (Nat.le_refl _), .inr ⟨HN.out, rfl⟩⟩
    · have hne : nm.toList.isEmpty = false := by rw [hnn]; cases nl with | nil => exact absurd rfl hn0 | cons _ _ => rfl
      have HN0 := Sp.hid hn0
      clear hnn hn0 t0 t1 t2 ft
      go_wp2
      go_loopw [] (fun wr => ∃ (qs : List PredM) (q : Nat) (v : Value), q ≤ s.size ∧ qs.length ≤ q ∧ predsA (restB s p3) = (predsA (restB s q)).map (fun x => (qs ++ x.1, x.2)) ∧ RdAt r s q wr ∧ wr.heap[D4]? = some (pstepO b nm v) ∧ wr.heap[w.heap.size]? = some (pstepO false ⟨#[]⟩ (.slice none 0 0)) ∧ wr.ownsRow (D4 + 1) 70 3 v qs.length (qs.flatMap predCells) ∧ w.grownBy wr (some r)) (fun wr => s.size - rdPos r wr)
      case atStart =>
        refine ⟨[], p3, _, hp3, Nat.zero_le _, ?_, HRW.out, HQW.out, HTW.out, World.ownsRow_nil _ _ _ _, HGW.out⟩
        cases predsA (restB s p3) <;> rfl
      case round =>
        obtain ⟨qs, q, v, hq, hql, hpa, hrr, hqr, htr, hor, hgr⟩ := hrel
        obtain ⟨b3, q1, hm3, hq1, hbq⟩ := mark_opt r s 91 q hs hq
        have HM3 := Sp.hid (hm3 wr hrr)
        have HPA := Sp.hid hpa
        have HRR := Sp.hid hrr
        have HRR2 := Sp.hid hrr
        have HQR := Sp.hid hqr
        have HTR := Sp.hid htr
        have HOR := Sp.hid hor
        have HGR := Sp.hid hgr
        have HBQ := Sp.hid hbq
        clear hm3 hpa hrr hqr htr hor hgr hbq c0 c1 c2 HQW HTW HGW HRW
        go_wp2_with fail
        refine HM3.out.mono ?_
        rintro e w4 ⟨rfl, g4, r4⟩
        have hq4 := grown_keep g4 HQR.out hrD4
        have ht4 := grown_keep g4 HTR.out hrD
        have HG4 := Sp.hid (grown_trans HGR.out g4)
        have HQ4 := Sp.hid hq4
        have HT4 := Sp.hid ht4
        have HR4 := Sp.hid r4
        have hq4l := (Array.getElem?_eq_some_iff.1 hq4).1
        have HO4 := Sp.hid (HOR.out.kept g4 (.inr fun e => by have := (HOR.out.lt r e).1; omega))
        clear HM3
        cases b3
        · have hb5 : markL 91 (restB s q) = none ∧ q1 = q := by
            rcases HBQ.out with ⟨h5, _⟩ | ⟨_, h5, h6⟩
            · cases h5
            · exact ⟨h5, h6⟩
          obtain ⟨hb6, rfl⟩ := hb5
          have HB6 := Sp.hid hb6
          obtain ⟨va, vc, rfl⟩ := own_slice HO4.out
          have c0 := cell_at hq4 0
          have c1 := cell_at hq4 1
          have c2 := cell_at hq4 2
          have t0 := cell_at ht4 0
          have t1 := cell_at ht4 1
          have t2 := cell_at ht4 2
          have ft : ∀ j, w4.frozen? ⟨w.heap.size, j, none⟩ = false := fun j => by simp [World.frozen?, ht4]
          clear hb6 hq4 ht4 g4 r4
          go_wp2
          obtain ⟨s1, s2⟩ := pstep_store b nm (.slice va qs.length vc) HT4.out
          have z0 := cell_at s1 0
          have z1 := cell_at s1 1
          have z2 := cell_at s1 2
          refine bodyPost_ret (v := .tuple #[.agg #[.bool b, .string nm, .slice va qs.length vc], .bool true]) (by simp [results, Tryz.f56, go_sem, z0, z1, z2]) rfl ?_
          refine ⟨grown_new HG4.out s2 (Nat.le_refl _), .inl ⟨⟨b, nm, qs⟩, q1, _, ?_, hq1, rfl, grown_keep s2 HR4.out (by omega), own_weak (HO4.out.kept s2 (.inr fun e => by have := (HO4.out.lt _ e).1; omega)) (by omega)⟩⟩
          rw [HSE.out, if_neg HN0.out, HPA.out, predsA_end HB6.out, HNM.out]
          simp
        · have hb5 : markL 91 (restB s q) = some (restB s q1) ∧ q1 = q + 1 := by
            rcases HBQ.out with ⟨_, h5, h6⟩ | ⟨h5, _⟩
            · exact ⟨h5, h6⟩
            · cases h5
          obtain ⟨hb6, hq1e⟩ := hb5
          have HB6 := Sp.hid hb6
          have HPR := Sp.hid (rdPred_any r s q1 w4 r4 hs hq1)
          have HQ1 := Sp.hid hq1e
          clear hb6 hq4 ht4 g4 r4 hq1e
          go_wp2_with fail
          refine HPR.out.mono ?_
          rintro e w5 ⟨g5, ⟨pq, q2, hpl, hq2, rfl, r5⟩ | ⟨hpl, qa, qv, qp, rfl⟩⟩
          · have hq5 := grown_keep g5 HQ4.out hrD4
            have ht5 := grown_keep g5 HT4.out hrD
            have hpll := predL_len hpl
            rw [restB_len, restB_len] at hpll
            have hq5l := (Array.getElem?_eq_some_iff.1 hq5).1
            have ho5 := HO4.out.kept g5 (.inr fun e => by have := (HO4.out.lt r e).1; omega)
            have HG5 := Sp.hid (grown_trans HG4.out g5)
            have HQ5 := Sp.hid hq5
            have HT5 := Sp.hid ht5
            have HO5 := Sp.hid ho5
            have HR5 := Sp.hid r5
            have HPL := Sp.hid hpl
            have hq6 : (w5.alloc (.cells #[.string pq.attr, .string pq.value, .int .i64 pq.place] 70)).heap[D4]? = some (pstepO b nm v) := (Below.heap_alloc _ _ _ hq5l).trans hq5
            have c0 := cell_at hq5 0
            have c1 := cell_at hq5 1
            have c2 := cell_at hq5 2
            have hqql : qs.length + 1 ≤ 65536 := by have := HQ1.out; omega
            have hqqb : qs.length + 1 ≤ q2 := by have := HQ1.out; omega
            obtain ⟨i0, hi0, hz0, hz1, hz2⟩ := info_parts infoPred
            clear hq5 ht5 hpl g5 r5 ho5 hq6 HPR HT4 HQ4 HO4 HR4 HTR HQR HOR HRR HGR
            go_wp2_with (at_builtin; refine wpList_append_own_at _ rfl _ _ 66 rfl (D4 + 1) 70 i0 _ 3 40 Tryz.underlying66 hi0 hz0 hz1 hz2 rfl (by decide) _ _ _ rfl ((HO5.out.alloc _).alloc _) ⟨w5.heap.size + 1, 0, none⟩ 1 1 [.string pq.attr, .string pq.value, .int .i64 pq.place] rfl rfl ?c1 ?c2 ?c3 ?c4 ?c5 ?c6)
            case c1 => have := rdNews3 (w5.alloc (.cells #[.string pq.attr, .string pq.value, .int .i64 pq.place] 70)) (.string pq.attr) (.string pq.value) (.int .i64 pq.place) 70; simpa using this
            case c2 => intro u hu; simp at hu; rcases hu with rfl | rfl | rfl <;> rfl
            case c3 => unfold maxLen; omega
            case c4 => omega
            case c5 => simp; omega
            case c6 =>
              intro v' w7 hown' hgrow _ hwh
              obtain ⟨va', vc', rfl⟩ := own_slice hown'
              have hvb : ∀ g, v.ownBlock = some g → D4 + 1 ≤ g := fun g hg => (HO5.out.lt g hg).1
              have a5 : w5.grownBy w7 v.ownBlock := grown_trans (grown_weak (grown_below (((Below.refl _ _).alloc (Nat.le_refl _) _).alloc (by simp) _))) hgrow
              have hq7 := keepO a5 HQ5.out (fun e => by have := hvb _ e; omega)
              have ht7 := keepO a5 HT5.out (fun e => by have := hvb _ e; omega)
              have hr7 : RdAt r s q2 w7 := keepO a5 HR5.out (fun e => by have := hvb _ e; omega)
              have hg7 := grown_newO HG5.out a5 (fun g hg => by have := hvb g hg; omega)
              obtain ⟨wf, hwf⟩ : ∃ wf, wf = w7.setCell ⟨D4, 2, none⟩ (.slice va' (qs.length + 1) vc') := ⟨_, rfl⟩
              have hgs : w7.grownBy wf (some D4) := by rw [hwf]; exact set_grown _ _ _ _
              have hqf : wf.heap[D4]? = some (pstepO b nm (.slice va' (qs.length + 1) vc')) := by
                rw [hwf]; have := Joins.block_setCell hq7 (.slice va' (qs.length + 1) vc') (i := 2); simpa using this
              have d2 := cell_at hq7 2
              have fq := frozen_not hq7
              have HF := Sp.hid (show ∃ (qs : List PredM) (q : Nat) (v : Value), q ≤ s.size ∧ qs.length ≤ q ∧ predsA (restB s p3) = (predsA (restB s q)).map (fun x => (qs ++ x.1, x.2)) ∧ RdAt r s q wf ∧ wf.heap[D4]? = some (pstepO b nm v) ∧ wf.heap[w.heap.size]? = some (pstepO false ⟨#[]⟩ (.slice none 0 0)) ∧ wf.ownsRow (D4 + 1) 70 3 v qs.length (qs.flatMap predCells) ∧ w.grownBy wf (some r) from by
                refine ⟨qs ++ [pq], q2, (.slice va' (qs.length + 1) vc'), hq2, by rw [List.length_append]; simpa using hqqb, ?_, grown_keep hgs hr7 (by omega), hqf, grown_keep hgs ht7 (by omega), ?_, grown_new hg7 hgs (by omega)⟩
                · rw [HPA.out, predsA_step HB6.out HPL.out]
                  cases predsA (restB s q2) with
                  | none => rfl
                  | some x => simp
                · rw [List.length_append, List.flatMap_append]
                  have := hown'.kept hgs (.inr fun e => by have := (hown'.lt _ e).1; omega)
                  simpa [predCells] using this)
              have HPOS := Sp.hid (show rdPos r wf = q2 from RdAt.pos (grown_keep hgs hr7 (by omega)))
              have HPOQ := Sp.hid (show rdPos r wr = q from HRR2.out.pos)
              have HWF := Sp.hid hwf
              clear hvb a5 hq7 ht7 hr7 hg7 hgs hqf hwf hown' hgrow hwh c0 c1 c2
              go_wp2
              go_roundw
              case rel => rw [← HWF.out]; exact HF.out
              case measure => rw [← HWF.out, HPOS.out, HPOQ.out]; have := HQ1.out; omega
          · have ht5 := grown_keep g5 HT4.out hrD
            have ht5l := (Array.getElem?_eq_some_iff.1 ht5).1
            have t0 := cell_at ht5 0
            have t1 := cell_at ht5 1
            have t2 := cell_at ht5 2
            have ft : ∀ j, w5.frozen? ⟨w.heap.size, j, none⟩ = false := frozen_not ht5
            have HG6 := Sp.hid (grown_trans HG4.out g5)
            have HT5 := Sp.hid ht5
            have HN := Sp.hid (show stepL (restB s p) = none by rw [HSE.out, if_neg HN0.out, HPA.out, predsA_bad HB6.out hpl]; rfl)
            clear ht5 hpl g5 HPR HT4 HQ4 HO4 HR4 HTR HQR HOR HRR HGR
            go_wp2
            obtain ⟨s1, s2⟩ := pstep_store false ⟨#[]⟩ (.slice none 0 0) HT5.out
            have s3 := (Below.heap_alloc _ (.cells #[.string qa, .string qv, .int .i64 qp] 70) _ (Array.getElem?_eq_some_iff.1 s1).1).trans s1
            have z0 := cell_at s3 0
            have z1 := cell_at s3 1
            have z2 := cell_at s3 2
            refine bodyPost_ret (v := .tuple #[.agg #[.bool false, .string ⟨#[]⟩, .slice none 0 0], .bool false]) (by simp [results, Tryz.f56, go_sem, z0, z1, z2]) rfl ?_
            exact ⟨grown_trans (grown_new HG6.out s2 (Nat.le_refl _)) (grown_weak (grown_below ((Below.refl _ _).alloc (Nat.le_refl _) _))), .inr ⟨HN.out, rfl⟩⟩
  have HTAIL := Sp.hid TAIL
  clear TAIL h2
  obtain ⟨wq, hwq⟩ : ∃ wq, wq = w2.alloc (.cells #[.bool b, .string ⟨#[]⟩, .slice none 0 0] 68) := ⟨_, rfl⟩
  have hbq : Below w2.heap.size w2 wq := by rw [hwq]; exact (Below.refl _ _).alloc (Nat.le_refl _) _
  have hqq : wq.heap[D4]? = some (pstepO b ⟨#[]⟩ (.slice none 0 0)) := by rw [hwq, hD4]; exact World.alloc_heap_new _ _
  have hgq := grown_trans HG2.out (grown_weak (r := some r) (grown_below hbq))
  have htq := grown_keep (grown_weak (r := some r) (grown_below hbq)) HT2.out hrD
  have hrq : RdAt r s p1 wq := HR2.out.below hbq
  obtain ⟨b2, p2, hm2, hp2, hb2⟩ := mark_opt r s 42 p1 hs hp1
  have HM2 := Sp.hid (hm2 wq hrq)
  have HWQ := Sp.hid hwq
  have HQQ := Sp.hid hqq
  have HGQ := Sp.hid hgq
  have HTQ := Sp.hid htq
  have HB2 := Sp.hid hb2
  clear hwq hbq hqq hgq htq hrq hm2 hb2 HG2 HT2 HR2 hD4
  rw [← HWQ.out]
  refine HM2.out.mono ?_
  rintro e w3 ⟨rfl, g3, r3⟩
  have hq3 := grown_keep g3 HQQ.out hrD4
  have c1 := cell_at hq3 1
  have fq := frozen_not hq3
  have SET : ∀ (W : World) (nm : ByteArray) (q : Nat), w3.grownBy W (some r) → RdAt r s q W → W.heap[D4]? = some (pstepO b ⟨#[]⟩ (.slice none 0 0)) ∧ w.grownBy (W.setCell ⟨D4, 1, none⟩ (.string nm)) (some r) ∧ RdAt r s q (W.setCell ⟨D4, 1, none⟩ (.string nm)) ∧
      (W.setCell ⟨D4, 1, none⟩ (.string nm)).heap[D4]? = some (pstepO b nm (.slice none 0 0)) ∧ (W.setCell ⟨D4, 1, none⟩ (.string nm)).heap[w.heap.size]? = some (pstepO false ⟨#[]⟩ (.slice none 0 0)) := by
    intro W nm q gW rW
    have hqW := grown_keep gW hq3 hrD4
    have hgs := set_grown W D4 1 (.string nm)
    refine ⟨hqW, grown_new (grown_trans (grown_trans HGQ.out g3) gW) hgs (by omega), grown_keep hgs rW (by omega), ?_, grown_keep hgs (grown_keep gW (grown_keep g3 HTQ.out hrD) hrD) (by omega)⟩
    have := Joins.block_setCell hqW (.string nm) (i := 1)
    simpa using this
  have HSET := Sp.hid SET
  clear SET
  cases b2
  · have hb5 : markL 42 (restB s p1) = none ∧ p2 = p1 := by
      rcases HB2.out with ⟨h5, _⟩ | ⟨_, h5, h6⟩
      · cases h5
      · exact ⟨h5, h6⟩
    obtain ⟨hb6, rfl⟩ := hb5
    have HN6 := Sp.hid (show nameL (restB s p2) = ((restB s p2).take (wordN true (restB s p2)), restB s (p2 + wordN true (restB s p2))) by simp only [nameL, hb6, restB_drop])
    have HWD := Sp.hid (rdWord_any r s p2 w3 r3 hs hp2)
    have hkl := wordN_le true (restB s p2)
    rw [restB_len] at hkl
    obtain ⟨k, hk⟩ : ∃ k, k = wordN true (restB s p2) := ⟨_, rfl⟩
    rw [← hk] at HN6 HWD hkl
    clear hb6 g3 r3 hq3 c1 fq HM2 hk
    go_wp2_with fail
    refine HWD.out.mono ?_
    rintro e w4 ⟨g4, rfl, r4⟩
    obtain ⟨a1, a2, a3, a4, a5⟩ := HSET.out w4 (bsOf ((restB s p2).take k)) (p2 + k) g4 r4
    have c1 := cell_at a1 1
    have fq := frozen_not a1
    have A2 := Sp.hid a2
    have A3 := Sp.hid a3
    have A4 := Sp.hid a4
    have A5 := Sp.hid a5
    clear a1 a2 a3 a4 a5 g4 r4
    go_wp2
    exact HTAIL.out _ _ _ _ _ _ _ _ A2.out A3.out (by omega) A4.out A5.out HN6.out
  · have hb5 : markL 42 (restB s p1) = some (restB s p2) := by
      rcases HB2.out with ⟨_, h5, _⟩ | ⟨h5, _⟩
      · exact h5
      · cases h5
    have HN6 := Sp.hid (show nameL (restB s p1) = ([42], restB s p2) by simp only [nameL, hb5])
    obtain ⟨a1, a2, a3, a4, a5⟩ := HSET.out w3 ⟨#[42]⟩ p2 (grown_refl _ _) r3
    have A2 := Sp.hid a2
    have A3 := Sp.hid a3
    have A4 := Sp.hid a4
    have A5 := Sp.hid a5
    clear a1 a2 a3 a4 a5 g3 r3 hb5 HM2 hq3
    go_wp2
    exact HTAIL.out _ _ _ _ _ _ _ _ A2.out A3.out hp2 A4.out A5.out HN6.out

end Go.Proofs.YtoknglpfchjbjaaGreatDoor

/- The reader of path.Parse: steps. Conditions: none. -/
namespace Go.Proofs.YtoknglpfchjbjaaGreatDoor
open Go.RowKit Go.Sp Go.Maps

def stepsA (l : List UInt8) : Option (List StepM) := stepsL (l.length + 1) l
theorem stepsA_bad {l : List UInt8} (h : stepL l = none) : stepsA l = none := by simp only [stepsA, stepsL, h]
theorem stepsA_last {l : List UInt8} {x : StepM} (h : stepL l = some (x, [])) : stepsA l = some [x] := by simp only [stepsA, stepsL, h, if_true]
theorem stepsA_miss {l r : List UInt8} {x : StepM} (h : stepL l = some (x, r)) (hr : r ≠ []) (hm : markL 47 r = none) : stepsA l = none := by simp only [stepsA, stepsL, h, if_neg hr, hm]
theorem stepsA_step {l r r2 : List UInt8} {x : StepM} (h : stepL l = some (x, r)) (hr : r ≠ []) (hm : markL 47 r = some r2) : stepsA l = (stepsA r2).map (x :: ·) := by
  have e1 := congrArg List.length (markL_len hm)
  have e2 := stepL_len h
  simp only [List.length_cons] at e1
  simp only [stepsA]
  rw [show stepsL (l.length + 1) l = (stepsL l.length r2).map (x :: ·) from by simp only [stepsL, h, if_neg hr, hm]]
  rw [stepsL_fuel l.length (r2.length + 1) r2 (by omega) (by omega)]

/-- What is read is no longer than what stands there. -/
def predOk (n : Nat) (q : PredM) : Prop := q.attr.size ≤ n ∧ q.value.size ≤ n ∧ 0 ≤ q.place ∧ q.place ≤ 9999
theorem bsOf_size (l : List UInt8) : (bsOf l).size = l.length := by simp [bsOf, ByteArray.size]
theorem ten_pow : ∀ k : Nat, (1 : Int) ≤ 10 ^ k
  | 0 => by decide
  | k + 1 => by have := ten_pow k; rw [Int.pow_succ]; omega
theorem placeN_range : ∀ (k : Nat) (n : Int) (l : List UInt8), 0 ≤ n → 0 ≤ (placeN k n l).1 ∧ (placeN k n l).1 + 1 ≤ (n + 1) * 10 ^ k
  | 0, n, _, h => by simp [placeN]; omega
  | k + 1, n, [], h => by
    simp only [placeN]
    have : (1 : Int) ≤ 10 ^ (k + 1) := ten_pow _
    refine ⟨h, ?_⟩
    calc n + 1 = (n + 1) * 1 := by omega
      _ ≤ (n + 1) * 10 ^ (k + 1) := Int.mul_le_mul_of_nonneg_left this (by omega)
  | k + 1, n, c :: l, h => by
    have hp : (1 : Int) ≤ 10 ^ k := ten_pow _
    have hp1 : (10 : Int) ^ (k + 1) = 10 ^ k * 10 := Int.pow_succ _ _
    unfold placeN
    split
    · rename_i hc
      rw [Bool.and_eq_true] at hc
      have hr := dig_range hc.1
      have := placeN_range k (n * 10 + ((c.toNat : Int) - 48)) l (by omega)
      refine ⟨this.1, Int.le_trans this.2 ?_⟩
      rw [hp1]
      calc (n * 10 + ((c.toNat : Int) - 48) + 1) * 10 ^ k ≤ ((n + 1) * 10) * 10 ^ k := Int.mul_le_mul_of_nonneg_right (by omega) (by omega)
        _ = (n + 1) * (10 ^ k * 10) := by rw [Int.mul_assoc, Int.mul_comm 10 (10 ^ k)]
    · refine ⟨h, ?_⟩
      rw [hp1]
      calc n + 1 = (n + 1) * 1 := by omega
        _ ≤ (n + 1) * (10 ^ k * 10) := Int.mul_le_mul_of_nonneg_left (by omega) (by omega)
theorem predL_ok {l r : List UInt8} {q : PredM} (h : predL l = some (q, r)) : predOk l.length q := by
  unfold predL at h
  split at h
  · rename_i r1 h1
    split at h
    · cases h
    · split at h
      · cases h
      · rename_i r2 h2
        split at h
        · cases h
        · rename_i v r3 h3
          split at h
          · cases h
          · rename_i r4 h4
            cases h
            have e1 := congrArg List.length (markL_len h1)
            have e2 := congrArg List.length (markL_len h2)
            have e3 := quotedL_len h3
            simp only [List.length_cons, List.length_drop] at e1 e2 e3
            refine ⟨?_, ?_, (by show (0 : Int) ≤ 0; decide), (by show (0 : Int) ≤ 9999; decide)⟩
            · rw [bsOf_size, List.length_take]; omega
            · rw [bsOf_size]; omega
  · split at h
    · split at h
      · cases h
      · rename_i r1 h1
        cases h
        have := placeN_range 4 0 l (by omega)
        exact ⟨Nat.zero_le _, Nat.zero_le _, this.1, by have := this.2; dsimp only; omega⟩
    · cases h
theorem predsL_ok : ∀ {f : Nat} {l r : List UInt8} {qs : List PredM}, predsL f l = some (qs, r) → ∀ q ∈ qs, predOk l.length q
  | 0, _, _, _, h => by cases h
  | f + 1, l, r, qs, h => by
    unfold predsL at h
    split at h
    · cases h; simp
    · rename_i r1 h1
      split at h
      · cases h
      · rename_i q r2 h2
        cases h3 : predsL f r2 with
        | none => rw [h3] at h; cases h
        | some x =>
          rw [h3] at h
          cases h
          have e1 := congrArg List.length (markL_len h1)
          have e2 := predL_len h2
          have e4 := predL_ok h2
          simp only [List.length_cons] at e1
          intro q' hq
          rcases List.mem_cons.1 hq with rfl | hq
          · exact ⟨by have := e4.1; omega, by have := e4.2.1; omega, e4.2.2⟩
          · have := predsL_ok (f := f) (l := r2) (r := x.2) (qs := x.1) h3 q' hq
            exact ⟨by have := this.1; omega, by have := this.2.1; omega, this.2.2⟩
def stepOk (n : Nat) (x : StepM) : Prop := x.name.size ≤ n ∧ x.preds.length ≤ n ∧ ∀ q ∈ x.preds, predOk n q
theorem stepL_ok {l r : List UInt8} {x : StepM} (h : stepL l = some (x, r)) : stepOk l.length x := by
  unfold stepL at h
  split at h
  · cases h
  · rename_i hn
    cases hp : predsL ((nameL ((markL 64 l).getD l)).2.length + 1) (nameL ((markL 64 l).getD l)).2 with
    | none => rw [hp] at h; cases h
    | some y =>
      rw [hp] at h
      cases h
      have e1 := predsL_len (r := y.2) (qs := y.1) hp
      have e5 := predsL_ok (r := y.2) (qs := y.1) hp
      have e2 := @nameL_len ((markL 64 l).getD l)
      have e4 : ((markL 64 l).getD l).length ≤ l.length := by
        cases hm : markL 64 l with
        | none => exact Nat.le_refl _
        | some r =>
          have := congrArg List.length (markL_len hm)
          simp only [List.length_cons] at this
          simp only [Option.getD_some]; omega
      refine ⟨?_, ?_, fun q hq => ?_⟩
      · rw [bsOf_size]; omega
      · dsimp only; omega
      · have := e5 q hq
        exact ⟨by have := this.1; omega, by have := this.2.1; omega, this.2.2⟩

theorem own_slice_cap {w : World} {base : Nat} {e : TypeId} {size : Nat} {v : Value} {n : Nat} {xs : List Value} (h : w.ownsRow base e size v n xs) : ∃ a c, v = .slice a n c ∧ n ≤ c := by
  rcases h.2 with ⟨h, h0⟩ | ⟨g, cap, cur, h1, _, _, hc, _⟩
  · exact ⟨none, 0, by rw [h, h0], by omega⟩
  · exact ⟨_, _, h1, hc⟩
/-- A step's predicates in memory. -/
theorem own_preds {w : World} {base : Nat} {pv : Value} {qs : List PredM} (h : w.ownsRow base 70 3 pv qs.length (qs.flatMap predCells)) (hq : ∀ q ∈ qs, predOk 65536 q) :
    ∃ a c, pv = .slice a qs.length c ∧ Sl predS (fun b => pv.ownBlock = some b) w a qs := by
  have h' : w.ownsRow base 70 predS.sz pv qs.length ((qs.map fun q => (predCells q, q)).flatMap (·.1)) := by rw [List.flatMap_map]; exact h
  obtain ⟨a, c, h1, h2⟩ := own_sl (S := predS) (F := fun b => pv.ownBlock = some b) h' (by simp) (fun x hx => by
    obtain ⟨q, hq', rfl⟩ := List.mem_map.1 hx
    obtain ⟨k1, k2, k3, k4⟩ := hq q hq'
    exact ⟨rfl, by unfold maxLen; dsimp only; omega, by unfold maxLen; dsimp only; omega, by dsimp only; omega⟩) (fun g hg => hg)
  refine ⟨a, c, h1, ?_⟩
  have e : (qs.map fun q => (predCells q, q)).map (·.2) = qs := by rw [List.map_map]; exact List.map_id _
  rwa [e] at h2

end Go.Proofs.YtoknglpfchjbjaaGreatDoor

/- The reader of path.Parse: all steps. Conditions: none. -/
namespace Go.Proofs.YtoknglpfchjbjaaGreatDoor
open Go.RowKit Go.Sp Go.Maps

theorem infoStep : (Tryz.prog.info? 68).map (fun i => (i.zero, i.size, i.bytes)) = some (some (.agg #[.bool false, .string ⟨#[]⟩, .slice none 0 0]), 3, 48) := by kernel_rfl

def StepsPost (r : Nat) (s : ByteArray) (p : Nat) (w : World) (e : Ending) (w' : World) : Prop := w.grownBy w' (some r) ∧
  ((∃ l a c, stepsA (restB s p) = some l ∧ l.length ≤ 65536 ∧ e = .returned (.tuple #[.slice a l.length c, .bool true]) ∧ l.length ≤ c ∧ Sl pstepS (fun b => w.heap.size ≤ b ∧ b < w'.heap.size) w' a l) ∨
   (stepsA (restB s p) = none ∧ e = .returned (.tuple #[.slice none 0 0, .bool false])))

/-- Where an element's cells lie. -/
def ElF (B : Nat) (W : World) (l : Value) (b : Nat) : Prop := B ≤ b ∧ b < W.heap.size ∧ some b ≠ l.ownBlock
theorem el_keep {B : Nat} {W W' : World} {l l' : Value} {o : Option Nat} {vs : List Value} {x : StepM} (h : pstepS.rep (ElF B W l) W vs x) (k : W.grownBy W' o) (ho : ∀ b, ElF B W l b → some b ≠ o) (hl : ∀ b, ElF B W l b → some b ≠ l'.ownBlock) :
    pstepS.rep (ElF B W' l') W' vs x :=
  pstepS.mono (pstepS.frame h fun b hb => k.block b hb.2.1 (ho b hb)) fun b hb => ⟨hb.1, Nat.lt_of_lt_of_le hb.2.1 k.size, hl b hb⟩

theorem els_keep {B : Nat} {W W' : World} {l l' : Value} {xs : List (List Value × StepM)} (h : ∀ x ∈ xs, pstepS.rep (ElF B W l) W x.1 x.2) (hk : ∀ b, ElF B W l b → W'.heap[b]? = W.heap[b]? ∧ ElF B W' l' b) :
    ∀ x ∈ xs, pstepS.rep (ElF B W' l') W' x.1 x.2 := fun x hx => pstepS.mono (pstepS.frame (h x hx) fun b hb => (hk b hb).1) fun b hb => (hk b hb).2

def StepsInv (r : Nat) (s : ByteArray) (p : Nat) (w : World) (l : Value) (wr : World) : Prop := ∃ (xs : List (List Value × StepM)) (q : Nat), q ≤ s.size ∧ xs.length ≤ q ∧
  stepsA (restB s p) = (stepsA (restB s q)).map (fun x => xs.map (·.2) ++ x) ∧ RdAt r s q wr ∧ wr.ownsRow w.heap.size 68 3 l xs.length (xs.flatMap (·.1)) ∧ (∀ x ∈ xs, pstepS.rep (ElF w.heap.size wr l) wr x.1 x.2) ∧ w.grownBy wr (some r)

set_option maxRecDepth 100000 in
set_option maxHeartbeats 1500000 in
theorem rdSteps_any (r : Nat) (s : ByteArray) (p : Nat) (w : World) (h : RdAt r s p w) (hs : s.size ≤ 65536) (hp : p ≤ s.size) :
    Calls Tryz.prog 35 #[.pointer (some ⟨r, 0, none⟩)] w (StepsPost r s p w) := by
  have hrl : r < w.heap.size := (Array.getElem?_eq_some_iff.1 h).1
  have HR := Sp.hid h
  clear h
  obtain ⟨i0, hi0, hz0, hz1, hz2⟩ := info_parts infoStep
  go_enter Tryz.func35, Tryz.ntmps35
  go_wp2
  refine wp_scope_straight ?_
  go_wp2
  refine wp_label ?_
  go_wp2
  go_loopw [4] (fun l wr => StepsInv r s p w l wr) (fun _ wr => s.size - rdPos r wr)
  case atStart =>
    refine ⟨[], p, hp, Nat.zero_le _, ?_, HR.out, World.ownsRow_nil _ _ _ _, by simp, grown_refl _ _⟩
    cases stepsA (restB s p) <;> rfl
  case round =>
    obtain ⟨xs, q, hq, hxq, hsa, hrr, hor, hel, hgr⟩ := hrel
    have HSA := Sp.hid hsa
    have HST := Sp.hid (rdStep_any r s q wr hrr hs hq)
    have HRR := Sp.hid hrr
    have HOR := Sp.hid hor
    have HEL := Sp.hid hel
    have HGR := Sp.hid hgr
    have hwr := hgr.size
    clear hsa hrr hor hel hgr
    go_wp2_with fail
    refine HST.out.mono ?_
    rintro e w3 ⟨g3, ⟨x, q', pv, hst, hq', rfl, r3, hpv⟩ | ⟨hst, rfl⟩⟩
    · have hsz3 := g3.size
      have hln := stepL_len hst
      rw [restB_len, restB_len] at hln
      have hok := stepL_ok hst
      rw [restB_len] at hok
      have hrep : pstepS.rep (fun b => pv.ownBlock = some b) w3 [.bool x.isAttr, .string x.name, pv] x := by
        obtain ⟨a, c, rfl, h2⟩ := own_preds hpv (fun y hy => by have := hok.2.2 y hy; exact ⟨by have := this.1; omega, by have := this.2.1; omega, this.2.2⟩)
        exact ⟨⟨by unfold maxLen; have := hok.1; omega, by unfold maxLen; have := hok.2.1; omega⟩, a, c, rfl, h2⟩
      have hpvl : ∀ g, pv.ownBlock = some g → wr.heap.size ≤ g ∧ g < w3.heap.size := fun g hg => hpv.lt g hg
      obtain ⟨pa, pc, hpe⟩ := own_slice hpv
      have ho3 := HOR.out.kept g3 (.inr fun e => by have := (HOR.out.lt r e).1; omega)
      have HG3 := Sp.hid g3
      have HR3 := Sp.hid r3
      have HSL := Sp.hid hst
      have HREP := Sp.hid hrep
      have HPV := Sp.hid hpvl
      have HO3 := Sp.hid ho3
      have HPE := Sp.hid hpe
      have hxl : xs.length + 1 ≤ 65536 := by omega
      have hxl' : xs.length + 1 ≤ q' := by omega
      subst hpe
      clear g3 r3 hst hrep hpvl ho3 hpv hok HST
      go_wp2_with (at_builtin; refine wpList_append_own_at _ rfl _ _ 23 rfl w.heap.size 68 i0 _ 3 48 Tryz.underlying23 hi0 hz0 hz1 hz2 rfl (by decide) _ _ _ rfl ((HO3.out.alloc _).alloc _) ⟨w3.heap.size + 1, 0, none⟩ 1 1 [.bool x.isAttr, .string x.name, .slice pa x.preds.length pc] rfl rfl ?c1 ?c2 ?c3 ?c4 ?c5 ?c6)
      case c1 => have := rdNews3 (w3.alloc (.cells #[.bool x.isAttr, .string x.name, .slice pa x.preds.length pc] 68)) (.bool x.isAttr) (.string x.name) (.slice pa x.preds.length pc) 68; simpa using this
      case c2 => intro u hu; simp at hu; rcases hu with rfl | rfl | rfl <;> rfl
      case c3 => unfold maxLen; omega
      case c4 => omega
      case c5 => simp; omega
      case c6 =>
        intro l' w7 hown' hgrow _ hwh
        have hub : ∀ g, u4.ownBlock = some g → w.heap.size ≤ g ∧ g < wr.heap.size := fun g hg => HOR.out.lt g hg
        have a5 : w3.grownBy w7 u4.ownBlock := grown_trans (grown_weak (grown_below (((Below.refl _ _).alloc (Nat.le_refl _) _).alloc (by simp) _))) hgrow
        have ha5 := a5.size
        have hr7 : RdAt r s q' w7 := keepO a5 HR3.out (fun e => by have := hub _ e; omega)
        have hg7 := grown_newO (grown_trans HGR.out HG3.out) a5 (fun g hg => (hub g hg).1)
        have hblk : ∀ b, w.heap.size ≤ b → b < wr.heap.size → some b ≠ u4.ownBlock → w7.heap[b]? = wr.heap[b]? ∧ some b ≠ l'.ownBlock := fun b h1 h2 h3 => by
          refine ⟨(a5.block b (by omega) h3).trans (HG3.out.block b h2 (fun e => by cases e; omega)), fun e => ?_⟩
          rcases hwh with hw | hw
          · rw [hw] at e; exact h3 e
          · rw [hw] at e; cases e; omega
        have hels : ∀ y ∈ xs, pstepS.rep (ElF w.heap.size w7 l') w7 y.1 y.2 := els_keep HEL.out fun b hb => ⟨(hblk b hb.1 hb.2.1 hb.2.2).1, hb.1, by have := hb.2.1; omega, (hblk b hb.1 hb.2.1 hb.2.2).2⟩
        have hnew : pstepS.rep (ElF w.heap.size w7 l') w7 [.bool x.isAttr, .string x.name, .slice pa x.preds.length pc] x := by
          refine pstepS.mono (pstepS.frame HREP.out fun b hb => ?_) fun b hb => ?_
          · have := HPV.out b hb
            exact a5.block b this.2 (fun e => by have := hub b e.symm; omega)
          · have := HPV.out b hb
            refine ⟨by omega, by omega, fun e => ?_⟩
            rcases hwh with hw | hw
            · rw [hw] at e; have := hub b e.symm; omega
            · rw [hw] at e; cases e; omega
        have HELS := Sp.hid (show ∀ y ∈ xs ++ [([.bool x.isAttr, .string x.name, .slice pa x.preds.length pc], x)], pstepS.rep (ElF w.heap.size w7 l') w7 y.1 y.2 from fun y hy => by
          rcases List.mem_append.1 hy with hy | hy
          · exact hels y hy
          · rw [List.mem_singleton.1 hy]; exact hnew)
        have HO7 := Sp.hid (show w7.ownsRow w.heap.size 68 3 l' (xs ++ [([Value.bool x.isAttr, .string x.name, .slice pa x.preds.length pc], x)]).length ((xs ++ [([Value.bool x.isAttr, .string x.name, .slice pa x.preds.length pc], x)]).flatMap (·.1)) by
          rw [List.length_append, List.flatMap_append]; simpa using hown')
        obtain ⟨ys, hys⟩ : ∃ ys, ys = xs ++ [([Value.bool x.isAttr, .string x.name, .slice pa x.preds.length pc], x)] := ⟨_, rfl⟩
        rw [← hys] at HELS HO7
        have hyl : ys.length ≤ q' := by rw [hys, List.length_append]; simpa using hxl'
        have HYS := Sp.hid (show ys.map (·.2) = xs.map (·.2) ++ [x] by rw [hys, List.map_append]; rfl)
        have HG7 := Sp.hid hg7
        have HR7 := Sp.hid hr7
        have HC7 := Sp.hid (fun w' => RdAt.cells (w' := w') hr7)
        have hrl7 : r < w7.heap.size := (Array.getElem?_eq_some_iff.1 hr7).1
        clear hub a5 hr7 hg7 hblk hels hnew hown' hgrow hwh hys HO3 HREP HPV HR3 HG3 HEL HOR HGR HPE
        go_wp2
        by_cases hqe : q' = s.size
        · have hqi : (((q' : Nat) : Int) == ((s.size : Nat) : Int)) = true := by rw [hqe]; simp
          have HN := Sp.hid (show stepsA (restB s p) = some (ys.map (·.2)) by
            rw [HSA.out, stepsA_last (x := x) (by rw [HSL.out, hqe, restB_end (by omega)]), HYS.out]; rfl)
          obtain ⟨la, lc, hle, hlc⟩ := own_slice_cap HO7.out
          have HS7 := Sp.hid (show Sl pstepS (fun b => w.heap.size ≤ b ∧ b < w7.heap.size) w7 la (ys.map (·.2)) by
            obtain ⟨a, c, e1, e2⟩ := own_sl (S := pstepS) (F := fun b => w.heap.size ≤ b ∧ b < w7.heap.size) HO7.out rfl (fun y hy => pstepS.mono (HELS.out y hy) fun b hb => ⟨hb.1, hb.2.1⟩) (fun g hg => HO7.out.lt g hg)
            rw [hle] at e1
            cases e1
            exact e2)
          have HLE := Sp.hid hle
          have HLC := Sp.hid hlc
          have hyl6 : ys.length ≤ 65536 := by omega
          clear hqe hle hlc
          refine Sp.wp_region_read (by kernel_rfl) [some 18, some 19, some 20, some 21, some 22, some 23, some 24, some 25, some 26, some 27] [?r3v0, ?r3v1, ?r3v2, ?r3v3, ?r3v4, ?r3v5, ?r3v6, ?r3v7, ?r3v8, ?r3v9] rfl (by kernel_rfl) (by kernel_rfl) (by kernel_rfl) ?r3fr ?r3hfr ?r3step ?r3fin
          case r3hfr => intro u; simp only [Sp.fillFrom, Sp.idx_cons, Sp.idx_nil, Option.some.injEq, reduceCtorEq, reduceIte, Nat.reduceEqDiff, Nat.reduceAdd, Option.map_some, Option.map_none]; exact rfl
          case r3step =>
            refine ⟨?_, ?_, ?_, ?_, ?_, ?_, ?_, ?_, ?_, ?_, trivial⟩
            all_goals
              intro u w1 hG hD; simp only [Sp.DepsHold, List.map_cons, List.map_nil, Sp.isV, Sp.any_text, Sp.any_gc, Bool.false_eq_true, false_implies, Sp.factAt, Region.binds, List.getElem?_cons_zero, List.getElem?_cons_succ, List.getElem?_nil, Option.getD_some, Option.getD_none, and_true, true_and, true_implies, implies_true] at hD; dsimp only
              obtain ⟨c0, c1⟩ := HC7.out w1 hG
              clear hG
              repeat (obtain ⟨hE, hD⟩ := hD; (try rw [hE]); clear hE)
              try rw [hD]
              try clear hD
              go_wp2_with (fail)
              (with_reducible apply Sp.rd_close); (first | exact HB2.out | exact Below.refl _ _); exact rfl; refine Sp.isV_at ?_; exact rfl
          case r3fin => 
            intro w' hG; simp only [List.getElem?_cons_zero, List.getElem?_cons_succ, Option.getD_some]
            have HG8 := Sp.hid hG
            have hG8 := hG.size
            clear hG
            go_wp2
            show bodyPost _ _ _ Exit.ret _ _
            refine bodyPost_ret (v := .tuple #[l', .bool true]) (by simp [results, Tryz.f35, go_sem]) rfl ?_
            refine ⟨grown_trans HG7.out (grown_weak (grown_below HG8.out)), .inl ⟨ys.map (·.2), la, lc, HN.out, by rw [List.length_map]; exact hyl6, by rw [HLE.out, List.length_map], by rw [List.length_map]; exact HLC.out, ?_⟩⟩
            exact (HS7.out.frame fun b hb => HG8.out.block b hb.2).mono fun b hb => ⟨hb.1, by have := hb.2; omega⟩
        · have hqi : (((q' : Nat) : Int) == ((s.size : Nat) : Int)) = false := by rw [beq_eq_false_iff_ne]; omega
          have hqn : (q' == s.size) = false := by rw [beq_eq_false_iff_ne]; exact hqe
          have hne : restB s q' ≠ [] := by rw [restB_at (by omega)]; simp
          obtain ⟨b3, q3, hm3, hq3, hb3⟩ := mark_opt r s 47 q' hs hq'
          have HM3 := Sp.hid hm3
          have HB3 := Sp.hid hb3
          have HNE := Sp.hid hne
          clear hm3 hb3 hne
          refine Sp.wp_region_read (by kernel_rfl) [some 18, some 19, some 20, some 21, some 22, some 23, some 24, some 25, some 26, some 27] [?r4v0, ?r4v1, ?r4v2, ?r4v3, ?r4v4, ?r4v5, ?r4v6, ?r4v7, ?r4v8, ?r4v9] rfl (by kernel_rfl) (by kernel_rfl) (by kernel_rfl) ?r4fr ?r4hfr ?r4step ?r4fin
          case r4hfr => intro u; simp only [Sp.fillFrom, Sp.idx_cons, Sp.idx_nil, Option.some.injEq, reduceCtorEq, reduceIte, Nat.reduceEqDiff, Nat.reduceAdd, Option.map_some, Option.map_none]; exact rfl
          case r4step =>
            refine ⟨?_, ?_, ?_, ?_, ?_, ?_, ?_, ?_, ?_, ?_, trivial⟩
            all_goals
              intro u w1 hG hD; simp only [Sp.DepsHold, List.map_cons, List.map_nil, Sp.isV, Sp.any_text, Sp.any_gc, Bool.false_eq_true, false_implies, Sp.factAt, Region.binds, List.getElem?_cons_zero, List.getElem?_cons_succ, List.getElem?_nil, Option.getD_some, Option.getD_none, and_true, true_and, true_implies, implies_true] at hD; dsimp only
              obtain ⟨c0, c1⟩ := HC7.out w1 hG
              clear hG
              repeat (obtain ⟨hE, hD⟩ := hD; (try rw [hE]); clear hE)
              try rw [hD]
              try clear hD
              go_wp2_with (fail)
              (with_reducible apply Sp.rd_close); (first | exact HB2.out | exact Below.refl _ _); exact rfl; refine Sp.isV_at ?_; exact rfl
          case r4fin => 
            intro w' hG; simp only [List.getElem?_cons_zero, List.getElem?_cons_succ, Option.getD_some]
            have HG8 := Sp.hid hG
            have hG8 := hG.size
            have HR8 := Sp.hid (HR7.out.below hG)
            clear hG
            go_wp2_with fail
            refine (HM3.out _ HR8.out).mono ?_
            rintro e w9 ⟨rfl, g9, r9⟩
            have HG9 := Sp.hid g9
            have HR9 := Sp.hid r9
            have hG9 := g9.size
            clear g9 r9
            cases b3
            · have HN := Sp.hid (show stepsA (restB s p) = none by
                rcases HB3.out with ⟨h5, _⟩ | ⟨_, h5, _⟩
                · cases h5
                · rw [HSA.out, stepsA_miss HSL.out HNE.out h5]; rfl)
              go_wp2
              show bodyPost _ _ _ Exit.ret _ _
              refine bodyPost_ret (v := .tuple #[.slice none 0 0, .bool false]) (by simp [results, Tryz.f35, go_sem]) rfl ?_
              exact ⟨grown_trans (grown_trans HG7.out (grown_weak (grown_below HG8.out))) HG9.out, .inr ⟨HN.out, rfl⟩⟩
            · have hb5 : markL 47 (restB s q') = some (restB s q3) ∧ q3 = q' + 1 := by
                rcases HB3.out with ⟨_, h5, h6⟩ | ⟨h5, _⟩
                · exact ⟨h5, h6⟩
                · cases h5
              have HB5 := Sp.hid hb5
              have HREL := Sp.hid (show StepsInv r s p w l' w9 from by
                refine ⟨ys, q3, hq3, by have := hb5.2; omega, ?_, HR9.out, ?_, ?_, grown_trans (grown_trans HG7.out (grown_weak (grown_below HG8.out))) HG9.out⟩
                · rw [HSA.out, stepsA_step HSL.out HNE.out hb5.1, HYS.out]
                  cases stepsA (restB s q3) with
                  | none => rfl
                  | some z => simp
                · exact (HO7.out.kept (row := none) (grown_below HG8.out) (by cases l'.ownBlock <;> simp)).kept HG9.out (.inr fun e => by have := (HO7.out.lt r e).1; omega)
                · exact els_keep HELS.out fun b hb => ⟨(HG9.out.block b (by have := hb.2.1; omega) (fun e => by have := hb.1; cases e; omega)).trans (HG8.out.block b hb.2.1), hb.1, by have := hb.2.1; omega, hb.2.2⟩)
              clear hb5
              go_wp2
              go_roundw
              case rel => exact HREL.out
              case measure => rw [HR9.out.pos, HRR.out.pos]; have := HB5.out.2; omega
    · have HN := Sp.hid (show stepsA (restB s p) = none by rw [HSA.out, stepsA_bad hst]; rfl)
      have HG3 := Sp.hid (grown_trans HGR.out g3)
      clear g3 hst HST HSA HRR HOR HEL HGR
      go_wp2
      show bodyPost _ _ _ Exit.ret _ _
      refine bodyPost_ret (v := .tuple #[.slice none 0 0, .bool false]) (by simp [results, Tryz.f35, go_sem]) rfl ?_
      exact ⟨grown_trans HG3.out (grown_weak (grown_below ((Below.refl _ _).alloc (Nat.le_refl _) _))), .inr ⟨HN.out, rfl⟩⟩

end Go.Proofs.YtoknglpfchjbjaaGreatDoor
