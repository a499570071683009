/- Merged: Hits of the document's answer: rows of them; spyglassref16.stays: which of them a predicate lets stay · spyglassref16.goes: the region that appends a child's hit: what has been done of it; rows appended to rows · spyglassref16.goes: the hits of a step from a node. Conditions: those of the parts. -/
import Derived.Test.YtoknglpfchjbjaaGreatDoorLeadX
import Derived.Test.YtoknglpfchjbjaaGreatDoorRefPX
import Derived.Test.YtoknglpfchjbjaaGreatDoorReadX
import Derived.Deep.AppendSrc
import Derived.Deep.Upon
import Derived.Test.YtoknglpfchjbjaaGreatDoorRawX
/- Hits of the document's answer: rows of them; spyglassref16.stays: which of them a predicate lets stay. Conditions: fewer than 2^16 hits; a predicate that is formed; names of attributes that rise. -/
namespace Go.Proofs.YtoknglpfchjbjaaGreatDoor
open Go.RowKit Go.Sp Go.Maps

/-- A hit of the document's answer: its path, the node, an attribute's name. -/
abbrev RX := List Int × TT × ByteArray
def rhitS (n : Nat) : Shape RX where
  sz := 6
  rep F w vs x := ∃ a c rest, vs = .slice a x.1.length c :: (rest ++ [.string x.2.2]) ∧ Sl (Shape.int .i64) F w a x.1 ∧ (treeS n).rep F w rest x.2.1
  len := by
    rintro F w vs x ⟨a, c, rest, rfl, _, h⟩
    have := (treeS n).len h
    rw [treeS_sz] at this
    simp [this]
  frame := by rintro F w w' vs x ⟨a, c, rest, rfl, h1, h2⟩ hw; exact ⟨a, c, rest, rfl, h1.frame hw, (treeS n).frame h2 hw⟩
  mono := by rintro F G w vs x ⟨a, c, rest, rfl, h1, h2⟩ hF; exact ⟨a, c, rest, rfl, h1.mono hF, (treeS n).mono h2 hF⟩
theorem rhit_parts {n : Nat} {F : Nat → Prop} {w : World} {vs : List Value} {x : RX} (h : (rhitS n).rep F w vs x) :
    ∃ a c aa ca ka ck, vs = [.slice a x.1.length c, .string x.2.1.label, .string x.2.1.text, .slice aa x.2.1.attrs.length ca, .slice ka x.2.1.kids.length ck, .string x.2.2] ∧ Sl (Shape.int .i64) F w a x.1 ∧
      (treeS n).rep F w [.string x.2.1.label, .string x.2.1.text, .slice aa x.2.1.attrs.length ca, .slice ka x.2.1.kids.length ck] x.2.1 := by
  obtain ⟨a, c, rest, rfl, h1, h2⟩ := h
  cases n with
  | zero => exact h2.elim
  | succ n =>
    have h2' := h2
    obtain ⟨q1, aa, ca, ka, ck, rfl, q2, q3⟩ := tree_open h2
    exact ⟨a, c, aa, ca, ka, ck, rfl, h1, h2'⟩

/-- A row of hits that the call owns. -/
structure HitsR (n : Nat) (F : Nat → Prop) (base : Nat) (w : World) (v : Value) (L : List (List Value × RX)) : Prop where
  row : w.ownsRow base 55 6 v L.length (L.flatMap (·.1))
  els : ∀ x ∈ L, (rhitS n).rep (fun b => F b ∨ Rest base w v b) w x.1 x.2

theorem HitsR.nil (n : Nat) (F : Nat → Prop) (base : Nat) (w : World) : HitsR n F base w (.slice none 0 0) [] := ⟨World.ownsRow_nil _ _ _ _, by simp⟩
theorem HitsR.le {n : Nat} {F : Nat → Prop} {base base' : Nat} {w : World} {v : Value} {L : List (List Value × RX)} (h : HitsR n F base w v L) (hb : base' ≤ base) : HitsR n F base' w v L :=
  ⟨Joins.ownsRow_le h.row hb, fun x hx => (rhitS n).mono (h.els x hx) (fun b hb' => hb'.imp id (fun h => ⟨Nat.le_trans hb h.1, h.2⟩))⟩
theorem HitsR.keep {n : Nat} {F : Nat → Prop} {base : Nat} {w w' : World} {v : Value} {L : List (List Value × RX)} (h : HitsR n F base w v L) (hF : ∀ b, F b → b < w.heap.size) (hb : Below w.heap.size w w') : HitsR n F base w' v L := by
  refine ⟨own_same h.row (fun g hg => hb.block g (h.row.lt g hg).2), fun x hx => ?_⟩
  refine (rhitS n).mono ((rhitS n).frame (h.els x hx) (fun b hb' => ?_)) (fun b hb' => ?_)
  · rcases hb' with hb' | ⟨_, hb', _⟩
    · exact hb.block b (hF b hb')
    · exact hb.block b hb'.lt
  · rcases hb' with hb' | ⟨h1, ⟨o, h2, h3⟩, h4⟩
    · exact .inl hb'
    · exact .inr ⟨h1, ⟨o, (hb.block b (Array.getElem?_eq_some_iff.1 h2).1).trans h2, h3⟩, h4⟩
theorem hits_len {n : Nat} {F : Nat → Prop} {base : Nat} {w : World} {v : Value} {L : List (List Value × RX)} (h : HitsR n F base w v L) : ∀ x ∈ L, x.1.length = 6 := fun x hx => (rhitS n).len (h.els x hx)
/-- More hits, at once. -/
theorem HitsR.more {n : Nat} {F : Nat → Prop} {base : Nat} {w w' : World} {v v' : Value} {L M : List (List Value × RX)} (h : HitsR n F base w v L) (hF : ∀ b, F b → b < w.heap.size ∧ (∀ g, v.ownBlock = some g → b ≠ g))
    (hrow : w'.ownsRow base 55 6 v' (L.length + M.length) (L.flatMap (·.1) ++ M.flatMap (·.1))) (hg : w.grownBy w' v.ownBlock) (hown : v'.ownBlock = v.ownBlock ∨ ∃ g, v'.ownBlock = some g ∧ w.heap.size ≤ g)
    (hM : ∀ x ∈ M, (rhitS n).rep (fun b => F b ∨ Rest base w v b) w x.1 x.2) : HitsR n F base w' v' (L ++ M) := by
  have hkeep : ∀ b, (F b ∨ Rest base w v b) → w'.heap[b]? = w.heap[b]? := by
    rintro b (hb | ⟨_, hb, hne⟩)
    · exact hg.block b (hF b hb).1 (fun e => (hF b hb).2 b e.symm rfl)
    · exact hg.block b hb.lt hne
  have hmono : ∀ b, (F b ∨ Rest base w v b) → (F b ∨ Rest base w' v' b) := by
    rintro b (hb | ⟨h1, ⟨o, h2, h3⟩, h4⟩)
    · exact .inl hb
    · refine .inr ⟨h1, ⟨o, (hkeep b (.inr ⟨h1, ⟨o, h2, h3⟩, h4⟩)).trans h2, h3⟩, fun e => ?_⟩
      rcases hown with ho | ⟨g, ho, hg'⟩
      · exact h4 (e.trans ho)
      · rw [ho] at e
        have := (Array.getElem?_eq_some_iff.1 h2).1
        have := Option.some.inj e
        omega
  refine ⟨by rw [List.length_append, List.flatMap_append]; exact hrow, fun y hy => ?_⟩
  rcases List.mem_append.1 hy with hy | hy
  · exact (rhitS n).mono ((rhitS n).frame (h.els y hy) hkeep) hmono
  · exact (rhitS n).mono ((rhitS n).frame (hM y hy) hkeep) hmono

theorem infoRHit : (Tryz.prog.info? 55).map (fun i => (i.zero, i.size, i.bytes)) = some (some (.agg #[.slice none 0 0, .string ⟨#[]⟩, .string ⟨#[]⟩, .slice none 0 0, .slice none 0 0, .string ⟨#[]⟩]), 6, 120) := by kernel_rfl

theorem news6 (w : World) (a b c d e f : Value) (t : TypeId) : ∀ j u, [a, b, c, d, e, f][j]? = some u → (w.alloc (.cells #[a, b, c, d, e, f] t)).cell? ((⟨w.heap.size, 0, none⟩ : Addr).add j) = some u := by
  intro j u hj
  have hadd : (⟨w.heap.size, 0, none⟩ : Addr).add j = ⟨w.heap.size, j, none⟩ := by unfold Addr.add; split <;> simp_all
  rw [hadd, World.cell?_alloc_new]
  simpa using hj

theorem pred_at {W : World} {b : Nat} {a v : ByteArray} {p : Int} {t : TypeId} (h : W.heap[b]? = some (.cells #[.string a, .string v, .int .i64 p] t (0, 0))) : W.cell? ⟨b, 0, none⟩ = some (.string a) ∧ W.cell? ⟨b, 1, none⟩ = some (.string v) ∧ W.cell? ⟨b, 2, none⟩ = some (.int .i64 p) := by
  refine ⟨?_, ?_, ?_⟩ <;> simp [World.cell?, h]

/-- What a predicate asks, as the document has it. -/
def hasA (q : PredM) (a : ByteArray × ByteArray) : Bool := a.1.toList == q.attr.toList && a.2.toList == q.value.toList
def okR (q : PredM) (place : Int) (T : TT) : Bool := if q.attr.toList.isEmpty then q.place == place else T.attrs.any (hasA q)

theorem attrV_any (q : PredM) : ∀ (l : List (ByteArray × ByteArray)), rises l = true → ((attrV l q.attr).isSome && ((attrV l q.attr).getD ⟨#[]⟩).toList == q.value.toList) = l.any (hasA q)
  | [], _ => rfl
  | a :: l, h => by
    have ih := attrV_any q l (rises_tail h)
    cases he : (a.1.toList == q.attr.toList)
    · have e1 : attrV (a :: l) q.attr = attrV l q.attr := by unfold attrV; rw [List.find?_cons, he]
      rw [e1, ih, List.any_cons]
      unfold hasA
      rw [he]; rfl
    · have e1 : attrV (a :: l) q.attr = some a.2 := by unfold attrV; rw [List.find?_cons, he]; rfl
      have e2 : l.any (hasA q) = false := by
        rw [← Bool.not_eq_true, List.any_eq_true]
        rintro ⟨x, hx, hq⟩
        unfold hasA at hq
        rw [Bool.and_eq_true, beq_iff_eq] at hq
        have hlt := rises_lt h x hx
        rw [hq.1, ← beq_iff_eq.1 he] at hlt
        exact absurd hlt (List.lt_irrefl _)
      rw [e1, List.any_cons, e2, Bool.or_false]
      unfold hasA
      rw [he]; rfl
theorem okR_asks {q : PredM} {T : TT} (hf : formedP q = true) (hr : rises T.attrs = true) (place : Int) : okR q place T = asks q place T := by
  unfold okR asks
  unfold formedP at hf
  cases ha : q.attr.toList.isEmpty
  · rw [ha] at hf
    simp only [Bool.false_eq_true, if_false, Bool.and_eq_true] at hf
    rw [if_neg (by decide), if_pos hf.1, attrV_any q _ hr]
  · rw [ha] at hf
    simp only [if_true, Bool.and_eq_true, decide_eq_true_eq] at hf
    rw [if_pos rfl, if_neg (by rw [beq_iff_eq]; omega)]
    rw [Bool.eq_iff_iff, beq_iff_eq, beq_iff_eq]
    exact eq_comm



set_option maxRecDepth 100000 in
set_option maxHeartbeats 8000000 in
theorem stays_any (n : Nat) (F : Nat → Prop) (base : Nat) (v0 : Value) (L : List (List Value × RX)) (q : PredM) (w : World) (h : HitsR n F base w v0 L) (hF : ∀ b, F b → b < base) (hbase : base ≤ w.heap.size) (hlen : L.length ≤ 65536) (hf : formedP q = true) (hr : ∀ x ∈ L, rises x.2.2.1.attrs = true) :
    Calls Tryz.prog 53 #[v0, predV q] w fun e w' => ∃ v', e = .returned v' ∧ HitsR n F base w' v' (thoseL q (·.2.2.1) L L.length) ∧ Below w.heap.size w w' := by
  obtain ⟨i0, hi0, hz0, hz1, hz2⟩ := info_parts infoRHit
  obtain ⟨a0, c0, hv0⟩ : ∃ a0 c0, v0 = .slice a0 L.length c0 := by
    rcases Joins.ownsRow_forms h.row with ⟨hv, hk0⟩ | ⟨g1, cap1, hv⟩
    · exact ⟨_, _, by rw [hk0]; exact hv⟩
    · exact ⟨_, _, hv⟩
  have HH := Sp.hid h
  have HV0 := Sp.hid hv0
  have HOKR := Sp.hid (fun x (hx : x ∈ L) place => okR_asks hf (hr x hx) place)
  obtain ⟨wb, hw1⟩ : ∃ wb, wb = w.alloc (.cells #[.string q.attr, .string q.value, .int .i64 q.place] 91) := ⟨_, rfl⟩
  have hs1 : w.heap.size + 1 ≤ wb.heap.size := by rw [hw1]; simp
  have hb1 : Below w.heap.size w wb := by rw [hw1]; exact (Below.refl _ _).alloc (Nat.le_refl _) _
  have hp1 : wb.heap[w.heap.size]? = some (.cells #[.string q.attr, .string q.value, .int .i64 q.place] 91 (0, 0)) := by rw [hw1]; exact World.alloc_heap_new _ _
  have HB1 := Sp.hid hb1
  have HP1 := Sp.hid hp1
  have HW1 := Sp.hid hw1
  rw [hv0]
  clear h hv0 hf hr hb1 hp1 hw1
  dsimp only [predV]
  go_enter Tryz.func53, Tryz.ntmps53
  go_wp2
  rw [← HW1.out]
  go_loopw [5, 6] (fun v i wr => ∃ k : Nat, k ≤ L.length ∧ i = .int .i64 k ∧ wr.ownsRow wb.heap.size 55 6 v (thoseL q (·.2.2.1) L k).length ((thoseL q (·.2.2.1) L k).flatMap (·.1)) ∧ Below wb.heap.size wb wr) (fun _ i _ => L.length - (intOf i).toNat)
  case atStart => exact ⟨0, Nat.zero_le _, rfl, World.ownsRow_nil _ _ _ _, Below.refl _ _⟩
  case round =>
    obtain ⟨k, hk, rfl, hown, hb⟩ := hrel
    have hsw := hb.size
    have hnl := thoseL_length q (fun x : List Value × RX => x.2.2.1) L k
    by_cases hlt : k < L.length
    · obtain ⟨g, cg, hg⟩ := Joins.ownsRow_form HH.out.row (by omega : 0 < L.length)
      have hvg := HV0.out.symm.trans hg
      simp only [Value.slice.injEq, true_and] at hvg
      obtain ⟨rfl, rfl⟩ := hvg
      have hgl : g < w.heap.size := (HH.out.row.lt g (by rw [hg]; rfl)).2
      have hrowg := HH.out.row
      rw [hg] at hrowg
      have hel := HH.out.els L[k] (List.getElem_mem hlt)
      have hlen6 := hits_len HH.out
      have hcell0 : ∀ j, j < 6 → w.cell? ⟨g, k * 6 + j, none⟩ = (L[k].1)[j]? := fun j hj => by
        rw [hrowg.cellAt _ (by omega), flat_at hlen6 k j hlt hj]
      have hnext := thoseL_succ q (fun x : List Value × RX => x.2.2.1) L k hlt
      rw [← HOKR.out L[k] (List.getElem_mem hlt)] at hnext
      obtain ⟨x, hx⟩ : ∃ x, x = L[k] := ⟨_, rfl⟩
      rw [← hx] at hel hcell0 hnext
      obtain ⟨xv, xat, xT, xn⟩ := x
      dsimp only at hel hcell0 hnext
      obtain ⟨xa, xc, xaa, xca, xka, xck, rfl, hints, htree⟩ := rhit_parts hel
      dsimp only at hcell0
      dsimp only at htree
      obtain ⟨⟨_, _, hal, _⟩, aa', ca', ka', ck', hvs, hat, hkd⟩ := treeS_parts htree
      simp only [List.cons.injEq, Value.slice.injEq, true_and, and_true] at hvs
      obtain ⟨⟨rfl, rfl⟩, rfl, rfl⟩ := hvs
      unfold maxLen at hal
      have hgr : g < wr.heap.size := by omega
      have hpw : w.heap.size < wr.heap.size := by omega
      have HCELLS := Sp.hid (fun W (hW : Below w.heap.size w W) => And.intro ((hW.cell (p := ⟨g, k * 6 + 0, none⟩) hgl).trans (hcell0 0 (by decide))) (And.intro ((hW.cell (p := ⟨g, k * 6 + 1, none⟩) hgl).trans (hcell0 1 (by decide))) (And.intro ((hW.cell (p := ⟨g, k * 6 + 2, none⟩) hgl).trans (hcell0 2 (by decide))) (And.intro ((hW.cell (p := ⟨g, k * 6 + 3, none⟩) hgl).trans (hcell0 3 (by decide))) (And.intro ((hW.cell (p := ⟨g, k * 6 + 4, none⟩) hgl).trans (hcell0 4 (by decide))) ((hW.cell (p := ⟨g, k * 6 + 5, none⟩) hgl).trans (hcell0 5 (by decide))))))))
      simp only [Nat.add_zero, List.getElem?_cons_zero, List.getElem?_cons_succ] at HCELLS
      have HPC := Sp.hid (fun W (hW : Below wb.heap.size wb W) => pred_at ((hW.block _ (by omega)).trans HP1.out))
      have HATS := Sp.hid (fun W (hW : Below w.heap.size w W) => hat.frame (w' := W) (fun b hb' => hW.block b (by
        rcases hb' with hb' | ⟨_, hb', _⟩
        · have := hF b hb'; omega
        · exact hb'.lt)))
      have HATL := Sp.hid (show ∀ b, (F b ∨ Rest base w v0 b) → b < w.heap.size from fun b hb' => by
        rcases hb' with hb' | ⟨_, hb', _⟩
        · have := hF b hb'; omega
        · exact hb'.lt)
      have HO := Sp.hid hown
      have HB := Sp.hid hb
      have HNX := Sp.hid hnext
      have HBW := Sp.hid (HB1.out.trans (hb.mono (by omega)) : Below w.heap.size w wr)
      obtain ⟨qa, qv, qp⟩ := q
      dsimp only at *
      obtain ⟨p0, p1, p2⟩ := HPC.out wr HB.out
      obtain ⟨wo, rfl⟩ : ∃ wo, wo = wr := ⟨_, rfl⟩
      clear hown hb hnext hel hints htree hat hkd hx hg hrowg hlen6 hcell0
      cases ha : qa.toList.isEmpty
      · have ha' : (qa.toList == []) = false := by rw [beq_eq_false_iff_ne]; intro e; rw [e] at ha; cases ha
        have ha2 : (qa.toList != []) = true := by simpa using ha'
        go_wp2
        go_loopw [7, 8] (fun okk i wr => ∃ m : Nat, m ≤ xT.attrs.length ∧ i = .int .i64 m ∧ okk = .bool ((xT.attrs.take m).any (hasA ⟨qa, qv, qp⟩)) ∧ Below wo.heap.size wo wr) (fun _ i _ => xT.attrs.length - (intOf i).toNat)
        case atStart => exact ⟨0, Nat.zero_le _, rfl, rfl, Below.refl _ _⟩
        case round =>
          obtain ⟨m, hm, rfl, rfl, hbi⟩ := hrel
          have hsi := hbi.size
          have hbwi : Below w.heap.size w wr := HBW.out.trans (hbi.mono HBW.out.size)
          have hb1i : Below wb.heap.size wb wr := HB.out.trans (hbi.mono HB.out.size)
          obtain ⟨c0, c1, c2, c3, c4, c5⟩ := HCELLS.out wr hbwi
          obtain ⟨p0, p1, -⟩ := HPC.out wr hb1i
          have hgi : g < wr.heap.size := by omega
          have hpi : w.heap.size < wr.heap.size := by omega
          have HBI := Sp.hid hbi
          have HBWI := Sp.hid hbwi
          have HB1I := Sp.hid hb1i
          obtain ⟨okv, hokv⟩ : ∃ okv, okv = (xT.attrs.take m).any (hasA ⟨qa, qv, qp⟩) := ⟨_, rfl⟩
          rw [← hokv]
          by_cases hmt : m < xT.attrs.length
          · obtain ⟨b2, o2, rfl, fb2, -, -, e1, e2⟩ := attr_cells (HATS.out wr hbwi) m hmt
            have hb2l : b2 < wr.heap.size := by have := HATL.out _ fb2; omega
            have hnx2 := List.take_succ_eq_append_getElem hmt
            obtain ⟨y, hy⟩ : ∃ y, y = xT.attrs[m] := ⟨_, rfl⟩
            rw [← hy] at e1 e2 hnx2
            have HNA := Sp.hid (show (xT.attrs.take (m + 1)).any (hasA ⟨qa, qv, qp⟩) = (okv || hasA ⟨qa, qv, qp⟩ y) by rw [hnx2, List.any_append, ← hokv]; simp)
            have HC := Sp.hid (fun W (hG : Below wr.heap.size wr W) => And.intro (HCELLS.out W (hbwi.trans (hG.mono hbwi.size))) (And.intro (HPC.out W (hb1i.trans (hG.mono hb1i.size))) (And.intro ((hG.cell (p := ⟨b2, o2 + m * 2, none⟩) hb2l).trans e1) ((hG.cell (p := ⟨b2, o2 + m * 2 + 1, none⟩) hb2l).trans e2))))
            clear hy hnx2 hbi hbwi hb1i hokv
            go_wp2
            clear c0 c1 c2 c3 c4 c5 p0 p1 e1 e2
            cases okv
            · cases h1 : (y.1.toList == qa.toList)
              · have HNA2 := Sp.hid (show (xT.attrs.take (m + 1)).any (hasA ⟨qa, qv, qp⟩) = false by rw [HNA.out]; unfold hasA; dsimp only; rw [h1]; rfl)
                refine Sp.wp_region_read_last (by kernel_rfl) [some 41, some 42, some 43, some 44, some 45, some 46, some 47, some 48, some 49, some 50, some 51, some 52, some 53, some 54, some 55, some 56, some 57, some 58] [?r1v0, ?r1v1, ?r1v2, ?r1v3, ?r1v4, ?r1v5, ?r1v6, ?r1v7, ?r1v8, ?r1v9, ?r1v10, ?r1v11, ?r1v12, ?r1v13, ?r1v14, ?r1v15, ?r1v16, ?r1v17] rfl (by kernel_rfl) (by kernel_rfl) (by kernel_rfl) (by kernel_rfl) ?r1fr ?r1hfr ?r1step _ rfl ?r1fin
                case r1hfr => intro u; simp only [Sp.fillFrom, Sp.idx_cons, Sp.idx_nil, Option.some.injEq, reduceCtorEq, reduceIte, Nat.reduceEqDiff, Nat.reduceAdd, Option.map_some, Option.map_none]; exact rfl
                case r1step =>
                  refine ⟨?_, ?_, ?_, ?_, ?_, ?_, ?_, ?_, ?_, ?_, ?_, ?_, ?_, ?_, ?_, ?_, ?_, ?_, trivial⟩
                  all_goals
                    intro u w1 hG hD; simp only [Sp.DepsHold, List.map_cons, List.map_nil, Sp.isV, Sp.any_text, Sp.any_gc, Bool.false_eq_true, false_implies, Sp.factAt, Region.binds, List.getElem?_cons_zero, List.getElem?_cons_succ, List.getElem?_nil, Option.getD_some, Option.getD_none, and_true, true_and, true_implies, implies_true] at hD; dsimp only
                    obtain ⟨⟨c0, c1, c2, c3, c4, c5⟩, ⟨p0, p1, p2⟩, e1, e2⟩ := HC.out w1 hG
                    clear hG
                    repeat (obtain ⟨hE, hD⟩ := hD; (try rw [hE]); clear hE)
                    try rw [hD]
                    try clear hD
                    go_wp2_with (fail)
                    (with_reducible apply Sp.rd_close); (first | exact HB2.out | exact Below.refl _ _); exact rfl; refine Sp.isV_at ?_; exact rfl
                case r1fin => 
                  intro w' hG; simp only [List.getElem?_cons_zero, List.getElem?_cons_succ, Option.getD_some]
                  go_wp2
                  (with_reducible apply Sp.rl_close)
                  have HG2 := Sp.hid (HBI.out.trans (hG.mono hsi))
                  clear hG
                  go_wp2
                  go_roundw
                  case rel => exact ⟨m + 1, by omega, by go_num, by rw [HNA2.out], HG2.out⟩
                  case measure => simp [intOf]; omega
              · cases h2 : (y.2.toList == qv.toList)
                · have HNA2 := Sp.hid (show (xT.attrs.take (m + 1)).any (hasA ⟨qa, qv, qp⟩) = false by rw [HNA.out]; unfold hasA; dsimp only; rw [h2, Bool.and_false]; rfl)
                  refine Sp.wp_region_read_last (by kernel_rfl) [some 41, some 42, some 43, some 44, some 45, some 46, some 47, some 48, some 49, some 50, some 51, some 52, some 53, some 54, some 55, some 56, some 57, some 58] [?r2v0, ?r2v1, ?r2v2, ?r2v3, ?r2v4, ?r2v5, ?r2v6, ?r2v7, ?r2v8, ?r2v9, ?r2v10, ?r2v11, ?r2v12, ?r2v13, ?r2v14, ?r2v15, ?r2v16, ?r2v17] rfl (by kernel_rfl) (by kernel_rfl) (by kernel_rfl) (by kernel_rfl) ?r2fr ?r2hfr ?r2step _ rfl ?r2fin
                  case r2hfr => intro u; simp only [Sp.fillFrom, Sp.idx_cons, Sp.idx_nil, Option.some.injEq, reduceCtorEq, reduceIte, Nat.reduceEqDiff, Nat.reduceAdd, Option.map_some, Option.map_none]; exact rfl
                  case r2step =>
                    refine ⟨?_, ?_, ?_, ?_, ?_, ?_, ?_, ?_, ?_, ?_, ?_, ?_, ?_, ?_, ?_, ?_, ?_, ?_, trivial⟩
                    all_goals
                      intro u w1 hG hD; simp only [Sp.DepsHold, List.map_cons, List.map_nil, Sp.isV, Sp.any_text, Sp.any_gc, Bool.false_eq_true, false_implies, Sp.factAt, Region.binds, List.getElem?_cons_zero, List.getElem?_cons_succ, List.getElem?_nil, Option.getD_some, Option.getD_none, and_true, true_and, true_implies, implies_true] at hD; dsimp only
                      obtain ⟨⟨c0, c1, c2, c3, c4, c5⟩, ⟨p0, p1, p2⟩, e1, e2⟩ := HC.out w1 hG
                      clear hG
                      repeat (obtain ⟨hE, hD⟩ := hD; (try rw [hE]); clear hE)
                      try rw [hD]
                      try clear hD
                      go_wp2_with (fail)
                      (with_reducible apply Sp.rd_close); (first | exact HB2.out | exact Below.refl _ _); exact rfl; refine Sp.isV_at ?_; exact rfl
                  case r2fin => 
                    intro w' hG; simp only [List.getElem?_cons_zero, List.getElem?_cons_succ, Option.getD_some]
                    go_wp2
                    (with_reducible apply Sp.rl_close)
                    have HG2 := Sp.hid (HBI.out.trans (hG.mono hsi))
                    clear hG
                    go_wp2
                    go_roundw
                    case rel => exact ⟨m + 1, by omega, by go_num, by rw [HNA2.out], HG2.out⟩
                    case measure => simp [intOf]; omega
                · have HNA2 := Sp.hid (show (xT.attrs.take (m + 1)).any (hasA ⟨qa, qv, qp⟩) = true by rw [HNA.out]; unfold hasA; dsimp only; rw [h1, h2]; rfl)
                  refine Sp.wp_region_read_last (by kernel_rfl) [some 41, some 42, some 43, some 44, some 45, some 46, some 47, some 48, some 49, some 50, some 51, some 52, some 53, some 54, some 55, some 56, some 57, some 58] [?r3v0, ?r3v1, ?r3v2, ?r3v3, ?r3v4, ?r3v5, ?r3v6, ?r3v7, ?r3v8, ?r3v9, ?r3v10, ?r3v11, ?r3v12, ?r3v13, ?r3v14, ?r3v15, ?r3v16, ?r3v17] rfl (by kernel_rfl) (by kernel_rfl) (by kernel_rfl) (by kernel_rfl) ?r3fr ?r3hfr ?r3step _ rfl ?r3fin
                  case r3hfr => intro u; simp only [Sp.fillFrom, Sp.idx_cons, Sp.idx_nil, Option.some.injEq, reduceCtorEq, reduceIte, Nat.reduceEqDiff, Nat.reduceAdd, Option.map_some, Option.map_none]; exact rfl
                  case r3step =>
                    refine ⟨?_, ?_, ?_, ?_, ?_, ?_, ?_, ?_, ?_, ?_, ?_, ?_, ?_, ?_, ?_, ?_, ?_, ?_, trivial⟩
                    all_goals
                      intro u w1 hG hD; simp only [Sp.DepsHold, List.map_cons, List.map_nil, Sp.isV, Sp.any_text, Sp.any_gc, Bool.false_eq_true, false_implies, Sp.factAt, Region.binds, List.getElem?_cons_zero, List.getElem?_cons_succ, List.getElem?_nil, Option.getD_some, Option.getD_none, and_true, true_and, true_implies, implies_true] at hD; dsimp only
                      obtain ⟨⟨c0, c1, c2, c3, c4, c5⟩, ⟨p0, p1, p2⟩, e1, e2⟩ := HC.out w1 hG
                      clear hG
                      repeat (obtain ⟨hE, hD⟩ := hD; (try rw [hE]); clear hE)
                      try rw [hD]
                      try clear hD
                      go_wp2_with (fail)
                      (with_reducible apply Sp.rd_close); (first | exact HB2.out | exact Below.refl _ _); exact rfl; refine Sp.isV_at ?_; exact rfl
                  case r3fin => 
                    intro w' hG; simp only [List.getElem?_cons_zero, List.getElem?_cons_succ, Option.getD_some]
                    go_wp2
                    (with_reducible apply Sp.rl_close)
                    have HG2 := Sp.hid (HBI.out.trans (hG.mono hsi))
                    clear hG
                    go_wp2
                    go_roundw
                    case rel => exact ⟨m + 1, by omega, by go_num, by rw [HNA2.out], HG2.out⟩
                    case measure => simp [intOf]; omega
            · have HNA2 := Sp.hid (show (xT.attrs.take (m + 1)).any (hasA ⟨qa, qv, qp⟩) = true by rw [HNA.out]; rfl)
              refine Sp.wp_region_read_last (by kernel_rfl) [some 41, some 42, some 43, some 44, some 45, some 46, some 47, some 48, some 49, some 50, some 51, some 52, some 53, some 54, some 55, some 56, some 57, some 58] [?r4v0, ?r4v1, ?r4v2, ?r4v3, ?r4v4, ?r4v5, ?r4v6, ?r4v7, ?r4v8, ?r4v9, ?r4v10, ?r4v11, ?r4v12, ?r4v13, ?r4v14, ?r4v15, ?r4v16, ?r4v17] rfl (by kernel_rfl) (by kernel_rfl) (by kernel_rfl) (by kernel_rfl) ?r4fr ?r4hfr ?r4step _ rfl ?r4fin
              case r4hfr => intro u; simp only [Sp.fillFrom, Sp.idx_cons, Sp.idx_nil, Option.some.injEq, reduceCtorEq, reduceIte, Nat.reduceEqDiff, Nat.reduceAdd, Option.map_some, Option.map_none]; exact rfl
              case r4step =>
                refine ⟨?_, ?_, ?_, ?_, ?_, ?_, ?_, ?_, ?_, ?_, ?_, ?_, ?_, ?_, ?_, ?_, ?_, ?_, trivial⟩
                all_goals
                  intro u w1 hG hD; simp only [Sp.DepsHold, List.map_cons, List.map_nil, Sp.isV, Sp.any_text, Sp.any_gc, Bool.false_eq_true, false_implies, Sp.factAt, Region.binds, List.getElem?_cons_zero, List.getElem?_cons_succ, List.getElem?_nil, Option.getD_some, Option.getD_none, and_true, true_and, true_implies, implies_true] at hD; dsimp only
                  obtain ⟨⟨c0, c1, c2, c3, c4, c5⟩, ⟨p0, p1, p2⟩, e1, e2⟩ := HC.out w1 hG
                  clear hG
                  repeat (obtain ⟨hE, hD⟩ := hD; (try rw [hE]); clear hE)
                  try rw [hD]
                  try clear hD
                  go_wp2_with (fail)
                  (with_reducible apply Sp.rd_close); (first | exact HB2.out | exact Below.refl _ _); exact rfl; refine Sp.isV_at ?_; exact rfl
              case r4fin => 
                intro w' hG; simp only [List.getElem?_cons_zero, List.getElem?_cons_succ, Option.getD_some]
                go_wp2
                (with_reducible apply Sp.rl_close)
                have HG2 := Sp.hid (HBI.out.trans (hG.mono hsi))
                clear hG
                go_wp2
                go_roundw
                case rel => exact ⟨m + 1, by omega, by go_num, by rw [HNA2.out], HG2.out⟩
                case measure => simp [intOf]; omega
          · obtain rfl : m = xT.attrs.length := by omega
            rw [List.take_length] at hokv
            have HOKV := Sp.hid (show okR ⟨qa, qv, qp⟩ ((k : Int) + 1) xT = okv by unfold okR; rw [ha, if_neg (by decide), ← hokv])
            have HO3 := Sp.hid (own_same HO.out (fun j hj => HBI.out.block j (HO.out.lt j hj).2))
            have HB3 := Sp.hid HB1I.out
            obtain ⟨wi, rfl⟩ : ∃ wi, wi = wr := ⟨_, rfl⟩
            clear hokv hbi hbwi hb1i
            cases okv
            · have hnx := HNX.out
              rw [HOKV.out] at hnx
              simp only [Bool.false_eq_true, if_false, List.append_nil] at hnx
              have HNX2 := Sp.hid hnx
              clear hnx
              go_wp2
              go_roundw
              case rel => exact ⟨k + 1, by omega, by go_num, by rw [HNX2.out]; exact HO3.out, HB3.out⟩
              case measure => simp [intOf]; omega
            · have hnx := HNX.out
              rw [HOKV.out] at hnx
              simp only [if_true] at hnx
              have HNX2 := Sp.hid hnx
              clear hnx
              have hs3 := HB3.out.size
              go_wp2_with (at_builtin; refine wpList_append_own_at _ rfl _ _ 48 rfl wb.heap.size 55 i0 _ 6 120 Tryz.underlying48 hi0 hz0 hz1 hz2 rfl (by decide) _ _ _ rfl (HO3.out.alloc _) ⟨wi.heap.size, 0, none⟩ 1 1 [.slice xa xat.length xc, .string xT.label, .string xT.text, .slice xaa xT.attrs.length xca, .slice xka xT.kids.length xck, .string xn] rfl rfl (news6 _ _ _ _ _ _ _ _) ?c2 ?c3 ?c4 ?c5 ?c6)
              case c2 => first | (intro u hu; simp at hu; rcases hu with rfl | rfl | rfl | rfl | rfl | rfl <;> rfl) | exact ⟨rfl, rfl, rfl, rfl, rfl, rfl⟩
              case c3 => unfold maxLen; omega
              case c4 => omega
              case c5 => first | omega | (simp; omega)
              case c6 =>
                intro v' w4 hown' hgrow _ _
                have hb4 : Below wb.heap.size wb w4 := (HB3.out.alloc (by omega) _).grown hgrow (by simp; omega) (fun j hj => (HO3.out.lt j hj).1)
                have hown2 : w4.ownsRow wb.heap.size 55 6 v' (thoseL ⟨qa, qv, qp⟩ (fun x : List Value × RX => x.2.2.1) L (k + 1)).length ((thoseL ⟨qa, qv, qp⟩ (fun x : List Value × RX => x.2.2.1) L (k + 1)).flatMap (·.1)) := by
                  rw [HNX2.out, List.length_append, List.flatMap_append]; simpa using hown'
                have HO4 := Sp.hid hown2
                have HB4 := Sp.hid hb4
                clear hown' hgrow hb4 hown2
                go_wp2
                go_roundw
                case rel => exact ⟨k + 1, by omega, by go_num, HO4.out, HB4.out⟩
                case measure => simp [intOf]; omega
      · have ha' : (qa.toList == []) = true := by rw [beq_iff_eq]; exact List.isEmpty_iff.1 ha
        have ha2 : (qa.toList != []) = false := by simpa using ha'
        obtain ⟨okv, hokv⟩ : ∃ okv, (qp == (k : Int) + 1) = okv := ⟨_, rfl⟩
        have HOKV := Sp.hid (show okR ⟨qa, qv, qp⟩ ((k : Int) + 1) xT = okv by unfold okR; rw [ha, if_pos rfl]; exact hokv)
        go_wp2
        clear hokv
        go_loopw [7, 8] (fun okk i wr => i = .int .i64 0 ∧ okk = .bool okv ∧ Below wo.heap.size wo wr) (fun _ i _ => 0)
        case atStart => exact ⟨rfl, rfl, Below.refl _ _⟩
        case round =>
          obtain ⟨rfl, rfl, hbi⟩ := hrel
          have hsi := hbi.size
          have hbwi : Below w.heap.size w wr := HBW.out.trans (hbi.mono HBW.out.size)
          have hb1i : Below wb.heap.size wb wr := HB.out.trans (hbi.mono HB.out.size)
          obtain ⟨c0, c1, c2, c3, c4, c5⟩ := HCELLS.out wr hbwi
          obtain ⟨p0, p1, -⟩ := HPC.out wr hb1i
          have hgi : g < wr.heap.size := by omega
          have hpi : w.heap.size < wr.heap.size := by omega
          have HO3 := Sp.hid (own_same HO.out (fun j hj => hbi.block j (HO.out.lt j hj).2))
          have HB3 := Sp.hid hb1i
          obtain ⟨wi, rfl⟩ : ∃ wi, wi = wr := ⟨_, rfl⟩
          clear hbi hbwi hb1i
          by_cases h0 : 0 < xT.attrs.length
          · have h0' : (0 : Int) < (xT.attrs.length : Int) := by omega
            cases okv
            · have hnx := HNX.out
              rw [HOKV.out] at hnx
              simp only [Bool.false_eq_true, if_false, List.append_nil] at hnx
              have HNX2 := Sp.hid hnx
              clear hnx
              go_wp2
              go_roundw
              case rel => exact ⟨k + 1, by omega, by go_num, by rw [HNX2.out]; exact HO3.out, HB3.out⟩
              case measure => simp [intOf]; omega
            · have hnx := HNX.out
              rw [HOKV.out] at hnx
              simp only [if_true] at hnx
              have HNX2 := Sp.hid hnx
              clear hnx
              have hs3 := HB3.out.size
              go_wp2_with (at_builtin; refine wpList_append_own_at _ rfl _ _ 48 rfl wb.heap.size 55 i0 _ 6 120 Tryz.underlying48 hi0 hz0 hz1 hz2 rfl (by decide) _ _ _ rfl (HO3.out.alloc _) ⟨wi.heap.size, 0, none⟩ 1 1 [.slice xa xat.length xc, .string xT.label, .string xT.text, .slice xaa xT.attrs.length xca, .slice xka xT.kids.length xck, .string xn] rfl rfl (news6 _ _ _ _ _ _ _ _) ?c2 ?c3 ?c4 ?c5 ?c6)
              case c2 => first | (intro u hu; simp at hu; rcases hu with rfl | rfl | rfl | rfl | rfl | rfl <;> rfl) | exact ⟨rfl, rfl, rfl, rfl, rfl, rfl⟩
              case c3 => unfold maxLen; omega
              case c4 => omega
              case c5 => first | omega | (simp; omega)
              case c6 =>
                intro v' w4 hown' hgrow _ _
                have hb4 : Below wb.heap.size wb w4 := (HB3.out.alloc (by omega) _).grown hgrow (by simp; omega) (fun j hj => (HO3.out.lt j hj).1)
                have hown2 : w4.ownsRow wb.heap.size 55 6 v' (thoseL ⟨qa, qv, qp⟩ (fun x : List Value × RX => x.2.2.1) L (k + 1)).length ((thoseL ⟨qa, qv, qp⟩ (fun x : List Value × RX => x.2.2.1) L (k + 1)).flatMap (·.1)) := by
                  rw [HNX2.out, List.length_append, List.flatMap_append]; simpa using hown'
                have HO4 := Sp.hid hown2
                have HB4 := Sp.hid hb4
                clear hown' hgrow hb4 hown2
                go_wp2
                go_roundw
                case rel => exact ⟨k + 1, by omega, by go_num, HO4.out, HB4.out⟩
                case measure => simp [intOf]; omega
          · have h0' : ¬ (0 : Int) < (xT.attrs.length : Int) := by omega
            cases okv
            · have hnx := HNX.out
              rw [HOKV.out] at hnx
              simp only [Bool.false_eq_true, if_false, List.append_nil] at hnx
              have HNX2 := Sp.hid hnx
              clear hnx
              go_wp2
              go_roundw
              case rel => exact ⟨k + 1, by omega, by go_num, by rw [HNX2.out]; exact HO3.out, HB3.out⟩
              case measure => simp [intOf]; omega
            · have hnx := HNX.out
              rw [HOKV.out] at hnx
              simp only [if_true] at hnx
              have HNX2 := Sp.hid hnx
              clear hnx
              have hs3 := HB3.out.size
              go_wp2_with (at_builtin; refine wpList_append_own_at _ rfl _ _ 48 rfl wb.heap.size 55 i0 _ 6 120 Tryz.underlying48 hi0 hz0 hz1 hz2 rfl (by decide) _ _ _ rfl (HO3.out.alloc _) ⟨wi.heap.size, 0, none⟩ 1 1 [.slice xa xat.length xc, .string xT.label, .string xT.text, .slice xaa xT.attrs.length xca, .slice xka xT.kids.length xck, .string xn] rfl rfl (news6 _ _ _ _ _ _ _ _) ?c2 ?c3 ?c4 ?c5 ?c6)
              case c2 => first | (intro u hu; simp at hu; rcases hu with rfl | rfl | rfl | rfl | rfl | rfl <;> rfl) | exact ⟨rfl, rfl, rfl, rfl, rfl, rfl⟩
              case c3 => unfold maxLen; omega
              case c4 => omega
              case c5 => first | omega | (simp; omega)
              case c6 =>
                intro v' w4 hown' hgrow _ _
                have hb4 : Below wb.heap.size wb w4 := (HB3.out.alloc (by omega) _).grown hgrow (by simp; omega) (fun j hj => (HO3.out.lt j hj).1)
                have hown2 : w4.ownsRow wb.heap.size 55 6 v' (thoseL ⟨qa, qv, qp⟩ (fun x : List Value × RX => x.2.2.1) L (k + 1)).length ((thoseL ⟨qa, qv, qp⟩ (fun x : List Value × RX => x.2.2.1) L (k + 1)).flatMap (·.1)) := by
                  rw [HNX2.out, List.length_append, List.flatMap_append]; simpa using hown'
                have HO4 := Sp.hid hown2
                have HB4 := Sp.hid hb4
                clear hown' hgrow hb4 hown2
                go_wp2
                go_roundw
                case rel => exact ⟨k + 1, by omega, by go_num, HO4.out, HB4.out⟩
                case measure => simp [intOf]; omega
    · obtain rfl : k = L.length := by omega
      have HO := Sp.hid hown
      have HB := Sp.hid (HB1.out.trans (hb.mono (by omega)) : Below w.heap.size w wr)
      clear hown hb
      go_wp2
      go_ret
      refine ⟨_, rfl, ⟨Joins.ownsRow_le HO.out (by omega), fun x hx => ?_⟩, HB.out⟩
      have hxL := thoseL_mem hx
      refine (rhitS n).mono ((rhitS n).frame (HH.out.els x hxL) (fun b hb' => HB.out.block b ?_)) (fun b hb' => ?_)
      · rcases hb' with hb' | ⟨_, hb', _⟩
        · have := hF b hb'; omega
        · exact hb'.lt
      · rcases hb' with hb' | ⟨h1, ⟨o, h2, h3⟩, h4⟩
        · exact .inl hb'
        · have hbl := (Array.getElem?_eq_some_iff.1 h2).1
          refine .inr ⟨h1, ⟨o, (HB.out.block b hbl).trans h2, h3⟩, fun e => ?_⟩
          have := (HO.out.lt b e.symm).1
          omega

end Go.Proofs.YtoknglpfchjbjaaGreatDoor

/- spyglassref16.goes: the region that appends a child's hit: what has been done of it; rows appended to rows. Conditions: none. -/
namespace Go.Proofs.YtoknglpfchjbjaaGreatDoor
open Go.RowKit Go.Sp Go.Maps

theorem own_cap_g {w : World} {base : Nat} {e : TypeId} {size : Nat} {v : Value} {n : Nat} {xs : List Value} (h : w.ownsRow base e size v n xs) : ∃ a c, v = .slice a n c ∧ n ≤ c := by
  rcases h.2 with ⟨hv, h0⟩ | ⟨g, cap, cur, hv, hb, hg, h1, h2, h3⟩
  · exact ⟨none, 0, by rw [h0]; exact hv, by omega⟩
  · exact ⟨some ⟨g, 0, none⟩, cap, hv, by omega⟩

/-- Any slice appended to a row that the call owns. -/
theorem wpList_append_slice {ops : Array Oper} {rest : List Oper} {o : Oper} {a : Act} {Q : Exit → Act → World → Prop} {w : World} (hgd : o.guard = none) (s x : Operand) (t : TypeId)
    (ho : o.op = .call { callee := .builtin .append, args := #[s, x], argTypes := #[t, t] })
    (base : Nat) (e : TypeId) (i : TypeInfo) (z : Value) (size bytes : Nat) (ht : Tryz.prog.underlying t = some (.slice e)) (hi : Tryz.prog.info? e = some i) (hz : i.zero = some z)
    (hsize : i.size = size) (hby : i.bytes = bytes) (hzs : z.cells.size = size) (hsz : 0 < size)
    (v : Value) (n : Nat) (xs : List Value) (hs : a.eval s = v) (hown : w.ownsRow base e size v n xs)
    (ad : Option Addr) (m c : Nat) (news : List Value) (hx : a.eval x = .slice ad m c) (hl : news.length = m * size) (had : m ≠ 0 → ∃ b, ad = some b ∧ ∀ j u, news[j]? = some u → w.cell? (b.add j) = some u) (h1 : ∀ u ∈ news, u.oneCell' = true)
    (h63 : n + m ≤ maxLen) (hbytes : (n + m) * bytes ≤ 140737488355328) (hbase : base ≤ w.heap.size)
    (h : ∀ v' w', w'.ownsRow base e size v' (n + m) (xs ++ news) → w.grownBy w' v.ownBlock → (v'.ownBlock = v.ownBlock ∨ v'.ownBlock = some w.heap.size) → wpList Tryz.prog ops Q rest (a.put o.dst v') w') :
    wpList Tryz.prog ops Q (o :: rest) a w := by
  by_cases hm : m = 0
  · subst hm
    have hn : news = [] := List.length_eq_zero_iff.1 (by rw [hl]; simp)
    subst hn
    have hsrc : Src Tryz.prog i.size t (.slice ad 0 c) 0 [] w :=
      { kind := .inl ⟨_, ht⟩
        len := fun _ => by simp [Builtin.lenOf]
        cells := by cases ad <;> simp [Builtin.firstCells, loadCells, loadCellsFrom]
        cellsD := by cases ad <;> simp [Builtin.firstCells, loadCells, loadCellsFrom]
        newsLen := by simp
        one := by simp }
    obtain ⟨ao, c', hv, hc⟩ := own_cap_g hown
    subst hv
    refine wpList_plain hgd fun K hK => ?_
    have hr := run_append_nothing w t t o.type e i ht hi ao n c' hc (.slice ad 0 c) hsrc
    unfold Oper.wp execOp
    simp only [ho, resolve, invoke, builtin, Sem.run_bind, Sem.run_pure, Result.andThen_ok, List.map_toArray, List.map_cons, List.map_nil, hs, hx, hr]
    exact hK _ _ (h _ w (by simpa using hown) (grown_refl _ _) (.inl rfl))
  · obtain ⟨b, rfl, hnews⟩ := had hm
    exact wpList_append_own_at _ hgd s x t ho base e i z size bytes ht hi hz hsize hby hzs hsz v n xs hs hown b m c news hx hl hnews h1 h63 hbytes hbase (fun v' w' q1 q2 _ q4 => h v' w' q1 q2 q4)

theorem ints_news_any {F : Nat → Prop} {w : World} {a : Option Addr} {xs : List Int} (h : Sl (Shape.int .i64) F w a xs) : xs.length ≠ 0 → ∃ b, a = some b ∧ ∀ j u, (xs.map (Value.int .i64))[j]? = some u → w.cell? (b.add j) = some u := by
  intro hne
  obtain ⟨b, o, rfl, -, -⟩ := h.int_cell 0 (by omega)
  exact ⟨_, rfl, ints_news h⟩

/-- 0: the row · 1: the path · 2: the place · 3: a row of the place · 4: the path, longer by one · 5: the tree · 6: the hit · 7: a row of the hit · 8: the row, longer by one. -/
def GInv (W0 : World) (v0 vI : Value) (ats : List Int) (k : Nat) (tv : List Value) (Fin : Value → World → Prop) (L : Nat → Bool) (u : Nat → Value) (w : World) : Prop :=
  (L 8 = false ∧ Below W0.heap.size W0 w ∧ ((L 0 = true → u 0 = v0) ∧ (L 1 = true → u 1 = vI) ∧ (L 2 = true → u 2 = .int .i64 (k : Nat)) ∧ (L 5 = true → u 5 = .agg tv.toArray)) ∧
    (L 4 = false → w.ownsRow W0.heap.size 3 1 vI ats.length (ats.map (Value.int .i64)) ∧ (L 3 = true → ∃ z, u 3 = .slice (some ⟨z, 0, none⟩) 1 1 ∧ w.cell? ⟨z, 0, none⟩ = some (.int .i64 (k : Nat)))) ∧
    (L 4 = true → w.ownsRow W0.heap.size 3 1 (u 4) (ats.length + 1) (ats.map (Value.int .i64) ++ [.int .i64 (k : Nat)])) ∧ (L 6 = true → u 6 = .agg (u 4 :: (tv ++ [.string ⟨#[]⟩])).toArray) ∧
    (L 7 = true → ∃ z, u 7 = .slice (some ⟨z, 0, none⟩) 1 1 ∧ ∀ j x, (u 4 :: (tv ++ [.string ⟨#[]⟩]))[j]? = some x → w.cell? ((⟨z, 0, none⟩ : Addr).add j) = some x)) ∨
  (L 8 = true ∧ Fin (u 8) w)

section
variable {l : List Oper} {W0 : World} {v0 vI : Value} {ats : List Int} {k : Nat} {tv : List Value} {Fin : Value → World → Prop} {L : Nat → Bool} {u : Nat → Value} {w w' : World}

theorem ginv_start (hb : Below W0.heap.size W0 w) (h : w.ownsRow W0.heap.size 3 1 vI ats.length (ats.map (Value.int .i64))) : GInv W0 v0 vI ats k tv Fin (fun _ => false) u w.drew := by
  refine .inl ⟨rfl, hb.drew, ⟨by simp, by simp, by simp, by simp⟩, fun _ => ⟨h.drew, by simp⟩, by simp, by simp, by simp⟩

theorem ginv_world (h : GInv W0 v0 vI ats k tv Fin L u w) (hL : L 8 = false) (hb : Below w.heap.size w w') : GInv W0 v0 vI ats k tv Fin L u w' := by
  rcases h with ⟨h1, h2, h3, h4, h5, h6, h7⟩ | ⟨h1, _⟩
  · refine .inl ⟨h1, h2.trans (hb.mono h2.size), h3, fun hl => ⟨own_same (h4 hl).1 (fun g hg => hb.block g ((h4 hl).1.lt g hg).2), fun h => ?_⟩, fun h => own_same (h5 h) (fun g hg => hb.block g ((h5 h).lt g hg).2), h6, fun h => ?_⟩
    · obtain ⟨z, e1, e2⟩ := (h4 hl).2 h
      exact ⟨z, e1, cell_below e2 hb⟩
    · obtain ⟨z, e1, e2⟩ := h7 h
      exact ⟨z, e1, fun j x hx => cell_below (e2 j x hx) hb⟩
  · rw [h1] at hL; cases hL

theorem ginv_first (h : GInv W0 v0 vI ats k tv Fin L u w) (hL : L 8 = false) : Below W0.heap.size W0 w ∧ ((L 0 = true → u 0 = v0) ∧ (L 1 = true → u 1 = vI) ∧ (L 2 = true → u 2 = .int .i64 (k : Nat)) ∧ (L 5 = true → u 5 = .agg tv.toArray)) := by
  rcases h with ⟨h1, h2, h3, _⟩ | ⟨h1, _⟩
  · exact ⟨h2, h3⟩
  · rw [h1] at hL; cases hL

/-- A plain one. -/
theorem ginv_side (i : Nat) (hi : i = 0 ∨ i = 1 ∨ i = 2 ∨ i = 5) (h : GInv W0 v0 vI ats k tv Fin L u w) (hL : L 8 = false) :
    GInv W0 v0 vI ats k tv Fin (updB L i) (updU u i (if i = 0 then v0 else if i = 1 then vI else if i = 2 then .int .i64 (k : Nat) else .agg tv.toArray)) w := by
  rcases h with ⟨h1, h2, ⟨p0, p1, p2, p5⟩, h4, h5, h6, h7⟩ | ⟨h1, _⟩
  · rcases hi with rfl | rfl | rfl | rfl
    all_goals
      refine .inl ⟨h1, h2, ⟨?_, ?_, ?_, ?_⟩, h4, h5, h6, h7⟩
      all_goals first | assumption | exact fun _ => rfl
  · rw [h1] at hL; cases hL
theorem ginv_3 {z : Nat} (h : GInv W0 v0 vI ats k tv Fin L u w) (hL : L 8 = false) (h4 : L 4 = false) (hz : w.cell? ⟨z, 0, none⟩ = some (.int .i64 (k : Nat))) : GInv W0 v0 vI ats k tv Fin (updB L 3) (updU u 3 (.slice (some ⟨z, 0, none⟩) 1 1)) w := by
  rcases h with ⟨h1, h2, h3, h4', h5, h6', h7⟩ | ⟨h1, _⟩
  · exact .inl ⟨h1, h2, h3, fun hl => ⟨(h4' h4).1, fun _ => ⟨z, rfl, hz⟩⟩, h5, h6', h7⟩
  · rw [h1] at hL; cases hL
theorem ginv_4 (h : GInv W0 v0 vI ats k tv Fin L u w) (hL : L 8 = false) (h4 : L 4 = false) (h6 : L 6 = false) (h7 : L 7 = false) (l1 : L 1 = true) (l3 : L 3 = true) :
    u 1 = vI ∧ w.ownsRow W0.heap.size 3 1 vI ats.length (ats.map (Value.int .i64)) ∧ (∃ z, u 3 = .slice (some ⟨z, 0, none⟩) 1 1 ∧ w.cell? ⟨z, 0, none⟩ = some (.int .i64 (k : Nat))) ∧
      ∀ v' w', w'.ownsRow W0.heap.size 3 1 v' (ats.length + 1) (ats.map (Value.int .i64) ++ [.int .i64 (k : Nat)]) → w.grownBy w' vI.ownBlock → GInv W0 v0 vI ats k tv Fin (updB L 4) (updU u 4 v') w' := by
  rcases h with ⟨h1, h2, h3, h4', h5, h6', h7'⟩ | ⟨h1, _⟩
  · refine ⟨h3.2.1 l1, (h4' h4).1, (h4' h4).2 l3, fun v' w' hr hg => ?_⟩
    have hrow := (h4' h4).1
    refine .inl ⟨h1, ?_, h3, fun hl => ?_, fun _ => hr, fun h => ?_, fun h => ?_⟩
    · exact h2.trans ⟨hg.os, hg.tape, hg.output, hg.size, fun b hb => hg.block b (by have := h2.size; omega) (fun e => by have := (hrow.lt b e.symm).1; omega)⟩
    · have : updB L 4 4 = true := rfl
      rw [this] at hl; cases hl
    · have h' : L 6 = true := h
      rw [h6] at h'; cases h'
    · have h' : L 7 = true := h
      rw [h7] at h'; cases h'
  · rw [h1] at hL; cases hL
theorem ginv_row4 (h : GInv W0 v0 vI ats k tv Fin L u w) (hL : L 8 = false) (l4 : L 4 = true) : w.ownsRow W0.heap.size 3 1 (u 4) (ats.length + 1) (ats.map (Value.int .i64) ++ [.int .i64 (k : Nat)]) ∧ (L 6 = true → u 6 = .agg (u 4 :: (tv ++ [.string ⟨#[]⟩])).toArray) := by
  rcases h with ⟨h1, h2, h3, h4, h5, h6', h7⟩ | ⟨h1, _⟩
  · exact ⟨h5 l4, h6'⟩
  · rw [h1] at hL; cases hL
theorem ginv_6 (h : GInv W0 v0 vI ats k tv Fin L u w) (hL : L 8 = false) : GInv W0 v0 vI ats k tv Fin (updB L 6) (updU u 6 (.agg (u 4 :: (tv ++ [.string ⟨#[]⟩])).toArray)) w := by
  rcases h with ⟨h1, h2, h3, h4, h5, h6', h7⟩ | ⟨h1, _⟩
  · exact .inl ⟨h1, h2, h3, h4, h5, fun _ => rfl, h7⟩
  · rw [h1] at hL; cases hL
theorem ginv_7 {z : Nat} (h : GInv W0 v0 vI ats k tv Fin L u w) (hL : L 8 = false) (hz : ∀ j x, (u 4 :: (tv ++ [.string ⟨#[]⟩]))[j]? = some x → w.cell? ((⟨z, 0, none⟩ : Addr).add j) = some x) : GInv W0 v0 vI ats k tv Fin (updB L 7) (updU u 7 (.slice (some ⟨z, 0, none⟩) 1 1)) w := by
  rcases h with ⟨h1, h2, h3, h4, h5, h6', h7⟩ | ⟨h1, _⟩
  · exact .inl ⟨h1, h2, h3, h4, h5, h6', fun _ => ⟨z, rfl, hz⟩⟩
  · rw [h1] at hL; cases hL
theorem ginv_8 (h : GInv W0 v0 vI ats k tv Fin L u w) (hL : L 8 = false) (l0 : L 0 = true) (l4 : L 4 = true) (l7 : L 7 = true) :
    Below W0.heap.size W0 w ∧ u 0 = v0 ∧ w.ownsRow W0.heap.size 3 1 (u 4) (ats.length + 1) (ats.map (Value.int .i64) ++ [.int .i64 (k : Nat)]) ∧ (∃ z, u 7 = .slice (some ⟨z, 0, none⟩) 1 1 ∧ ∀ j x, (u 4 :: (tv ++ [.string ⟨#[]⟩]))[j]? = some x → w.cell? ((⟨z, 0, none⟩ : Addr).add j) = some x) ∧
      ∀ v' w', Fin v' w' → GInv W0 v0 vI ats k tv Fin (updB L 8) (updU u 8 v') w' := by
  rcases h with ⟨h1, h2, ⟨p0, _⟩, h4, h5, h6', h7⟩ | ⟨h1, _⟩
  · exact ⟨h2, p0 l0, h5 l4, h7 l7, fun v' w' hf => .inr ⟨rfl, hf⟩⟩
  · rw [h1] at hL; cases hL
theorem ginv_fin (h : GInv W0 v0 vI ats k tv Fin L u w) (l8 : L 8 = true) : Fin (u 8) w := by
  rcases h with ⟨h1, _⟩ | ⟨_, h⟩
  · rw [h1] at l8; cases l8
  · exact h
end

/-- What one more hit leaves. -/
def GFin (m : Nat) (F : Nat → Prop) (w0 : World) (Ls : List (List Value × RX)) (x : RX) (v' : Value) (w' : World) : Prop :=
  (∃ cells, HitsR m F w0.heap.size w' v' (Ls ++ [(cells, x)])) ∧ Below w0.heap.size w0 w'

theorem ints_owned {w : World} {base : Nat} {v : Value} {ys : List Int} {F : Nat → Prop} (h : w.ownsRow base 3 1 v ys.length (ys.map (Value.int .i64))) (hF : ∀ g, v.ownBlock = some g → F g) : ∃ a c, v = .slice a ys.length c ∧ Sl (Shape.int .i64) F w a ys := by
  have h' : w.ownsRow base 3 (Shape.int .i64).sz v ys.length ((ys.map fun x => ([Value.int .i64 x], x)).flatMap (·.1)) := by
    rw [List.flatMap_map]
    have e0 : ∀ l : List Int, l.flatMap (fun x => [Value.int .i64 x]) = l.map (Value.int .i64) := fun l => by
      induction l with
      | nil => rfl
      | cons x l ih => rw [List.flatMap_cons, ih]; rfl
    rw [show (fun a : Int => (([Value.int .i64 a], a) : List Value × Int).1) = fun x => [Value.int .i64 x] from rfl, e0]
    exact h
  obtain ⟨a, cap, hv, hsl⟩ := own_sl (S := Shape.int .i64) (F := F) h' (by simp) (fun x hx => by
    obtain ⟨y, _, rfl⟩ := List.mem_map.1 hx; rfl) hF
  exact ⟨a, cap, hv, by simpa [Function.comp_def] using hsl⟩

theorem goes_more {m : Nat} {F : Nat → Prop} {w0 W0 w w' : World} {v0 v' v6 : Value} {Ls : List (List Value × RX)} {ats : List Int} {k : Nat} {kid : TT} {tv : List Value} (hb0 : Below w0.heap.size w0 W0) (hn : HitsR m F w0.heap.size W0 v0 Ls) (hF : ∀ b, F b → b < w0.heap.size) (hb : Below W0.heap.size W0 w)
    (hk : (treeS m).rep F W0 tv kid) (h6 : w.ownsRow W0.heap.size 3 1 v6 (ats.length + 1) (ats.map (Value.int .i64) ++ [.int .i64 (k : Nat)]))
    (hr : w'.ownsRow w0.heap.size 55 6 v' (Ls.length + 1) (Ls.flatMap (·.1) ++ (v6 :: (tv ++ [.string ⟨#[]⟩])))) (hg : w.grownBy w' v0.ownBlock) (ho : v'.ownBlock = v0.ownBlock ∨ v'.ownBlock = some w.heap.size) : GFin m F w0 Ls (ats ++ [(k : Int)], kid, ⟨#[]⟩) v' w' := by
  have hs0 := hb0.size
  have hs := hb.size
  have hkeep := hn.keep (fun b hb' => by have := hF b hb'; omega) hb
  have hFF : ∀ b, F b → b < w.heap.size ∧ ∀ g, v0.ownBlock = some g → b ≠ g := fun b hb' => ⟨by have := hF b hb'; omega, fun g hg' => by have := (hn.row.lt g hg').1; have := hF b hb'; omega⟩
  refine ⟨⟨v6 :: (tv ++ [.string ⟨#[]⟩]), hkeep.more (M := [(v6 :: (tv ++ [.string ⟨#[]⟩]), (ats ++ [(k : Int)], kid, ⟨#[]⟩))]) hFF (by simpa using hr) hg (by rcases ho with h | h; exact .inl h; exact .inr ⟨_, h, Nat.le_refl _⟩) ?_⟩, ?_⟩
  · intro x hx
    rw [List.mem_singleton] at hx
    subst hx
    have e : (ats ++ [(k : Int)]).map (Value.int .i64) = ats.map (Value.int .i64) ++ [.int .i64 (k : Nat)] := by simp
    have h6' : w.ownsRow W0.heap.size 3 1 v6 (ats ++ [(k : Int)]).length ((ats ++ [(k : Int)]).map (Value.int .i64)) := by rw [e]; simpa using h6
    obtain ⟨a, cap, hv, hsl⟩ := ints_owned (F := fun b => F b ∨ Rest w0.heap.size w v0 b) h6' (fun g hg' => .inr ⟨by have := (h6.lt g hg').1; omega, by
        rcases h6.2 with ⟨rfl, _⟩ | ⟨g', _, cur, rfl, _, hh, _⟩
        · cases hg'
        · cases hg'; exact ⟨_, hh, rfl⟩, fun e => by have := (h6.lt g hg').1; have := (hn.row.lt g e.symm).2; omega⟩)
    exact ⟨a, cap, tv, by dsimp only; rw [hv], hsl, (treeS m).mono ((treeS m).frame hk (fun b hb' => hb.block b (by have := hF b hb'; omega))) (fun b hb' => .inl hb')⟩
  · exact (hb0.trans (hb.mono hs0)).grown hg (by omega) (fun j hj => (hn.row.lt j hj).1)

end Go.Proofs.YtoknglpfchjbjaaGreatDoor

/- spyglassref16.goes: the hits of a step from a node. Conditions: up to 4096 children, paths of up to 10000 places; predicates that are formed; names of attributes that rise. -/
namespace Go.Proofs.YtoknglpfchjbjaaGreatDoor
open Go.RowKit Go.Sp Go.Maps

/-- The hits of a step from a node. -/
def goesM (s : StepM) (x : RX) : List RX := if s.isAttr then (x.2.1.attrs.filter fun a => fitsB s a.1).map fun a => (x.1, x.2.1, a.1) else (kidsM s (x.1, x.2.1)).map fun y => (y.1, y.2, ⟨#[]⟩)
def attrsG (s : StepM) (x : RX) (k : Nat) : List RX := ((x.2.1.attrs.take k).filter fun a => fitsB s a.1).map fun a => (x.1, x.2.1, a.1)
theorem attrsG_next (s : StepM) (x : RX) {k : Nat} (h : k < x.2.1.attrs.length) : attrsG s x (k + 1) = attrsG s x k ++ (if fitsB s x.2.1.attrs[k].1 then [(x.1, x.2.1, x.2.1.attrs[k].1)] else []) := by
  unfold attrsG
  rw [List.take_succ_eq_append_getElem h, List.filter_append, List.map_append]
  congr 1
  simp only [List.filter_cons, List.filter_nil]
  split <;> rfl
theorem attrsG_length (s : StepM) (x : RX) (k : Nat) : (attrsG s x k).length ≤ k := by
  unfold attrsG
  rw [List.length_map]
  exact Nat.le_trans (List.length_filter_le _ _) (List.length_take_le _ _)
def kidsG (l : List NX) : List RX := l.map fun y => (y.1, y.2, ⟨#[]⟩)
theorem kidsG_those (q : PredM) (l : List NX) (k : Nat) : thoseL q (fun x : RX => x.2.1) (kidsG l) k = kidsG (thoseL q (fun x : NX => x.2) l k) := by
  have h := thoseL_map q (fun x : RX => x.2.1) (fun y : NX => (y.1, y.2, (⟨#[]⟩ : ByteArray))) l k
  exact h.symm

theorem cells3_at {W : World} {b : Nat} {x0 x1 x2 : Value} {t : TypeId} (h : W.heap[b]? = some (.cells #[x0, x1, x2] t (0, 0))) : W.cell? ⟨b, 0, none⟩ = some x0 ∧ W.cell? ⟨b, 1, none⟩ = some x1 ∧ W.cell? ⟨b, 2, none⟩ = some x2 := by
  refine ⟨?_, ?_, ?_⟩ <;> simp [World.cell?, h]
theorem cells4_at {W : World} {b : Nat} {x0 x1 x2 x3 : Value} {t : TypeId} (h : W.heap[b]? = some (.cells #[x0, x1, x2, x3] t (0, 0))) : W.cell? ⟨b, 0, none⟩ = some x0 ∧ W.cell? ⟨b, 1, none⟩ = some x1 ∧ W.cell? ⟨b, 2, none⟩ = some x2 ∧ W.cell? ⟨b, 3, none⟩ = some x3 := by
  refine ⟨?_, ?_, ?_, ?_⟩ <;> simp [World.cell?, h]
theorem cells6_at {W : World} {b : Nat} {x0 x1 x2 x3 x4 x5 : Value} {t : TypeId} (h : W.heap[b]? = some (.cells #[x0, x1, x2, x3, x4, x5] t (0, 0))) : W.cell? ⟨b, 0, none⟩ = some x0 ∧ W.cell? ⟨b, 1, none⟩ = some x1 ∧ W.cell? ⟨b, 2, none⟩ = some x2 ∧ W.cell? ⟨b, 3, none⟩ = some x3 ∧ W.cell? ⟨b, 4, none⟩ = some x4 ∧ W.cell? ⟨b, 5, none⟩ = some x5 := by
  refine ⟨?_, ?_, ?_, ?_, ?_, ?_⟩ <;> simp [World.cell?, h]
theorem fold_mem {ps : List PredM} : ∀ {l : List NX} {y : NX}, y ∈ ps.foldl (fun l q => thoseM q l) l → y ∈ l := by
  induction ps with
  | nil => exact fun h => h
  | cons p ps ih => exact fun h => thoseM_mem (ih h)
theorem kids0_mem {s : StepM} {ats : List Int} {kids : List TT} {k : Nat} {y : NX} (h : y ∈ kids0 s ats kids k) : y.2 ∈ kids := by
  unfold kids0 at h
  obtain ⟨i, _, hi⟩ := List.mem_filterMap.1 h
  cases hL : kids[i]? with
  | none => rw [hL] at hi; cases hi
  | some t =>
    rw [hL, Option.bind_some] at hi
    split at hi
    · cases hi; exact List.mem_of_getElem? hL
    · cases hi

theorem rhit_mk {m : Nat} {F : Nat → Prop} {W : World} {a : Option Addr} {c : Nat} {ats : List Int} {T : TT} {x0 x1 x2 x3 : Value} {nm : ByteArray} (h1 : Sl (Shape.int .i64) F W a ats) (h2 : (treeS m).rep F W [x0, x1, x2, x3] T) : (rhitS m).rep F W [.slice a ats.length c, x0, x1, x2, x3, .string nm] (ats, T, nm) :=
  ⟨a, c, _, rfl, h1, h2⟩






set_option maxRecDepth 100000 in
set_option maxHeartbeats 16000000 in
theorem goes_any (m : Nat) (F : Nat → Prop) (s : StepM) (pa : Option Addr) (pc : Nat) (ats : List Int) (a : Option Addr) (c : Nat) (T : TT) (xn : ByteArray) (aa ka : Option Addr) (ca ck : Nat) (w : World) (hps : Sl predS F w pa s.preds) (hats : Sl (Shape.int .i64) F w a ats)
    (htr : (treeS m).rep F w [.string T.label, .string T.text, .slice aa T.attrs.length ca, .slice ka T.kids.length ck] T) (hF : ∀ b, F b → b < w.heap.size) (hpl : s.preds.length ≤ 9223372036854775807) (hal : ats.length ≤ 10000) (hkl : T.kids.length ≤ 4096) (htl : T.attrs.length ≤ 1048576)
    (hfp : ∀ q ∈ s.preds, formedP q = true) (hri : ∀ t ∈ T.kids, rises t.attrs = true) :
    Calls Tryz.prog 32 #[.agg #[.slice a ats.length c, .string T.label, .string T.text, .slice aa T.attrs.length ca, .slice ka T.kids.length ck, .string xn], .agg #[.bool s.isAttr, .string s.name, .slice pa s.preds.length pc]] w fun e w' =>
      ∃ v' L, e = .returned v' ∧ HitsR m F w.heap.size w' v' L ∧ L.map (·.2) = goesM s (ats, T, xn) ∧ Below w.heap.size w w' := by
  obtain ⟨i0, hi0, hz0, hz1, hz2⟩ := info_parts infoRHit
  obtain ⟨j0, hj0, hy0, hy1, hy2⟩ := info_parts infoIntC
  obtain ⟨-, aa', ca', ka', ck', hvs, hat, hkd⟩ := treeS_parts htr
  simp only [List.cons.injEq, Value.slice.injEq, true_and, and_true] at hvs
  obtain ⟨⟨rfl, rfl⟩, rfl, rfl⟩ := hvs
  have HP := Sp.hid hps
  have HA := Sp.hid hats
  have HTR := Sp.hid htr
  have HK := Sp.hid hkd
  have HT := Sp.hid hat
  have HF := Sp.hid hF
  have HFP := Sp.hid hfp
  have HRI := Sp.hid hri
  obtain ⟨w0, hw0⟩ : ∃ w0, w0 = (w.alloc (.cells #[.slice a ats.length c, .string T.label, .string T.text, .slice aa T.attrs.length ca, .slice ka T.kids.length ck, .string xn] 55)).alloc (.cells #[.bool s.isAttr, .string s.name, .slice pa s.preds.length pc] 89) := ⟨_, rfl⟩
  have hb0 : Below w.heap.size w w0 := by rw [hw0]; exact ((Below.refl _ _).alloc (Nat.le_refl _) _).alloc (by simp) _
  have hs0 : w.heap.size + 2 ≤ w0.heap.size := by rw [hw0]; simp
  have hX0 : w0.heap[w.heap.size]? = some (.cells #[.slice a ats.length c, .string T.label, .string T.text, .slice aa T.attrs.length ca, .slice ka T.kids.length ck, .string xn] 55 (0, 0)) := by rw [hw0]; exact (Below.heap_alloc _ _ _ (by simp)).trans (heap_alloc_new _ _)
  have hS0 : w0.heap[w.heap.size + 1]? = some (.cells #[.bool s.isAttr, .string s.name, .slice pa s.preds.length pc] 89 (0, 0)) := by
    rw [hw0]; have := heap_alloc_new (w.alloc (.cells #[.slice a ats.length c, .string T.label, .string T.text, .slice aa T.attrs.length ca, .slice ka T.kids.length ck, .string xn] 55)) (.cells #[.bool s.isAttr, .string s.name, .slice pa s.preds.length pc] 89); simpa using this
  have HXC := Sp.hid (fun W (hW : Below w0.heap.size w0 W) => cells6_at ((hW.block _ (by omega)).trans hX0))
  have HSC := Sp.hid (fun W (hW : Below w0.heap.size w0 W) => cells3_at ((hW.block _ (by omega)).trans hS0))
  have HB0 := Sp.hid hb0
  have HW0 := Sp.hid hw0
  have HREP := Sp.hid (fun W (hW : Below w.heap.size w W) (nm : ByteArray) => rhit_mk (c := c) (nm := nm) (hats.frame (w' := W) (fun b hb' => hW.block b (hF b hb'))) ((treeS m).frame htr (fun b hb' => hW.block b (hF b hb'))))
  have s0 : w0.cell? ⟨w.heap.size + 1, 0, none⟩ = some (.bool s.isAttr) := cell_at hS0 0
  clear hps hats htr hkd hat hF hfp hri hb0 hX0 hS0 hw0
  obtain ⟨isA, hisA0⟩ : ∃ isA, isA = s.isAttr := ⟨_, rfl⟩
  have HISA := Sp.hid hisA0
  rw [← hisA0] at s0 HW0 HSC ⊢
  clear hisA0
  cases isA
  · have HGM := Sp.hid (show goesM s (ats, T, xn) = kidsG (kidsM s (ats, T)) by unfold goesM; rw [← HISA.out]; rfl)
    go_enter Tryz.func32, Tryz.ntmps32
    go_wp2
    rw [← HW0.out]
    clear s0
    go_loopw [5, 7] (fun v i wr => ∃ (k : Nat) (L : List (List Value × RX)), k ≤ T.kids.length ∧ i = .int .i64 k ∧ HitsR m F w0.heap.size wr v L ∧ L.map (·.2) = kidsG (kids0 s ats T.kids k) ∧ Below w0.heap.size w0 wr) (fun _ i _ => T.kids.length - (intOf i).toNat)
    case atStart => exact ⟨0, [], Nat.zero_le _, rfl, HitsR.nil _ _ _ _, rfl, Below.refl _ _⟩
    case round =>
      obtain ⟨k, L, hk, rfl, hnr, hL, hb⟩ := hrel
      have hsw := hb.size
      have HNR := Sp.hid hnr
      have HL := Sp.hid hL
      have HB := Sp.hid hb
      have hbw : Below w.heap.size w wr := HB0.out.trans (hb.mono (by omega))
      have HBW := Sp.hid hbw
      have hll : L.length ≤ k := by
        have := congrArg List.length hL
        rw [List.length_map] at this
        unfold kidsG at this
        rw [List.length_map] at this
        rw [this]; exact kids0_length _ _ _ _
      obtain ⟨v0, rfl⟩ : ∃ v0 : Value, v0 = u5 := ⟨_, rfl⟩
      obtain ⟨-, s1, s2⟩ := HSC.out wr hb
      obtain ⟨x0, -, -, -, x4, -⟩ := HXC.out wr hb
      have hXr : w.heap.size < wr.heap.size := by omega
      have hSr : w.heap.size + 1 < wr.heap.size := by omega
      by_cases hlt : k < T.kids.length
      · obtain ⟨b, o, aa1, ca1, ka1, ck1, rfl, fb, hkrep, e1, e2, e3, e4⟩ := tree_cells (HK.out.below HF.out hbw) k hlt
        have hbr : b < wr.heap.size := World.block_lt_of_cell? _ _ e1
        have hnext := kids0_succ s ats T.kids k hlt
        obtain ⟨kid, hkid⟩ : ∃ kid, kid = T.kids[k] := ⟨_, rfl⟩
        rw [← hkid] at hkrep e1 e2 e3 e4 hnext
        have HNX := Sp.hid (show kidsG (kids0 s ats T.kids (k + 1)) = kidsG (kids0 s ats T.kids k) ++ (if goodKid s kid then [(ats ++ [(k : Int)], kid, ⟨#[]⟩)] else []) by rw [hnext]; unfold kidsG; rw [List.map_append]; congr 1; split <;> rfl)
        obtain ⟨w2, hw2⟩ : ∃ w2, w2 = wr.alloc (.cells #[.string kid.label, .string kid.text, .slice aa1 kid.attrs.length ca1, .slice ka1 kid.kids.length ck1] 29) := ⟨_, rfl⟩
        have hb2 : Below wr.heap.size wr w2 := by rw [hw2]; exact (Below.refl _ _).alloc (Nat.le_refl _) _
        have hs2 : wr.heap.size + 1 ≤ w2.heap.size := by rw [hw2]; simp
        have hK2 : w2.heap[wr.heap.size]? = some (.cells #[.string kid.label, .string kid.text, .slice aa1 kid.attrs.length ca1, .slice ka1 kid.kids.length ck1] 29 (0, 0)) := by rw [hw2]; exact heap_alloc_new _ _
        have HB2 := Sp.hid hb2
        have HK2 := Sp.hid hK2
        have HW2 := Sp.hid hw2
        have HKREP := Sp.hid (treeS_le (Nat.sub_le m 1) ((treeS (m - 1)).frame (w' := w2) hkrep (fun j hj => hb2.block j (by have := HF.out j hj; omega))))
        have HX0 := Sp.hid ((hb2.cell (p := ⟨w.heap.size, 0, none⟩) hXr).trans x0)
        clear hb2 hK2 hw2 hnext hkrep hkid hnr hL hb hbw
        cases hl : kid.label.toList.isEmpty
        · have hl' : (kid.label.toList == []) = false := by rw [beq_eq_false_iff_ne]; intro e; rw [e] at hl; cases hl
          have hl2 : (kid.label.toList != []) = true := by simpa using hl'
          obtain ⟨ff, hff⟩ : ∃ ff, fitsB s kid.label = ff := ⟨_, rfl⟩
          have HGK := Sp.hid (show goodKid s kid = ff by unfold goodKid; rw [hl, hff]; rfl)
          unfold fitsB at hff
          cases h1 : (s.name.toList == [42])
          · rw [h1, Bool.false_or] at hff
            cases h2 : (s.name.toList == kid.label.toList)
            · rw [h2] at hff
              subst hff
              have hnx := HNX.out
              rw [HGK.out] at hnx
              simp only [Bool.false_eq_true, if_false, List.append_nil] at hnx
              have HNX2 := Sp.hid hnx
              clear hnx
              go_wp2
              rw [← HW2.out]
              go_roundw
              case rel => exact ⟨k + 1, L, by omega, by go_num, HNR.out.keep (fun b hb => by have := HF.out b hb; omega) HB2.out, by rw [HNX2.out]; exact HL.out, HB.out.trans (HB2.out.mono hsw)⟩
              case measure => simp [intOf]; omega
            · rw [h2] at hff
              subst hff
              have hnr2 := HNR.out.keep (fun b hb => by have := HF.out b hb; omega) HB2.out
              have HNR2 := Sp.hid hnr2
              have hnx := HNX.out
              rw [HGK.out] at hnx
              simp only [if_true] at hnx
              have HNX2 := Sp.hid hnx
              have HAT2 := Sp.hid (HA.out.below HF.out (HBW.out.trans (HB2.out.mono HBW.out.size)))
              obtain ⟨k0, k1, k2, k3⟩ := cells4_at HK2.out
              have HKC := Sp.hid (And.intro k0 (And.intro k1 (And.intro k2 k3)))
              have hD2 : wr.heap.size < w2.heap.size := by omega
              have x0 := HX0.out
              have hX2 : w.heap.size < w2.heap.size := by omega
              clear hnr2 hnx k0 k1 k2 k3
              go_wp2_with (at_builtin; rw [← HW2.out]; refine wpList_append_slice rfl _ _ 51 rfl w2.heap.size 3 j0 (.int .i64 0) 1 8 Tryz.underlying51 hj0 hy0 hy1 hy2 rfl (by decide) _ 0 [] rfl (World.ownsRow_nil _ _ _ _) a ats.length c (ats.map (Value.int .i64)) rfl (by simp) ?c1 ?c2 ?c3 ?c4 ?c5 ?c6)
              case c1 => exact ints_news_any HAT2.out
              case c2 => intro u hu; obtain ⟨z, _, rfl⟩ := List.mem_map.1 hu; rfl
              case c3 => unfold maxLen; omega
              case c4 => omega
              case c5 => exact Nat.le_refl _
              case c6 =>
                intro vI w3 hrowI hgI _
                try simp only [Nat.zero_add, List.nil_append] at hrowI
                have hb3 : Below w2.heap.size w2 w3 := ⟨hgI.os, hgI.tape, hgI.output, hgI.size, fun b hb => hgI.block b hb (by simp [Value.ownBlock])⟩
                have HROWI := Sp.hid hrowI
                have HB3 := Sp.hid hb3
                clear hrowI hgI hb3 x0
                go_wp2
                refine wp_region_inv_own (by kernel_rfl) [some 85, some 86, some 87, some 88, some 89, some 90, some 91, some 92, some 93, none] rfl (by kernel_rfl) (by kernel_rfl) (by kernel_rfl) ?frz1 ?hfrz1
                  (GInv w2 v0 vI ats k [.string kid.label, .string kid.text, .slice aa1 kid.attrs.length ca1, .slice ka1 kid.kids.length ck1] (GFin m F w0 L (ats ++ [(k : Int)], kid, ⟨#[]⟩))) (fun u => ginv_start HB3.out HROWI.out) ?stepz1 _ rfl ?finz1
                case hfrz1 => intro u; simp only [Sp.fillFrom, Sp.idx_cons, Sp.idx_nil, Option.some.injEq, reduceCtorEq, reduceIte, Nat.reduceEqDiff, Nat.reduceAdd, Option.map_some, Option.map_none]; exact rfl
                case stepz1 =>
                  refine ⟨?_, ?_, ?_, ?_, ?_, ?_, ?_, ?_, ?_, trivial⟩
                  · intro L' u w1 hL hcl hD hI
                    have h8 : L' 8 = false := by
                      cases h : L' 8 with
                      | false => rfl
                      | true => have h' := hcl 8 0 h (by kernel_rfl); rw [hL] at h'; cases h'
                    have hI' := ginv_side 0 (by simp) hI h8
                    rw [if_pos rfl] at hI'
                    have HI' := Sp.hid hI'
                    clear hL hcl hD hI hI' h8
                    dsimp only
                    go_wp2
                    exact ⟨_, rfl, HI'.out⟩
                  · intro L' u w1 hL hcl hD hI
                    have h8 : L' 8 = false := by
                      cases h : L' 8 with
                      | false => rfl
                      | true => have h' := hcl 8 1 h (by kernel_rfl); rw [hL] at h'; cases h'
                    have hI' := ginv_side 1 (by simp) hI h8
                    rw [if_neg (by decide), if_pos rfl] at hI'
                    have HI' := Sp.hid hI'
                    clear hL hcl hD hI hI' h8
                    dsimp only
                    go_wp2
                    exact ⟨_, rfl, HI'.out⟩
                  · intro L' u w1 hL hcl hD hI
                    have h8 : L' 8 = false := by
                      cases h : L' 8 with
                      | false => rfl
                      | true => have h' := hcl 8 2 h (by kernel_rfl); rw [hL] at h'; cases h'
                    have hI' := ginv_side 2 (by simp) hI h8
                    rw [if_neg (by decide), if_neg (by decide), if_pos rfl] at hI'
                    have HI' := Sp.hid hI'
                    clear hL hcl hD hI hI' h8
                    dsimp only
                    go_wp2
                    exact ⟨_, rfl, HI'.out⟩
                  · intro L' u w1 hL hcl hD hI
                    have h8 : L' 8 = false := by
                      cases h : L' 8 with
                      | false => rfl
                      | true => have h' := hcl 8 3 h (by kernel_rfl); rw [hL] at h'; cases h'
                    have h4 : L' 4 = false := by
                      cases h : L' 4 with
                      | false => rfl
                      | true => have h' := hcl 4 3 h (by kernel_rfl); rw [hL] at h'; cases h'
                    simp only [DepsDone, Region.binds, and_true, true_implies] at hD
                    obtain ⟨hbK, p0, p1, p2, p5⟩ := ginv_first hI h8
                    have hu := p2 hD
                    have HI' := Sp.hid (fun w' z (hb : Below w1.heap.size w1 w') (hz : w'.cell? ⟨z, 0, none⟩ = some (.int .i64 (k : Nat))) => ginv_3 (ginv_world hI h8 hb) h8 h4 hz)
                    clear hL hcl hD hI h8 h4 hbK p0 p1 p2 p5
                    dsimp only
                    rw [hu]
                    clear hu
                    go_wp2
                    exact ⟨_, rfl, HI'.out _ _ ((Below.refl _ _).alloc (Nat.le_refl _) _) (by simp)⟩
                  · intro L' u w1 hL hcl hD hI
                    have h8 : L' 8 = false := by
                      cases h : L' 8 with
                      | false => rfl
                      | true => have h' := hcl 8 4 h (by kernel_rfl); rw [hL] at h'; cases h'
                    have h6 : L' 6 = false := by
                      cases h : L' 6 with
                      | false => rfl
                      | true => have h' := hcl 6 4 h (by kernel_rfl); rw [hL] at h'; cases h'
                    have h7 : L' 7 = false := by
                      cases h : L' 7 with
                      | false => rfl
                      | true => have h' := hcl 7 4 h (by kernel_rfl); rw [hL] at h'; cases h'
                    simp only [DepsDone, Region.binds, and_true, true_implies] at hD
                    obtain ⟨hu1, hrow3, ⟨z, h5, hz⟩, hI'⟩ := ginv_4 hI h8 hL h6 h7 hD.1 hD.2
                    obtain ⟨hbK, _⟩ := ginv_first hI h8
                    have hsz := hbK.size
                    have HI' := Sp.hid hI'
                    clear hL hcl hD hI h8 h6 h7 hbK hI'
                    dsimp only
                    rw [h5, hu1]
                    refine wpList_append_own_at _ rfl _ _ 51 rfl w2.heap.size 3 j0 (.int .i64 0) 1 8 Tryz.underlying51 hj0 hy0 hy1 hy2 rfl (by decide) _ _ _ rfl hrow3 ⟨z, 0, none⟩ 1 1 [.int .i64 (k : Nat)] rfl rfl ?_ ?_ (by unfold maxLen; omega) (by omega) hsz ?_
                    · intro j x hj
                      have hj0 : j = 0 := by
                        have := (List.getElem?_eq_some_iff.1 hj).1
                        simpa using this
                      subst hj0
                      simp at hj
                      subst hj
                      exact hz
                    · intro x hx; simp at hx; subst hx; rfl
                    intro v' w' r1 r2 _ _
                    exact ⟨_, rfl, HI'.out v' w' r1 r2⟩
                  · intro L' u w1 hL hcl hD hI
                    have h8 : L' 8 = false := by
                      cases h : L' 8 with
                      | false => rfl
                      | true => have h' := hcl 8 5 h (by kernel_rfl); rw [hL] at h'; cases h'
                    obtain ⟨hbK, p0, p1, p2, p5⟩ := ginv_first hI h8
                    have hI' := ginv_side 5 (by simp) hI h8
                    rw [if_neg (by decide), if_neg (by decide), if_neg (by decide)] at hI'
                    obtain ⟨k0, k1, k2, k3⟩ := HKC.out
                    have c0 := (hbK.cell (p := ⟨wr.heap.size, 0, none⟩) hD2).trans k0
                    have c1 := (hbK.cell (p := ⟨wr.heap.size, 1, none⟩) hD2).trans k1
                    have c2 := (hbK.cell (p := ⟨wr.heap.size, 2, none⟩) hD2).trans k2
                    have c3 := (hbK.cell (p := ⟨wr.heap.size, 3, none⟩) hD2).trans k3
                    have HI' := Sp.hid hI'
                    clear hL hcl hD hI hI' h8 hbK p0 p1 p2 p5 k0 k1 k2 k3
                    dsimp only
                    go_wp2
                    exact ⟨_, rfl, HI'.out⟩
                  · intro L' u w1 hL hcl hD hI
                    have h8 : L' 8 = false := by
                      cases h : L' 8 with
                      | false => rfl
                      | true => have h' := hcl 8 6 h (by kernel_rfl); rw [hL] at h'; cases h'
                    simp only [DepsDone, Region.binds, and_true, true_implies] at hD
                    obtain ⟨hbK, p0, p1, p2, p5⟩ := ginv_first hI h8
                    have h5 := p5 hD.2
                    obtain ⟨hr4, _⟩ := ginv_row4 hI h8 hD.1
                    obtain ⟨g6, c6, h6⟩ := Joins.ownsRow_form hr4 (Nat.succ_pos _)
                    have hI' := ginv_6 hI h8
                    have HI' := Sp.hid hI'
                    clear hL hcl hD hI hI' h8 hbK p0 p1 p2 p5 hr4
                    dsimp only
                    rw [h5]
                    rw [h6] at HI' ⊢
                    clear h5
                    go_wp2
                    exact ⟨_, rfl, HI'.out⟩
                  · intro L' u w1 hL hcl hD hI
                    have h8 : L' 8 = false := by
                      cases h : L' 8 with
                      | false => rfl
                      | true => have h' := hcl 8 7 h (by kernel_rfl); rw [hL] at h'; cases h'
                    simp only [DepsDone, Region.binds, and_true, true_implies] at hD
                    have l4 : L' 4 = true := hcl 6 4 hD (by kernel_rfl)
                    obtain ⟨hr4, h9⟩ := ginv_row4 hI h8 l4
                    obtain ⟨g6, c6, h6⟩ := Joins.ownsRow_form hr4 (Nat.succ_pos _)
                    have h9' := h9 hD
                    have HI' := Sp.hid (fun w' z (hb : Below w1.heap.size w1 w') (hz : ∀ j x, (u 4 :: ([.string kid.label, .string kid.text, .slice aa1 kid.attrs.length ca1, .slice ka1 kid.kids.length ck1] ++ [.string ⟨#[]⟩]))[j]? = some x → w'.cell? ((⟨z, 0, none⟩ : Addr).add j) = some x) => ginv_7 (ginv_world hI h8 hb) h8 hz)
                    clear hL hcl hD hI h8 hr4 h9 l4
                    dsimp only
                    rw [h9']
                    rw [h6] at HI' ⊢
                    clear h9'
                    go_wp2
                    exact ⟨_, rfl, HI'.out _ _ ((Below.refl _ _).alloc (Nat.le_refl _) _) (news6 _ _ _ _ _ _ _ _)⟩
                  · intro L' u w1 hL hcl hD hI
                    simp only [DepsDone, Region.binds, and_true, true_implies] at hD
                    obtain ⟨hbK, h0, hr4, ⟨z, h9, hz⟩, hfin⟩ := ginv_8 hI hL hD.1 hD.2.2 hD.2.1
                    have hsz := hbK.size
                    have hb02 : Below w0.heap.size w0 w2 := HB.out.trans (HB2.out.mono hsw)
                    have hrow1 := own_same HNR2.out.row (fun j hj => hbK.block j (HNR2.out.row.lt j hj).2)
                    have HI' := Sp.hid (fun v' w' r1 r2 r4 => hfin v' w' (goes_more hb02 HNR2.out (fun b hb => by have := HF.out b hb; omega) hbK HKREP.out hr4 r1 r2 r4))
                    have hs02 := hb02.size
                    obtain ⟨g6, c6, h6⟩ := Joins.ownsRow_form hr4 (Nat.succ_pos _)
                    clear hL hcl hD hI hbK hfin hb02
                    dsimp only
                    rw [h0, h9]
                    refine wpList_append_own_at _ rfl _ _ 48 rfl w0.heap.size 55 i0 _ 6 120 Tryz.underlying48 hi0 hz0 hz1 hz2 rfl (by decide) _ _ _ rfl hrow1 ⟨z, 0, none⟩ 1 1 (u 4 :: ([.string kid.label, .string kid.text, .slice aa1 kid.attrs.length ca1, .slice ka1 kid.kids.length ck1] ++ [.string ⟨#[]⟩])) rfl rfl hz ?_ (by unfold maxLen; omega) (by omega) (by omega) ?_
                    · rw [h6]; intro x hx; simp at hx; rcases hx with rfl | rfl | rfl | rfl | rfl | rfl <;> rfl
                    intro v' w' r1 r2 _ r4
                    exact ⟨_, rfl, HI'.out v' w' r1 r2 r4⟩
                case finz1 =>
                  intro L' u w1 hall hI
                  obtain ⟨⟨cells, hnr'⟩, hb'⟩ := ginv_fin hI (hall 8 (by decide))
                  have HNR' := Sp.hid hnr'
                  have HMAP := Sp.hid (show (L ++ [(cells, (ats ++ [(k : Int)], kid, (⟨#[]⟩ : ByteArray)))]).map (·.2) = kidsG (kids0 s ats T.kids (k + 1)) by rw [HNX2.out, List.map_append, HL.out]; rfl)
                  have HB' := Sp.hid hb'
                  clear hall hI hnr' hb'
                  simp only [List.getLast]
                  refine wpList_plain rfl fun K hK => ?_
                  simp only [Oper.wp, execOp, Sem.run_pure, Oper.upon]
                  refine hK _ _ (stepEnd ?_)
                  clear hK
                  go_wp2
                  go_roundw
                  case rel => exact ⟨k + 1, _, by omega, by go_num, HNR'.out, HMAP.out, HB'.out⟩
                  case measure => simp [intOf]; omega
          · rw [h1, Bool.true_or] at hff
            subst hff
            have hnr2 := HNR.out.keep (fun b hb => by have := HF.out b hb; omega) HB2.out
            have HNR2 := Sp.hid hnr2
            have hnx := HNX.out
            rw [HGK.out] at hnx
            simp only [if_true] at hnx
            have HNX2 := Sp.hid hnx
            have HAT2 := Sp.hid (HA.out.below HF.out (HBW.out.trans (HB2.out.mono HBW.out.size)))
            obtain ⟨k0, k1, k2, k3⟩ := cells4_at HK2.out
            have HKC := Sp.hid (And.intro k0 (And.intro k1 (And.intro k2 k3)))
            have hD2 : wr.heap.size < w2.heap.size := by omega
            have x0 := HX0.out
            have hX2 : w.heap.size < w2.heap.size := by omega
            clear hnr2 hnx k0 k1 k2 k3
            go_wp2_with (at_builtin; rw [← HW2.out]; refine wpList_append_slice rfl _ _ 51 rfl w2.heap.size 3 j0 (.int .i64 0) 1 8 Tryz.underlying51 hj0 hy0 hy1 hy2 rfl (by decide) _ 0 [] rfl (World.ownsRow_nil _ _ _ _) a ats.length c (ats.map (Value.int .i64)) rfl (by simp) ?c1 ?c2 ?c3 ?c4 ?c5 ?c6)
            case c1 => exact ints_news_any HAT2.out
            case c2 => intro u hu; obtain ⟨z, _, rfl⟩ := List.mem_map.1 hu; rfl
            case c3 => unfold maxLen; omega
            case c4 => omega
            case c5 => exact Nat.le_refl _
            case c6 =>
              intro vI w3 hrowI hgI _
              try simp only [Nat.zero_add, List.nil_append] at hrowI
              have hb3 : Below w2.heap.size w2 w3 := ⟨hgI.os, hgI.tape, hgI.output, hgI.size, fun b hb => hgI.block b hb (by simp [Value.ownBlock])⟩
              have HROWI := Sp.hid hrowI
              have HB3 := Sp.hid hb3
              clear hrowI hgI hb3 x0
              go_wp2
              refine wp_region_inv_own (by kernel_rfl) [some 85, some 86, some 87, some 88, some 89, some 90, some 91, some 92, some 93, none] rfl (by kernel_rfl) (by kernel_rfl) (by kernel_rfl) ?frz2 ?hfrz2
                (GInv w2 v0 vI ats k [.string kid.label, .string kid.text, .slice aa1 kid.attrs.length ca1, .slice ka1 kid.kids.length ck1] (GFin m F w0 L (ats ++ [(k : Int)], kid, ⟨#[]⟩))) (fun u => ginv_start HB3.out HROWI.out) ?stepz2 _ rfl ?finz2
              case hfrz2 => intro u; simp only [Sp.fillFrom, Sp.idx_cons, Sp.idx_nil, Option.some.injEq, reduceCtorEq, reduceIte, Nat.reduceEqDiff, Nat.reduceAdd, Option.map_some, Option.map_none]; exact rfl
              case stepz2 =>
                refine ⟨?_, ?_, ?_, ?_, ?_, ?_, ?_, ?_, ?_, trivial⟩
                · intro L' u w1 hL hcl hD hI
                  have h8 : L' 8 = false := by
                    cases h : L' 8 with
                    | false => rfl
                    | true => have h' := hcl 8 0 h (by kernel_rfl); rw [hL] at h'; cases h'
                  have hI' := ginv_side 0 (by simp) hI h8
                  rw [if_pos rfl] at hI'
                  have HI' := Sp.hid hI'
                  clear hL hcl hD hI hI' h8
                  dsimp only
                  go_wp2
                  exact ⟨_, rfl, HI'.out⟩
                · intro L' u w1 hL hcl hD hI
                  have h8 : L' 8 = false := by
                    cases h : L' 8 with
                    | false => rfl
                    | true => have h' := hcl 8 1 h (by kernel_rfl); rw [hL] at h'; cases h'
                  have hI' := ginv_side 1 (by simp) hI h8
                  rw [if_neg (by decide), if_pos rfl] at hI'
                  have HI' := Sp.hid hI'
                  clear hL hcl hD hI hI' h8
                  dsimp only
                  go_wp2
                  exact ⟨_, rfl, HI'.out⟩
                · intro L' u w1 hL hcl hD hI
                  have h8 : L' 8 = false := by
                    cases h : L' 8 with
                    | false => rfl
                    | true => have h' := hcl 8 2 h (by kernel_rfl); rw [hL] at h'; cases h'
                  have hI' := ginv_side 2 (by simp) hI h8
                  rw [if_neg (by decide), if_neg (by decide), if_pos rfl] at hI'
                  have HI' := Sp.hid hI'
                  clear hL hcl hD hI hI' h8
                  dsimp only
                  go_wp2
                  exact ⟨_, rfl, HI'.out⟩
                · intro L' u w1 hL hcl hD hI
                  have h8 : L' 8 = false := by
                    cases h : L' 8 with
                    | false => rfl
                    | true => have h' := hcl 8 3 h (by kernel_rfl); rw [hL] at h'; cases h'
                  have h4 : L' 4 = false := by
                    cases h : L' 4 with
                    | false => rfl
                    | true => have h' := hcl 4 3 h (by kernel_rfl); rw [hL] at h'; cases h'
                  simp only [DepsDone, Region.binds, and_true, true_implies] at hD
                  obtain ⟨hbK, p0, p1, p2, p5⟩ := ginv_first hI h8
                  have hu := p2 hD
                  have HI' := Sp.hid (fun w' z (hb : Below w1.heap.size w1 w') (hz : w'.cell? ⟨z, 0, none⟩ = some (.int .i64 (k : Nat))) => ginv_3 (ginv_world hI h8 hb) h8 h4 hz)
                  clear hL hcl hD hI h8 h4 hbK p0 p1 p2 p5
                  dsimp only
                  rw [hu]
                  clear hu
                  go_wp2
                  exact ⟨_, rfl, HI'.out _ _ ((Below.refl _ _).alloc (Nat.le_refl _) _) (by simp)⟩
                · intro L' u w1 hL hcl hD hI
                  have h8 : L' 8 = false := by
                    cases h : L' 8 with
                    | false => rfl
                    | true => have h' := hcl 8 4 h (by kernel_rfl); rw [hL] at h'; cases h'
                  have h6 : L' 6 = false := by
                    cases h : L' 6 with
                    | false => rfl
                    | true => have h' := hcl 6 4 h (by kernel_rfl); rw [hL] at h'; cases h'
                  have h7 : L' 7 = false := by
                    cases h : L' 7 with
                    | false => rfl
                    | true => have h' := hcl 7 4 h (by kernel_rfl); rw [hL] at h'; cases h'
                  simp only [DepsDone, Region.binds, and_true, true_implies] at hD
                  obtain ⟨hu1, hrow3, ⟨z, h5, hz⟩, hI'⟩ := ginv_4 hI h8 hL h6 h7 hD.1 hD.2
                  obtain ⟨hbK, _⟩ := ginv_first hI h8
                  have hsz := hbK.size
                  have HI' := Sp.hid hI'
                  clear hL hcl hD hI h8 h6 h7 hbK hI'
                  dsimp only
                  rw [h5, hu1]
                  refine wpList_append_own_at _ rfl _ _ 51 rfl w2.heap.size 3 j0 (.int .i64 0) 1 8 Tryz.underlying51 hj0 hy0 hy1 hy2 rfl (by decide) _ _ _ rfl hrow3 ⟨z, 0, none⟩ 1 1 [.int .i64 (k : Nat)] rfl rfl ?_ ?_ (by unfold maxLen; omega) (by omega) hsz ?_
                  · intro j x hj
                    have hj0 : j = 0 := by
                      have := (List.getElem?_eq_some_iff.1 hj).1
                      simpa using this
                    subst hj0
                    simp at hj
                    subst hj
                    exact hz
                  · intro x hx; simp at hx; subst hx; rfl
                  intro v' w' r1 r2 _ _
                  exact ⟨_, rfl, HI'.out v' w' r1 r2⟩
                · intro L' u w1 hL hcl hD hI
                  have h8 : L' 8 = false := by
                    cases h : L' 8 with
                    | false => rfl
                    | true => have h' := hcl 8 5 h (by kernel_rfl); rw [hL] at h'; cases h'
                  obtain ⟨hbK, p0, p1, p2, p5⟩ := ginv_first hI h8
                  have hI' := ginv_side 5 (by simp) hI h8
                  rw [if_neg (by decide), if_neg (by decide), if_neg (by decide)] at hI'
                  obtain ⟨k0, k1, k2, k3⟩ := HKC.out
                  have c0 := (hbK.cell (p := ⟨wr.heap.size, 0, none⟩) hD2).trans k0
                  have c1 := (hbK.cell (p := ⟨wr.heap.size, 1, none⟩) hD2).trans k1
                  have c2 := (hbK.cell (p := ⟨wr.heap.size, 2, none⟩) hD2).trans k2
                  have c3 := (hbK.cell (p := ⟨wr.heap.size, 3, none⟩) hD2).trans k3
                  have HI' := Sp.hid hI'
                  clear hL hcl hD hI hI' h8 hbK p0 p1 p2 p5 k0 k1 k2 k3
                  dsimp only
                  go_wp2
                  exact ⟨_, rfl, HI'.out⟩
                · intro L' u w1 hL hcl hD hI
                  have h8 : L' 8 = false := by
                    cases h : L' 8 with
                    | false => rfl
                    | true => have h' := hcl 8 6 h (by kernel_rfl); rw [hL] at h'; cases h'
                  simp only [DepsDone, Region.binds, and_true, true_implies] at hD
                  obtain ⟨hbK, p0, p1, p2, p5⟩ := ginv_first hI h8
                  have h5 := p5 hD.2
                  obtain ⟨hr4, _⟩ := ginv_row4 hI h8 hD.1
                  obtain ⟨g6, c6, h6⟩ := Joins.ownsRow_form hr4 (Nat.succ_pos _)
                  have hI' := ginv_6 hI h8
                  have HI' := Sp.hid hI'
                  clear hL hcl hD hI hI' h8 hbK p0 p1 p2 p5 hr4
                  dsimp only
                  rw [h5]
                  rw [h6] at HI' ⊢
                  clear h5
                  go_wp2
                  exact ⟨_, rfl, HI'.out⟩
                · intro L' u w1 hL hcl hD hI
                  have h8 : L' 8 = false := by
                    cases h : L' 8 with
                    | false => rfl
                    | true => have h' := hcl 8 7 h (by kernel_rfl); rw [hL] at h'; cases h'
                  simp only [DepsDone, Region.binds, and_true, true_implies] at hD
                  have l4 : L' 4 = true := hcl 6 4 hD (by kernel_rfl)
                  obtain ⟨hr4, h9⟩ := ginv_row4 hI h8 l4
                  obtain ⟨g6, c6, h6⟩ := Joins.ownsRow_form hr4 (Nat.succ_pos _)
                  have h9' := h9 hD
                  have HI' := Sp.hid (fun w' z (hb : Below w1.heap.size w1 w') (hz : ∀ j x, (u 4 :: ([.string kid.label, .string kid.text, .slice aa1 kid.attrs.length ca1, .slice ka1 kid.kids.length ck1] ++ [.string ⟨#[]⟩]))[j]? = some x → w'.cell? ((⟨z, 0, none⟩ : Addr).add j) = some x) => ginv_7 (ginv_world hI h8 hb) h8 hz)
                  clear hL hcl hD hI h8 hr4 h9 l4
                  dsimp only
                  rw [h9']
                  rw [h6] at HI' ⊢
                  clear h9'
                  go_wp2
                  exact ⟨_, rfl, HI'.out _ _ ((Below.refl _ _).alloc (Nat.le_refl _) _) (news6 _ _ _ _ _ _ _ _)⟩
                · intro L' u w1 hL hcl hD hI
                  simp only [DepsDone, Region.binds, and_true, true_implies] at hD
                  obtain ⟨hbK, h0, hr4, ⟨z, h9, hz⟩, hfin⟩ := ginv_8 hI hL hD.1 hD.2.2 hD.2.1
                  have hsz := hbK.size
                  have hb02 : Below w0.heap.size w0 w2 := HB.out.trans (HB2.out.mono hsw)
                  have hrow1 := own_same HNR2.out.row (fun j hj => hbK.block j (HNR2.out.row.lt j hj).2)
                  have HI' := Sp.hid (fun v' w' r1 r2 r4 => hfin v' w' (goes_more hb02 HNR2.out (fun b hb => by have := HF.out b hb; omega) hbK HKREP.out hr4 r1 r2 r4))
                  have hs02 := hb02.size
                  obtain ⟨g6, c6, h6⟩ := Joins.ownsRow_form hr4 (Nat.succ_pos _)
                  clear hL hcl hD hI hbK hfin hb02
                  dsimp only
                  rw [h0, h9]
                  refine wpList_append_own_at _ rfl _ _ 48 rfl w0.heap.size 55 i0 _ 6 120 Tryz.underlying48 hi0 hz0 hz1 hz2 rfl (by decide) _ _ _ rfl hrow1 ⟨z, 0, none⟩ 1 1 (u 4 :: ([.string kid.label, .string kid.text, .slice aa1 kid.attrs.length ca1, .slice ka1 kid.kids.length ck1] ++ [.string ⟨#[]⟩])) rfl rfl hz ?_ (by unfold maxLen; omega) (by omega) (by omega) ?_
                  · rw [h6]; intro x hx; simp at hx; rcases hx with rfl | rfl | rfl | rfl | rfl | rfl <;> rfl
                  intro v' w' r1 r2 _ r4
                  exact ⟨_, rfl, HI'.out v' w' r1 r2 r4⟩
              case finz2 =>
                intro L' u w1 hall hI
                obtain ⟨⟨cells, hnr'⟩, hb'⟩ := ginv_fin hI (hall 8 (by decide))
                have HNR' := Sp.hid hnr'
                have HMAP := Sp.hid (show (L ++ [(cells, (ats ++ [(k : Int)], kid, (⟨#[]⟩ : ByteArray)))]).map (·.2) = kidsG (kids0 s ats T.kids (k + 1)) by rw [HNX2.out, List.map_append, HL.out]; rfl)
                have HB' := Sp.hid hb'
                clear hall hI hnr' hb'
                simp only [List.getLast]
                refine wpList_plain rfl fun K hK => ?_
                simp only [Oper.wp, execOp, Sem.run_pure, Oper.upon]
                refine hK _ _ (stepEnd ?_)
                clear hK
                go_wp2
                go_roundw
                case rel => exact ⟨k + 1, _, by omega, by go_num, HNR'.out, HMAP.out, HB'.out⟩
                case measure => simp [intOf]; omega
        · have hl' : (kid.label.toList == []) = true := by rw [beq_iff_eq]; exact List.isEmpty_iff.1 hl
          have hl2 : (kid.label.toList != []) = false := by simpa using hl'
          have HGK := Sp.hid (show goodKid s kid = false by unfold goodKid; rw [hl]; rfl)
          have hnx := HNX.out
          rw [HGK.out] at hnx
          simp only [Bool.false_eq_true, if_false, List.append_nil] at hnx
          have HNX2 := Sp.hid hnx
          clear hnx
          go_wp2
          rw [← HW2.out]
          go_roundw
          case rel => exact ⟨k + 1, L, by omega, by go_num, HNR.out.keep (fun b hb => by have := HF.out b hb; omega) HB2.out, by rw [HNX2.out]; exact HL.out, HB.out.trans (HB2.out.mono hsw)⟩
          case measure => simp [intOf]; omega
      · obtain rfl : k = T.kids.length := by omega
        have HP2 := Sp.hid (HP.out.below HF.out hbw)
        obtain ⟨wo, rfl⟩ : ∃ wo : World, wo = wr := ⟨_, rfl⟩
        clear hnr hL hb hbw
        go_wp2
        go_loopw [5, 10] (fun v i wr => ∃ (q : Nat) (L2 : List (List Value × RX)), q ≤ s.preds.length ∧ i = .int .i64 q ∧ HitsR m F w0.heap.size wr v L2 ∧ L2.map (·.2) = kidsG ((s.preds.take q).foldl (fun l q => thoseM q l) (kids0 s ats T.kids T.kids.length)) ∧ L2.length ≤ 4096 ∧ Below wo.heap.size wo wr) (fun _ i _ => s.preds.length - (intOf i).toNat)
        case atStart => exact ⟨0, L, Nat.zero_le _, rfl, HNR.out, HL.out, by omega, Below.refl _ _⟩
        case round =>
          obtain ⟨q, L2, hq, rfl, hnr2, hL2, hl2, hb2⟩ := hrel
          have hsi := hb2.size
          have HNR2 := Sp.hid hnr2
          have HL2 := Sp.hid hL2
          have HB2 := Sp.hid hb2
          obtain ⟨-, -, s2⟩ := HSC.out wr (HB.out.trans (hb2.mono HB.out.size))
          have hSi : w.heap.size + 1 < wr.heap.size := by omega
          by_cases hqlt : q < s.preds.length
          · obtain ⟨b2, o2, rfl, fb2, ⟨y1, y2, y3⟩, a1, a2, a3⟩ := pred_cells (HP2.out.below (fun j hj => by have := HF.out j hj; omega) hb2) q hqlt
            have hbl2 : b2 < wr.heap.size := World.block_lt_of_cell? _ _ a1
            have htk := List.take_succ_eq_append_getElem hqlt
            have hfx := HFP.out _ (List.getElem_mem hqlt)
            obtain ⟨x, hx⟩ : ∃ x, x = s.preds[q] := ⟨_, rfl⟩
            rw [← hx] at a1 a2 a3 htk hfx
            have HTK := Sp.hid htk
            have hrx : ∀ z ∈ L2, rises z.2.2.1.attrs = true := by
              intro z hz
              have hm : z.2 ∈ L2.map (·.2) := List.mem_map_of_mem hz
              rw [hL2] at hm
              unfold kidsG at hm
              obtain ⟨y, hy, he⟩ := List.mem_map.1 hm
              rw [← he]
              exact HRI.out _ (kids0_mem (fold_mem hy))
            have HTH := Sp.hid (stays_any m F w0.heap.size u5 L2 x wr hnr2 (fun b hb' => by have := HF.out b hb'; omega) (by omega) (by omega) hfx hrx)
            dsimp only [predV] at HTH
            obtain ⟨xa, xv, xp⟩ := x
            dsimp only at a1 a2 a3 HTH
            clear hx hnr2 hL2 hb2 htk y1 y2 y3 hfx hrx
            go_wp2_with fail
            refine HTH.out.mono ?_
            rintro e w5 ⟨v', rfl, hnr5, hb5⟩
            have hb5' : Below wo.heap.size wo w5 := HB2.out.trans (hb5.mono hsi)
            have hmap5 : (thoseL ⟨xa, xv, xp⟩ (fun x : List Value × RX => x.2.2.1) L2 L2.length).map (·.2) = kidsG ((s.preds.take (q + 1)).foldl (fun l q => thoseM q l) (kids0 s ats T.kids T.kids.length)) := by
              rw [HTK.out, List.foldl_append]
              have := thoseL_map ⟨xa, xv, xp⟩ (fun x : RX => x.2.1) (fun x : List Value × RX => x.2) L2 L2.length
              rw [this, HL2.out, kidsG_those]
              have hle := congrArg List.length HL2.out
              unfold kidsG at hle
              rw [List.length_map, List.length_map] at hle
              simp only [List.foldl_cons, List.foldl_nil, thoseM, hle]
            have hl5 : (thoseL ⟨xa, xv, xp⟩ (fun x : List Value × RX => x.2.2.1) L2 L2.length).length ≤ 4096 := Nat.le_trans (thoseL_length _ _ _ _) hl2
            have HNR5 := Sp.hid hnr5
            have HB5 := Sp.hid hb5'
            have HM5 := Sp.hid hmap5
            have HL5 := Sp.hid hl5
            clear hnr5 hb5 hb5' hmap5 hl5
            go_wp2
            go_roundw
            case rel => first | exact ⟨q + 1, _, by omega, by go_num, HNR5.out, HM5.out, HL5.out, HB5.out⟩ | ((repeat apply Exists.intro); refine ⟨⟨q + 1, _, by omega, by go_num, HNR5.out, HM5.out, HL5.out, HB5.out⟩, ?_⟩; rw [show ((q + 1 : Nat) : Int) = (q : Int) + 1 from rfl])
            case measure => simp [intOf]; omega
          · obtain rfl : q = s.preds.length := by omega
            clear hnr2 hL2 hb2
            go_wp2
            go_ret
            refine ⟨_, L2, rfl, HNR2.out.le (by omega), ?_, HBW.out.trans (HB2.out.mono (by omega))⟩
            rw [HL2.out, List.take_length, HGM.out]
            rfl
  · have HGM := Sp.hid (show goesM s (ats, T, xn) = attrsG s (ats, T, xn) T.attrs.length by unfold goesM attrsG; rw [← HISA.out, if_pos rfl, List.take_length])
    go_enter Tryz.func32, Tryz.ntmps32
    go_wp2
    rw [← HW0.out]
    clear s0
    go_loopw [5, 6] (fun v i wr => ∃ (k : Nat) (L : List (List Value × RX)), k ≤ T.attrs.length ∧ i = .int .i64 k ∧ HitsR m F w0.heap.size wr v L ∧ L.map (·.2) = attrsG s (ats, T, xn) k ∧ Below w0.heap.size w0 wr) (fun _ i _ => T.attrs.length - (intOf i).toNat)
    case atStart => exact ⟨0, [], Nat.zero_le _, rfl, HitsR.nil _ _ _ _, rfl, Below.refl _ _⟩
    case round =>
      obtain ⟨k, L, hk, rfl, hnr, hL, hb⟩ := hrel
      have hsw := hb.size
      have HNR := Sp.hid hnr
      have HL := Sp.hid hL
      have HB := Sp.hid hb
      have hbw : Below w.heap.size w wr := HB0.out.trans (hb.mono (by omega))
      have HBW := Sp.hid hbw
      have hll : L.length ≤ k := by have := congrArg List.length hL; rw [List.length_map] at this; rw [this]; exact attrsG_length _ _ _
      obtain ⟨vo, rfl⟩ : ∃ vo : Value, vo = u5 := ⟨_, rfl⟩
      obtain ⟨-, -, -, x3, -, -⟩ := HXC.out wr hb
      have hXr : w.heap.size < wr.heap.size := by omega
      have hSr : w.heap.size + 1 < wr.heap.size := by omega
      by_cases hlt : k < T.attrs.length
      · obtain ⟨b2, o2, rfl, fb2, -, -, e1, e2⟩ := attr_cells (HT.out.below HF.out hbw) k hlt
        have hb2 : b2 < wr.heap.size := World.block_lt_of_cell? _ _ e1
        have hb2w := HF.out _ fb2
        have hnext := attrsG_next s (ats, T, xn) hlt
        dsimp only at hnext
        obtain ⟨y, hy⟩ : ∃ y, y = T.attrs[k] := ⟨_, rfl⟩
        rw [← hy] at e1 e2 hnext
        have HNX := Sp.hid hnext
        have HC := Sp.hid (fun W (hG : Below wr.heap.size wr W) => And.intro (HSC.out W (hb.trans (hG.mono hsw))) (And.intro (HXC.out W (hb.trans (hG.mono hsw))) ((hG.cell (p := ⟨b2, o2 + k * 2, none⟩) hb2).trans e1)))
        obtain ⟨ff, hff⟩ : ∃ ff, fitsB s y.1 = ff := ⟨_, rfl⟩
        have HFF := Sp.hid hff
        unfold fitsB at hff
        clear hnr hL hb hbw hnext hy fb2 e1 e2
        go_wp2
        clear x3
        cases h1 : (s.name.toList == [42])
        · rw [h1, Bool.false_or] at hff
          cases h2 : (s.name.toList == y.1.toList)
          · rw [h2] at hff
            subst hff
            refine Sp.wp_region_read (by kernel_rfl) [some 21, some 22, some 23, some 24, some 25, some 26, some 27, some 28, some 29, some 30, some 31, some 32, some 33, some 34, some 35] [?r5v0, ?r5v1, ?r5v2, ?r5v3, ?r5v4, ?r5v5, ?r5v6, ?r5v7, ?r5v8, ?r5v9, ?r5v10, ?r5v11, ?r5v12, ?r5v13, ?r5v14] rfl (by kernel_rfl) (by kernel_rfl) (by kernel_rfl) ?r5fr ?r5hfr ?r5step ?r5fin
            case r5hfr => intro u; simp only [Sp.fillFrom, Sp.idx_cons, Sp.idx_nil, Option.some.injEq, reduceCtorEq, reduceIte, Nat.reduceEqDiff, Nat.reduceAdd, Option.map_some, Option.map_none]; exact rfl
            case r5step =>
              refine ⟨?_, ?_, ?_, ?_, ?_, ?_, ?_, ?_, ?_, ?_, ?_, ?_, ?_, ?_, ?_, trivial⟩
              all_goals
                intro u w1 hG hD; simp only [Sp.DepsHold, List.map_cons, List.map_nil, Sp.isV, Sp.any_text, Sp.any_gc, Bool.false_eq_true, false_implies, Sp.factAt, Region.binds, List.getElem?_cons_zero, List.getElem?_cons_succ, List.getElem?_nil, Option.getD_some, Option.getD_none, and_true, true_and, true_implies, implies_true] at hD; dsimp only
                obtain ⟨⟨-, s1, -⟩, ⟨-, -, -, x3, -, -⟩, e1⟩ := HC.out w1 hG
                clear hG
                repeat (obtain ⟨hE, hD⟩ := hD; (try rw [hE]); clear hE)
                try rw [hD]
                try clear hD
                go_wp2_with (fail)
                (with_reducible apply Sp.rd_close); (first | exact HB2.out | exact Below.refl _ _); exact rfl; refine Sp.isV_at ?_; exact rfl
            case r5fin => 
              intro w' hG; simp only [List.getElem?_cons_zero, List.getElem?_cons_succ, Option.getD_some]
              have HG := Sp.hid hG
              clear hG
              have hnx := HNX.out
              rw [HFF.out] at hnx
              simp only [Bool.false_eq_true, if_false, List.append_nil] at hnx
              have HNX2 := Sp.hid hnx
              clear hnx
              go_wp2
              go_roundw
              case rel => exact ⟨k + 1, L, by omega, by go_num, HNR.out.keep (fun b hb => by have := HF.out b hb; omega) HG.out, by rw [HNX2.out]; exact HL.out, HB.out.trans (HG.out.mono hsw)⟩
              case measure => simp [intOf]; omega
          · rw [h2] at hff
            subst hff
            refine Sp.wp_region_read (by kernel_rfl) [some 21, some 22, some 23, some 24, some 25, some 26, some 27, some 28, some 29, some 30, some 31, some 32, some 33, some 34, some 35] [?r6v0, ?r6v1, ?r6v2, ?r6v3, ?r6v4, ?r6v5, ?r6v6, ?r6v7, ?r6v8, ?r6v9, ?r6v10, ?r6v11, ?r6v12, ?r6v13, ?r6v14] rfl (by kernel_rfl) (by kernel_rfl) (by kernel_rfl) ?r6fr ?r6hfr ?r6step ?r6fin
            case r6hfr => intro u; simp only [Sp.fillFrom, Sp.idx_cons, Sp.idx_nil, Option.some.injEq, reduceCtorEq, reduceIte, Nat.reduceEqDiff, Nat.reduceAdd, Option.map_some, Option.map_none]; exact rfl
            case r6step =>
              refine ⟨?_, ?_, ?_, ?_, ?_, ?_, ?_, ?_, ?_, ?_, ?_, ?_, ?_, ?_, ?_, trivial⟩
              all_goals
                intro u w1 hG hD; simp only [Sp.DepsHold, List.map_cons, List.map_nil, Sp.isV, Sp.any_text, Sp.any_gc, Bool.false_eq_true, false_implies, Sp.factAt, Region.binds, List.getElem?_cons_zero, List.getElem?_cons_succ, List.getElem?_nil, Option.getD_some, Option.getD_none, and_true, true_and, true_implies, implies_true] at hD; dsimp only
                obtain ⟨⟨-, s1, -⟩, ⟨-, -, -, x3, -, -⟩, e1⟩ := HC.out w1 hG
                clear hG
                repeat (obtain ⟨hE, hD⟩ := hD; (try rw [hE]); clear hE)
                try rw [hD]
                try clear hD
                go_wp2_with (fail)
                (with_reducible apply Sp.rd_close); (first | exact HB2.out | exact Below.refl _ _); exact rfl; refine Sp.isV_at ?_; exact rfl
            case r6fin => 
              intro w' hG; simp only [List.getElem?_cons_zero, List.getElem?_cons_succ, Option.getD_some]
              have hnx := HNX.out
              rw [HFF.out] at hnx
              simp only [if_true] at hnx
              have HNX2 := Sp.hid hnx
              clear hnx
              obtain ⟨wq, rfl⟩ : ∃ wq, wq = w' := ⟨_, rfl⟩
              obtain ⟨-, ⟨d0, d1, d2, d3, d4, -⟩, d5⟩ := HC.out wq hG
              have hnq := HNR.out.keep (fun b hb => by have := HF.out b hb; omega) hG
              have hbq : Below w.heap.size w wq := HBW.out.trans (hG.mono HBW.out.size)
              have hb0q : Below w0.heap.size w0 wq := HB.out.trans (hG.mono hsw)
              have hsq := hG.size
              have HNQ := Sp.hid hnq
              have HREQ := Sp.hid ((rhitS m).mono (HREP.out wq hbq y.1) (fun b hb' => (Or.inl hb' : F b ∨ Rest w0.heap.size wq vo b)))
              have HB0Q := Sp.hid hb0q
              have HDS := Sp.hid (And.intro d0 (And.intro d1 (And.intro d2 (And.intro d3 (And.intro d4 d5)))))
              clear hG hnq hbq hb0q d0 d1 d2 d3 d4 d5
              go_wp2
              refine wp_region_two_own (by kernel_rfl) [some 36, some 37, some 38, some 39, some 40, some 41, some 42, some 43, some 44, some 45, some 46, some 47, some 48, some 49, some 50, none]
                [fun v _ => v = vo, fun v _ => v = .pointer (some ⟨w.heap.size, 0, none⟩), fun v _ => v = .slice a ats.length c, fun v _ => v = .pointer (some ⟨w.heap.size, 1, none⟩), fun v _ => v = .agg #[.string T.label, .string T.text, .slice (some ⟨b2, o2, none⟩) T.attrs.length ca, .slice ka T.kids.length ck],
                  fun v _ => v = .pointer (some ⟨w.heap.size, 1, none⟩), fun v _ => v = .pointer (some ⟨w.heap.size, 3, none⟩), fun v _ => v = .slice (some ⟨b2, o2, none⟩) T.attrs.length ca, fun v _ => v = .int .i64 (k : Nat), fun v _ => v = .pointer (some ⟨b2, o2 + k * 2, none⟩), fun v _ => v = .pointer (some ⟨b2, o2 + k * 2, none⟩), fun v _ => v = .string y.1,
                  fun v _ => v = .agg #[.slice a ats.length c, .string T.label, .string T.text, .slice (some ⟨b2, o2, none⟩) T.attrs.length ca, .slice ka T.kids.length ck, .string y.1],
                  fun v Y => ∃ z, v = .slice (some ⟨z, 0, none⟩) 1 1 ∧ wq.heap.size ≤ z ∧ Y.heap[z]? = some (.cells #[.slice a ats.length c, .string T.label, .string T.text, .slice (some ⟨b2, o2, none⟩) T.attrs.length ca, .slice ka T.kids.length ck, .string y.1] 55 (0, 0)),
                  fun v Y => Y.ownsRow w0.heap.size 55 6 v (L.length + 1) (L.flatMap (·.1) ++ [.slice a ats.length c, .string T.label, .string T.text, .slice (some ⟨b2, o2, none⟩) T.attrs.length ca, .slice ka T.kids.length ck, .string y.1]) ∧ (v.ownBlock = vo.ownBlock ∨ ∃ g, v.ownBlock = some g ∧ wq.heap.size ≤ g)]
                14 [13, 12, 11, 10, 9, 8, 7, 6, 5, 4, 3, 2, 1, 0]
                (fun b Y => wq.grownBy Y (if b then vo.ownBlock else none)) (fun i Y Y' => Y.grownBy Y' (if i = 14 then vo.ownBlock else none)) rfl (by kernel_rfl) (by kernel_rfl) (by kernel_rfl) (by kernel_rfl) (by kernel_rfl) ?frz3 ?hfrz3 ?G0z3 ?GRz3 ?FRz3 ?stepz3 _ rfl ?finz3
              case hfrz3 => intro u; simp only [Sp.fillFrom, Sp.idx_cons, Sp.idx_nil, Option.some.injEq, reduceCtorEq, reduceIte, Nat.reduceEqDiff, Nat.reduceAdd, Option.map_some, Option.map_none]; exact rfl
              case G0z3 => exact ⟨rfl, rfl, rfl, Nat.le_refl _, fun _ _ _ => rfl⟩
              case GRz3 =>
                intro i b y1 y2 hG hR
                cases b
                · by_cases hi : i = 14
                  · simp only [hi, if_true] at hR ⊢; exact grown_trans (grown_weak hG) hR
                  · simp only [if_neg hi] at hR; simp only [hi, decide_false, Bool.or_false]; exact grown_trans hG hR
                · simp only [if_true, Bool.true_or] at hG ⊢
                  by_cases hi : i = 14
                  · simp only [hi, if_true] at hR; exact grown_trans hG hR
                  · simp only [if_neg hi] at hR; exact grown_trans hG (grown_weak hR)
              case FRz3 =>
                iterate 13 (refine ⟨fun _ _ _ _ _ _ _ h => h, ?_⟩)
                refine ⟨?_, ?_, trivial⟩
                · rintro i hi v y1 y2 _ hR ⟨z, rfl, hz, hc⟩
                  refine ⟨z, rfl, hz, (hR.block z (Array.getElem?_eq_some_iff.1 hc).1 ?_).trans hc⟩
                  split
                  · intro e1
                    have := (HNQ.out.row.lt z e1.symm).2
                    omega
                  · simp
                · rintro i hi v y1 y2 _ hR ⟨hw, ho⟩
                  rw [if_neg hi] at hR
                  exact ⟨hw.kept hR (by cases v.ownBlock <;> simp), ho⟩
              case stepz3 =>
                refine ⟨?_, ?_, ?_, ?_, ?_, ?_, ?_, ?_, ?_, ?_, ?_, ?_, ?_, ?_, ?_, trivial⟩
                all_goals
                  intro u y1 b hbb hG hD
                  simp only [Sp.DepsHold, Sp.factAt, Region.binds, List.getElem?_cons_zero, List.getElem?_cons_succ, Option.getD_some, and_true, true_implies] at hD
                  dsimp only
                iterate 13
                  · obtain rfl : b = false := hbb (.inl (by simp))
                    obtain ⟨d0, d1, d2, d3, d4, d5⟩ := HDS.out
                    have q0 := hG.cell (a := ⟨w.heap.size, 0, none⟩) d0 (by simp)
                    have q1 := hG.cell (a := ⟨w.heap.size, 1, none⟩) d1 (by simp)
                    have q2 := hG.cell (a := ⟨w.heap.size, 2, none⟩) d2 (by simp)
                    have q3 := hG.cell (a := ⟨w.heap.size, 3, none⟩) d3 (by simp)
                    have q4 := hG.cell (a := ⟨w.heap.size, 4, none⟩) d4 (by simp)
                    have q5 := hG.cell (a := ⟨b2, o2 + k * 2, none⟩) d5 (by simp)
                    clear hG hbb d0 d1 d2 d3 d4 d5
                    repeat (obtain ⟨hE, hD⟩ := hD; (try rw [hE]); clear hE)
                    try rw [hD]
                    try clear hD
                    go_wp2
                    exact ⟨grown_refl _ _, _, rfl, rfl⟩
                · have hGs := hG.size
                  rw [hD]
                  clear hG hbb hD
                  go_wp2
                  exact ⟨World.grownBy_alloc _ _ _, _, rfl, _, rfl, hGs, World.alloc_heap_new _ _⟩
                · obtain rfl : b = false := hbb (.inr rfl)
                  obtain ⟨h1, z, h21, hz, hc⟩ := hD
                  have hGs := hG.size
                  have hrow1 := HNQ.out.row.kept hG (by cases vo.ownBlock <;> simp)
                  rw [h1, h21]
                  refine wpList_append_own_at _ rfl _ _ 48 rfl w0.heap.size 55 i0 _ 6 120 Tryz.underlying48 hi0 hz0 hz1 hz2 rfl (by decide) _ _ _ rfl hrow1 ⟨z, 0, none⟩ 1 1 [.slice a ats.length c, .string T.label, .string T.text, .slice (some ⟨b2, o2, none⟩) T.attrs.length ca, .slice ka T.kids.length ck, .string y.1] rfl rfl ?_ ?_ (by unfold maxLen; omega) (by omega) (by omega) ?_
                  · intro j u hj
                    have hadd : (⟨z, 0, none⟩ : Addr).add j = ⟨z, j, none⟩ := by unfold Addr.add; split <;> simp_all
                    rw [hadd, cell_at hc]
                    simpa using hj
                  · intro u hu; simp at hu; rcases hu with rfl | rfl | rfl | rfl | rfl | rfl <;> rfl
                  intro v' y2 hown' hgrow _ r4
                  refine wpList_nil ?_
                  exact ⟨hgrow, v', rfl, hown', r4.imp id fun h => ⟨_, h, hGs⟩⟩
              case finz3 =>
                intro u y1 b hG hF
                simp only [Sp.AllF, and_true] at hF; (try dsimp only); generalize u 0 = u0 at *; generalize u 1 = u1 at *; generalize u 2 = u2 at *; generalize u 3 = u3 at *; generalize u 4 = u4 at *; generalize u 5 = u5 at *; generalize u 6 = u6 at *; generalize u 7 = u7 at *; generalize u 8 = u8 at *; generalize u 9 = u9 at *; generalize u 10 = u10 at *; generalize u 11 = u11 at *; generalize u 12 = u12 at *; generalize u 13 = u13 at *; generalize u 14 = u14 at *; clear u
                obtain ⟨-, -, -, -, -, -, -, -, -, -, -, -, -, -, hown, hob⟩ := hF
                have hg1 : wq.grownBy y1 vo.ownBlock := by cases b; exact grown_weak hG; exact hG
                have hnew := HNQ.out.more (M := [([.slice a ats.length c, .string T.label, .string T.text, .slice (some ⟨b2, o2, none⟩) T.attrs.length ca, .slice ka T.kids.length ck, .string y.1], (ats, T, y.1))]) (fun b hb' => ⟨by have := HF.out b hb'; omega, fun g hg' => by have := (HNQ.out.row.lt g hg').1; have := HF.out b hb'; omega⟩) (by simpa using hown) hg1 hob (fun x hx => by
                  rw [List.mem_singleton] at hx
                  subst hx
                  exact HREQ.out)
                have HNEW := Sp.hid hnew
                have HBN := Sp.hid (HB0Q.out.grown hg1 (by omega) (fun g hg => (HNQ.out.row.lt g hg).1))
                clear hG hown hg1 hob hnew
                go_wp2
                dsimp only [StepPost, normally]
                go_wp2
                go_roundw
                case rel => exact ⟨k + 1, _, by omega, by go_num, HNEW.out, by rw [HNX2.out, List.map_append, HL.out]; rfl, HBN.out⟩
                case measure => simp [intOf]; omega
        · rw [h1, Bool.true_or] at hff
          subst hff
          refine Sp.wp_region_read (by kernel_rfl) [some 21, some 22, some 23, some 24, some 25, some 26, some 27, some 28, some 29, some 30, some 31, some 32, some 33, some 34, some 35] [?r7v0, ?r7v1, ?r7v2, ?r7v3, ?r7v4, ?r7v5, ?r7v6, ?r7v7, ?r7v8, ?r7v9, ?r7v10, ?r7v11, ?r7v12, ?r7v13, ?r7v14] rfl (by kernel_rfl) (by kernel_rfl) (by kernel_rfl) ?r7fr ?r7hfr ?r7step ?r7fin
          case r7hfr => intro u; simp only [Sp.fillFrom, Sp.idx_cons, Sp.idx_nil, Option.some.injEq, reduceCtorEq, reduceIte, Nat.reduceEqDiff, Nat.reduceAdd, Option.map_some, Option.map_none]; exact rfl
          case r7step =>
            refine ⟨?_, ?_, ?_, ?_, ?_, ?_, ?_, ?_, ?_, ?_, ?_, ?_, ?_, ?_, ?_, trivial⟩
            all_goals
              intro u w1 hG hD; simp only [Sp.DepsHold, List.map_cons, List.map_nil, Sp.isV, Sp.any_text, Sp.any_gc, Bool.false_eq_true, false_implies, Sp.factAt, Region.binds, List.getElem?_cons_zero, List.getElem?_cons_succ, List.getElem?_nil, Option.getD_some, Option.getD_none, and_true, true_and, true_implies, implies_true] at hD; dsimp only
              obtain ⟨⟨-, s1, -⟩, ⟨-, -, -, x3, -, -⟩, e1⟩ := HC.out w1 hG
              clear hG
              repeat (obtain ⟨hE, hD⟩ := hD; (try rw [hE]); clear hE)
              try rw [hD]
              try clear hD
              go_wp2_with (fail)
              (with_reducible apply Sp.rd_close); (first | exact HB2.out | exact Below.refl _ _); exact rfl; refine Sp.isV_at ?_; exact rfl
          case r7fin => 
            intro w' hG; simp only [List.getElem?_cons_zero, List.getElem?_cons_succ, Option.getD_some]
            have hnx := HNX.out
            rw [HFF.out] at hnx
            simp only [if_true] at hnx
            have HNX2 := Sp.hid hnx
            clear hnx
            obtain ⟨wq, rfl⟩ : ∃ wq, wq = w' := ⟨_, rfl⟩
            obtain ⟨-, ⟨d0, d1, d2, d3, d4, -⟩, d5⟩ := HC.out wq hG
            have hnq := HNR.out.keep (fun b hb => by have := HF.out b hb; omega) hG
            have hbq : Below w.heap.size w wq := HBW.out.trans (hG.mono HBW.out.size)
            have hb0q : Below w0.heap.size w0 wq := HB.out.trans (hG.mono hsw)
            have hsq := hG.size
            have HNQ := Sp.hid hnq
            have HREQ := Sp.hid ((rhitS m).mono (HREP.out wq hbq y.1) (fun b hb' => (Or.inl hb' : F b ∨ Rest w0.heap.size wq vo b)))
            have HB0Q := Sp.hid hb0q
            have HDS := Sp.hid (And.intro d0 (And.intro d1 (And.intro d2 (And.intro d3 (And.intro d4 d5)))))
            clear hG hnq hbq hb0q d0 d1 d2 d3 d4 d5
            go_wp2
            refine wp_region_two_own (by kernel_rfl) [some 36, some 37, some 38, some 39, some 40, some 41, some 42, some 43, some 44, some 45, some 46, some 47, some 48, some 49, some 50, none]
              [fun v _ => v = vo, fun v _ => v = .pointer (some ⟨w.heap.size, 0, none⟩), fun v _ => v = .slice a ats.length c, fun v _ => v = .pointer (some ⟨w.heap.size, 1, none⟩), fun v _ => v = .agg #[.string T.label, .string T.text, .slice (some ⟨b2, o2, none⟩) T.attrs.length ca, .slice ka T.kids.length ck],
                fun v _ => v = .pointer (some ⟨w.heap.size, 1, none⟩), fun v _ => v = .pointer (some ⟨w.heap.size, 3, none⟩), fun v _ => v = .slice (some ⟨b2, o2, none⟩) T.attrs.length ca, fun v _ => v = .int .i64 (k : Nat), fun v _ => v = .pointer (some ⟨b2, o2 + k * 2, none⟩), fun v _ => v = .pointer (some ⟨b2, o2 + k * 2, none⟩), fun v _ => v = .string y.1,
                fun v _ => v = .agg #[.slice a ats.length c, .string T.label, .string T.text, .slice (some ⟨b2, o2, none⟩) T.attrs.length ca, .slice ka T.kids.length ck, .string y.1],
                fun v Y => ∃ z, v = .slice (some ⟨z, 0, none⟩) 1 1 ∧ wq.heap.size ≤ z ∧ Y.heap[z]? = some (.cells #[.slice a ats.length c, .string T.label, .string T.text, .slice (some ⟨b2, o2, none⟩) T.attrs.length ca, .slice ka T.kids.length ck, .string y.1] 55 (0, 0)),
                fun v Y => Y.ownsRow w0.heap.size 55 6 v (L.length + 1) (L.flatMap (·.1) ++ [.slice a ats.length c, .string T.label, .string T.text, .slice (some ⟨b2, o2, none⟩) T.attrs.length ca, .slice ka T.kids.length ck, .string y.1]) ∧ (v.ownBlock = vo.ownBlock ∨ ∃ g, v.ownBlock = some g ∧ wq.heap.size ≤ g)]
              14 [13, 12, 11, 10, 9, 8, 7, 6, 5, 4, 3, 2, 1, 0]
              (fun b Y => wq.grownBy Y (if b then vo.ownBlock else none)) (fun i Y Y' => Y.grownBy Y' (if i = 14 then vo.ownBlock else none)) rfl (by kernel_rfl) (by kernel_rfl) (by kernel_rfl) (by kernel_rfl) (by kernel_rfl) ?frz4 ?hfrz4 ?G0z4 ?GRz4 ?FRz4 ?stepz4 _ rfl ?finz4
            case hfrz4 => intro u; simp only [Sp.fillFrom, Sp.idx_cons, Sp.idx_nil, Option.some.injEq, reduceCtorEq, reduceIte, Nat.reduceEqDiff, Nat.reduceAdd, Option.map_some, Option.map_none]; exact rfl
            case G0z4 => exact ⟨rfl, rfl, rfl, Nat.le_refl _, fun _ _ _ => rfl⟩
            case GRz4 =>
              intro i b y1 y2 hG hR
              cases b
              · by_cases hi : i = 14
                · simp only [hi, if_true] at hR ⊢; exact grown_trans (grown_weak hG) hR
                · simp only [if_neg hi] at hR; simp only [hi, decide_false, Bool.or_false]; exact grown_trans hG hR
              · simp only [if_true, Bool.true_or] at hG ⊢
                by_cases hi : i = 14
                · simp only [hi, if_true] at hR; exact grown_trans hG hR
                · simp only [if_neg hi] at hR; exact grown_trans hG (grown_weak hR)
            case FRz4 =>
              iterate 13 (refine ⟨fun _ _ _ _ _ _ _ h => h, ?_⟩)
              refine ⟨?_, ?_, trivial⟩
              · rintro i hi v y1 y2 _ hR ⟨z, rfl, hz, hc⟩
                refine ⟨z, rfl, hz, (hR.block z (Array.getElem?_eq_some_iff.1 hc).1 ?_).trans hc⟩
                split
                · intro e1
                  have := (HNQ.out.row.lt z e1.symm).2
                  omega
                · simp
              · rintro i hi v y1 y2 _ hR ⟨hw, ho⟩
                rw [if_neg hi] at hR
                exact ⟨hw.kept hR (by cases v.ownBlock <;> simp), ho⟩
            case stepz4 =>
              refine ⟨?_, ?_, ?_, ?_, ?_, ?_, ?_, ?_, ?_, ?_, ?_, ?_, ?_, ?_, ?_, trivial⟩
              all_goals
                intro u y1 b hbb hG hD
                simp only [Sp.DepsHold, Sp.factAt, Region.binds, List.getElem?_cons_zero, List.getElem?_cons_succ, Option.getD_some, and_true, true_implies] at hD
                dsimp only
              iterate 13
                · obtain rfl : b = false := hbb (.inl (by simp))
                  obtain ⟨d0, d1, d2, d3, d4, d5⟩ := HDS.out
                  have q0 := hG.cell (a := ⟨w.heap.size, 0, none⟩) d0 (by simp)
                  have q1 := hG.cell (a := ⟨w.heap.size, 1, none⟩) d1 (by simp)
                  have q2 := hG.cell (a := ⟨w.heap.size, 2, none⟩) d2 (by simp)
                  have q3 := hG.cell (a := ⟨w.heap.size, 3, none⟩) d3 (by simp)
                  have q4 := hG.cell (a := ⟨w.heap.size, 4, none⟩) d4 (by simp)
                  have q5 := hG.cell (a := ⟨b2, o2 + k * 2, none⟩) d5 (by simp)
                  clear hG hbb d0 d1 d2 d3 d4 d5
                  repeat (obtain ⟨hE, hD⟩ := hD; (try rw [hE]); clear hE)
                  try rw [hD]
                  try clear hD
                  go_wp2
                  exact ⟨grown_refl _ _, _, rfl, rfl⟩
              · have hGs := hG.size
                rw [hD]
                clear hG hbb hD
                go_wp2
                exact ⟨World.grownBy_alloc _ _ _, _, rfl, _, rfl, hGs, World.alloc_heap_new _ _⟩
              · obtain rfl : b = false := hbb (.inr rfl)
                obtain ⟨h1, z, h21, hz, hc⟩ := hD
                have hGs := hG.size
                have hrow1 := HNQ.out.row.kept hG (by cases vo.ownBlock <;> simp)
                rw [h1, h21]
                refine wpList_append_own_at _ rfl _ _ 48 rfl w0.heap.size 55 i0 _ 6 120 Tryz.underlying48 hi0 hz0 hz1 hz2 rfl (by decide) _ _ _ rfl hrow1 ⟨z, 0, none⟩ 1 1 [.slice a ats.length c, .string T.label, .string T.text, .slice (some ⟨b2, o2, none⟩) T.attrs.length ca, .slice ka T.kids.length ck, .string y.1] rfl rfl ?_ ?_ (by unfold maxLen; omega) (by omega) (by omega) ?_
                · intro j u hj
                  have hadd : (⟨z, 0, none⟩ : Addr).add j = ⟨z, j, none⟩ := by unfold Addr.add; split <;> simp_all
                  rw [hadd, cell_at hc]
                  simpa using hj
                · intro u hu; simp at hu; rcases hu with rfl | rfl | rfl | rfl | rfl | rfl <;> rfl
                intro v' y2 hown' hgrow _ r4
                refine wpList_nil ?_
                exact ⟨hgrow, v', rfl, hown', r4.imp id fun h => ⟨_, h, hGs⟩⟩
            case finz4 =>
              intro u y1 b hG hF
              simp only [Sp.AllF, and_true] at hF; (try dsimp only); generalize u 0 = u0 at *; generalize u 1 = u1 at *; generalize u 2 = u2 at *; generalize u 3 = u3 at *; generalize u 4 = u4 at *; generalize u 5 = u5 at *; generalize u 6 = u6 at *; generalize u 7 = u7 at *; generalize u 8 = u8 at *; generalize u 9 = u9 at *; generalize u 10 = u10 at *; generalize u 11 = u11 at *; generalize u 12 = u12 at *; generalize u 13 = u13 at *; generalize u 14 = u14 at *; clear u
              obtain ⟨-, -, -, -, -, -, -, -, -, -, -, -, -, -, hown, hob⟩ := hF
              have hg1 : wq.grownBy y1 vo.ownBlock := by cases b; exact grown_weak hG; exact hG
              have hnew := HNQ.out.more (M := [([.slice a ats.length c, .string T.label, .string T.text, .slice (some ⟨b2, o2, none⟩) T.attrs.length ca, .slice ka T.kids.length ck, .string y.1], (ats, T, y.1))]) (fun b hb' => ⟨by have := HF.out b hb'; omega, fun g hg' => by have := (HNQ.out.row.lt g hg').1; have := HF.out b hb'; omega⟩) (by simpa using hown) hg1 hob (fun x hx => by
                rw [List.mem_singleton] at hx
                subst hx
                exact HREQ.out)
              have HNEW := Sp.hid hnew
              have HBN := Sp.hid (HB0Q.out.grown hg1 (by omega) (fun g hg => (HNQ.out.row.lt g hg).1))
              clear hG hown hg1 hob hnew
              go_wp2
              dsimp only [StepPost, normally]
              go_wp2
              go_roundw
              case rel => exact ⟨k + 1, _, by omega, by go_num, HNEW.out, by rw [HNX2.out, List.map_append, HL.out]; rfl, HBN.out⟩
              case measure => simp [intOf]; omega
      · obtain rfl : k = T.attrs.length := by omega
        clear hnr hL hb hbw
        go_wp2
        go_ret
        exact ⟨_, L, rfl, HNR.out.le (by omega), by rw [HL.out, HGM.out], HBW.out⟩

end Go.Proofs.YtoknglpfchjbjaaGreatDoor
