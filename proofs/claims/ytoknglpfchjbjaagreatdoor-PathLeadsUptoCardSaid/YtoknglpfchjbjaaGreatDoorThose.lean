/- path.those: the nodes that a predicate lets stay. Conditions: fewer than 2^16 nodes. -/
import Derived.Test.YtoknglpfchjbjaaGreatDoorNode
import Derived.Shelf.Abstract
namespace Go.Proofs.YtoknglpfchjbjaaGreatDoor
open Go.RowKit Go.Sp Go.Maps

/-- Those that stay, of the first k. -/
def thoseL {β : Type} (q : PredM) (f : β → TT) (L : List β) (k : Nat) : List β := (List.range k).filterMap fun i : Nat => (L[i]?).bind fun x => if asks q ((i : Int) + 1) (f x) then some x else none
theorem thoseL_succ {β : Type} (q : PredM) (f : β → TT) (L : List β) (k : Nat) (h : k < L.length) : thoseL q f L (k + 1) = thoseL q f L k ++ (if asks q ((k : Int) + 1) (f L[k]) then [L[k]] else []) := by
  unfold thoseL
  rw [List.range_succ, List.filterMap_append]
  congr 1
  simp only [List.filterMap_cons, List.filterMap_nil, List.getElem?_eq_getElem h, Option.bind_some]
  cases asks q ((k : Int) + 1) (f L[k]) <;> rfl
theorem thoseL_length {β : Type} (q : PredM) (f : β → TT) (L : List β) (k : Nat) : (thoseL q f L k).length ≤ k := by
  have := List.length_filterMap_le (fun i : Nat => (L[i]?).bind fun x => if asks q (((i : Nat) : Int) + 1) (f x) then some x else none) (List.range k)
  simpa [thoseL] using this
theorem thoseL_mem {β : Type} {q : PredM} {f : β → TT} {L : List β} {k : Nat} {x : β} (h : x ∈ thoseL q f L k) : x ∈ L := by
  unfold thoseL at h
  obtain ⟨i, _, hi⟩ := List.mem_filterMap.1 h
  cases hL : L[i]? with
  | none => rw [hL] at hi; cases hi
  | some y =>
    rw [hL, Option.bind_some] at hi
    split at hi
    · cases hi; exact List.mem_of_getElem? hL
    · cases hi
theorem thoseL_map {β γ : Type} (q : PredM) (f : γ → TT) (g : β → γ) (L : List β) (k : Nat) : (thoseL q (fun x => f (g x)) L k).map g = thoseL q f (L.map g) k := by
  unfold thoseL
  rw [List.map_filterMap]
  congr 1
  funext i
  rw [List.getElem?_map]
  cases L[i]? with
  | none => rfl
  | some x =>
    simp only [Option.bind_some, Option.map_some]
    split <;> rfl
/-- Those that stay. -/
def thoseM (q : PredM) (l : List NX) : List NX := thoseL q (·.2) l l.length

theorem asks_eta (q : PredM) (p : Int) (T : TT) : asks q p (.mk T.label T.text T.attrs T.kids) = asks q p T := by cases T; rfl

theorem infoNode : (Tryz.prog.info? 117).map (fun i => (i.zero, i.size, i.bytes)) = some (some (.agg #[.slice none 0 0, .string ⟨#[]⟩, .string ⟨#[]⟩, .slice none 0 0, .slice none 0 0]), 5, 104) := by kernel_rfl

theorem news5 (w : World) (a b c d e : Value) (t : TypeId) : ∀ j u, [a, b, c, d, e][j]? = some u → (w.alloc (.cells #[a, b, c, d, e] t)).cell? ((⟨w.heap.size, 0, none⟩ : Addr).add j) = some u := by
  intro j u hj
  have hadd : (⟨w.heap.size, 0, none⟩ : Addr).add j = ⟨w.heap.size, j, none⟩ := by unfold Addr.add; split <;> simp_all
  rw [hadd, World.cell?_alloc_new]
  simpa using hj

set_option maxRecDepth 100000 in
set_option maxHeartbeats 8000000 in
theorem those_any (n : Nat) (F : Nat → Prop) (base : Nat) (v0 : Value) (L : List (List Value × NX)) (q : PredM) (w : World) (h : NodesRow n F base w v0 L) (hF : ∀ b, F b → b < base) (hbase : base ≤ w.heap.size) (hlen : L.length ≤ 65536) :
    Calls Tryz.prog 90 #[v0, .func (.func (askF q)) #[predV q] #[]] w fun e w' => ∃ v', e = .returned v' ∧ NodesRow n F base w' v' (thoseL q (·.2.2) L L.length) ∧ Below w.heap.size w w' := by
  obtain ⟨i0, hi0, hz0, hz1, hz2⟩ := info_parts infoNode
  have hent : ∀ args W, (callFunc (askF q) args).run Tryz.prog W = .ok (.enter (askF q) args) W := by
    unfold askF
    split
    · exact enters_of Tryz.func107 (by kernel_rfl) rfl
    · exact enters_of Tryz.func106 (by kernel_rfl) rfl
  obtain ⟨a0, c0, hv0⟩ : ∃ a0 c0, v0 = .slice a0 L.length c0 := by
    rcases Joins.ownsRow_forms h.row with ⟨hv, hk0⟩ | ⟨g1, cap1, hv⟩
    · exact ⟨_, _, by rw [hk0]; exact hv⟩
    · exact ⟨_, _, hv⟩
  have HH := Sp.hid h
  have HAS := Sp.hid (fun place l t aa ka xs ca nk ck kids (W : World) h1 h2 h3 => asks_any (fun b => b < W.heap.size) q place l t aa ka xs ca nk ck kids W h1 h2 h3)
  obtain ⟨ff, hff⟩ : ∃ ff, ff = askF q := ⟨_, rfl⟩
  rw [← hff] at hent HAS ⊢
  have HV0 := Sp.hid hv0
  rw [hv0]
  clear h hff hv0
  dsimp only [predV] at HAS ⊢
  go_enter Tryz.func90, Tryz.ntmps90
  go_wp2
  go_loopw [5, 10] (fun v i wr => ∃ k : Nat, k ≤ L.length ∧ i = .int .i64 k ∧ wr.ownsRow w.heap.size 117 5 v (thoseL q (·.2.2) L k).length ((thoseL q (·.2.2) L k).flatMap (·.1)) ∧ Below w.heap.size w wr) (fun _ i _ => L.length - (intOf i).toNat)
  case atStart => exact ⟨0, Nat.zero_le _, rfl, World.ownsRow_nil _ _ _ _, Below.refl _ _⟩
  case round =>
    obtain ⟨k, hk, rfl, hown, hb⟩ := hrel
    have hsw := hb.size
    have hnl := thoseL_length q (fun x : List Value × NX => x.2.2) L k
    by_cases hlt : k < L.length
    · obtain ⟨g, cg, hg⟩ := Joins.ownsRow_form HH.out.row (by omega : 0 < L.length)
      have hvg := HV0.out.symm.trans hg
      simp only [Value.slice.injEq, true_and] at hvg
      obtain ⟨rfl, rfl⟩ := hvg
      have hgl : g < w.heap.size := (HH.out.row.lt g (by rw [hg]; rfl)).2
      have hrowg := HH.out.row
      rw [hg] at hrowg
      have hel := HH.out.els L[k] (List.getElem_mem hlt)
      have hlen5 : ∀ x ∈ L, x.1.length = 5 := fun x hx => (nodeS n).len (HH.out.els x hx)
      have hcell : ∀ j, j < 5 → wr.cell? ⟨g, k * 5 + j, none⟩ = (L[k].1)[j]? := fun j hj => by
        rw [hb.cell (p := ⟨g, k * 5 + j, none⟩) hgl, hrowg.cellAt _ (by omega), flat_at hlen5 k j hlt hj]
      have hnext := thoseL_succ q (fun x : List Value × NX => x.2.2) L k hlt
      obtain ⟨x, hx⟩ : ∃ x, x = L[k] := ⟨_, rfl⟩
      rw [← hx] at hel hcell hnext
      obtain ⟨xv, xat, xT⟩ := x
      dsimp only at hel hcell hnext
      obtain ⟨xa, xc, xaa, xca, xka, xck, rfl, hints, htree⟩ := node_parts hel
      dsimp only at hcell
      dsimp only at htree
      obtain ⟨⟨_, _, hal, _⟩, aa', ca', ka', ck', hvs, hat, hkd⟩ := treeS_parts htree
      simp only [List.cons.injEq, Value.slice.injEq, true_and, and_true] at hvs
      obtain ⟨⟨rfl, rfl⟩, rfl, rfl⟩ := hvs
      have c0 := hcell 0 (by decide)
      have c1 := hcell 1 (by decide)
      have c2 := hcell 2 (by decide)
      have c3 := hcell 3 (by decide)
      have c4 := hcell 4 (by decide)
      simp only [Nat.add_zero, List.getElem?_cons_zero, List.getElem?_cons_succ] at c0 c1 c2 c3 c4
      have hgr : g < wr.heap.size := by omega
      have HO := Sp.hid hown
      have HB := Sp.hid hb
      obtain ⟨w2, hw2⟩ : ∃ w2, w2 = wr.alloc (.cells #[.slice xa xat.length xc, .string xT.label, .string xT.text, .slice xaa xT.attrs.length xca, .slice xka xT.kids.length xck] 117) := ⟨_, rfl⟩
      have hb2 : Below wr.heap.size wr w2 := by rw [hw2]; exact (Below.refl _ _).alloc (Nat.le_refl _) _
      have hs2 : wr.heap.size + 1 ≤ w2.heap.size := by rw [hw2]; simp
      have hN2 : w2.heap[wr.heap.size]? = some (.cells #[.slice xa xat.length xc, .string xT.label, .string xT.text, .slice xaa xT.attrs.length xca, .slice xka xT.kids.length xck] 117 (0, 0)) := by rw [hw2]; exact heap_alloc_new _ _
      have hat2 : Sl attrS (fun b => b < w2.heap.size) w2 xaa xT.attrs := ((hat.frame (fun b hb' => (hb.trans (hb2.mono hsw)).block b (by
        rcases hb' with hb' | ⟨_, hb', _⟩
        · have := hF b hb'; omega
        · exact hb'.lt))).mono (fun b hb' => by
        rcases hb' with hb' | ⟨_, hb', _⟩
        · have := hF b hb'; omega
        · have := hb'.lt; omega))
      have HC := Sp.hid (HAS.out ((k : Int) + 1) xT.label xT.text xaa xka xT.attrs xca xT.kids.length xck xT.kids w2 hat2 (fun _ h => h) hal)
      rw [asks_eta] at HC
      obtain ⟨qq, hqq⟩ : ∃ qq, qq = asks q ((k : Int) + 1) xT := ⟨_, rfl⟩
      rw [← hqq] at HC hnext
      have HB2 := Sp.hid hb2
      have HN2 := Sp.hid hN2
      have HW2 := Sp.hid hw2
      have HNX := Sp.hid hnext
      clear hcell hown hb hb2 hN2 hw2 hnext hel hints htree hat hat2 hkd hqq hx hg hrowg hlen5
      go_wp2_with fail
      rw [← HW2.out]
      refine HC.out.mono ?_
      rintro e w3 ⟨rfl, hb3⟩
      have hs3 := hb3.size
      have hN3 : w3.heap[wr.heap.size]? = some (.cells #[.slice xa xat.length xc, .string xT.label, .string xT.text, .slice xaa xT.attrs.length xca, .slice xka xT.kids.length xck] 117 (0, 0)) := (hb3.block _ (by omega)).trans HN2.out
      have n0 : w3.cell? ⟨wr.heap.size, 0, none⟩ = some (.slice xa xat.length xc) := by simp [World.cell?, hN3]
      have n1 : w3.cell? ⟨wr.heap.size, 1, none⟩ = some (.string xT.label) := by simp [World.cell?, hN3]
      have n2 : w3.cell? ⟨wr.heap.size, 2, none⟩ = some (.string xT.text) := by simp [World.cell?, hN3]
      have n3 : w3.cell? ⟨wr.heap.size, 3, none⟩ = some (.slice xaa xT.attrs.length xca) := by simp [World.cell?, hN3]
      have n4 : w3.cell? ⟨wr.heap.size, 4, none⟩ = some (.slice xka xT.kids.length xck) := by simp [World.cell?, hN3]
      have hwl : wr.heap.size < w3.heap.size := by omega
      have HB3 := Sp.hid (HB2.out.trans (hb3.mono (by omega)) : Below wr.heap.size wr w3)
      have HO3 := Sp.hid (own_same HO.out (fun j hj => HB3.out.block j (HO.out.lt j hj).2))
      clear hb3 hN3 c0 c1 c2 c3 c4
      cases qq
      · have hnx := HNX.out
        simp only [Bool.false_eq_true, if_false, List.append_nil] at hnx
        have HNX2 := Sp.hid hnx
        clear hnx
        go_wp2
        go_roundw
        case rel => exact ⟨k + 1, by omega, by go_num, by rw [HNX2.out]; exact HO3.out, HB.out.trans (HB3.out.mono hsw)⟩
        case measure => simp [intOf]; omega
      · have hnx := HNX.out
        simp only [if_true] at hnx
        have HNX2 := Sp.hid hnx
        clear hnx
        go_wp2_with (at_builtin; refine wpList_append_own_at _ rfl _ _ 141 rfl w.heap.size 117 i0 _ 5 104 Tryz.underlying141 hi0 hz0 hz1 hz2 rfl (by decide) _ _ _ rfl (HO3.out.alloc _) ⟨w3.heap.size, 0, none⟩ 1 1 [.slice xa xat.length xc, .string xT.label, .string xT.text, .slice xaa xT.attrs.length xca, .slice xka xT.kids.length xck] rfl rfl ?c1 ?c2 ?c3 ?c4 ?c5 ?c6)
        case c1 => exact news5 _ _ _ _ _ _ _
        case c2 => intro u hu; simp at hu; rcases hu with rfl | rfl | rfl | rfl | rfl <;> rfl
        case c3 => unfold maxLen; omega
        case c4 => omega
        case c5 => simp; omega
        case c6 =>
          intro v' w4 hown' hgrow _ _
          have hb4 : Below w.heap.size w w4 := ((HB.out.trans (HB3.out.mono hsw)).alloc (by omega) _).grown hgrow (by simp; omega) (fun j hj => (HO.out.lt j hj).1)
          have hown2 : w4.ownsRow w.heap.size 117 5 v' (thoseL q (fun x : List Value × NX => x.2.2) L (k + 1)).length ((thoseL q (fun x : List Value × NX => x.2.2) L (k + 1)).flatMap (·.1)) := by
            rw [HNX2.out, List.length_append, List.flatMap_append]; simpa using hown'
          have HO4 := Sp.hid hown2
          have HB4 := Sp.hid hb4
          clear hown' hgrow hb4 hown2
          go_wp2
          go_roundw
          case rel => exact ⟨k + 1, by omega, by go_num, HO4.out, HB4.out⟩
          case measure => simp [intOf]; omega
    · obtain rfl : k = L.length := by omega
      have HO := Sp.hid hown
      have HB := Sp.hid hb
      clear hown hb
      go_wp2
      go_ret
      refine ⟨_, rfl, ⟨Joins.ownsRow_le HO.out hbase, fun x hx => ?_⟩, HB.out⟩
      have hxL := thoseL_mem hx
      refine (nodeS n).mono ((nodeS n).frame (HH.out.els x hxL) (fun b hb' => HB.out.block b ?_)) (fun b hb' => ?_)
      · rcases hb' with hb' | ⟨_, hb', _⟩
        · have := hF b hb'; omega
        · exact hb'.lt
      · rcases hb' with hb' | ⟨h1, ⟨o, h2, h3⟩, h4⟩
        · exact .inl hb'
        · have hbl := (Array.getElem?_eq_some_iff.1 h2).1
          refine .inr ⟨h1, ⟨o, (HB.out.block b hbl).trans h2, h3⟩, fun e => ?_⟩
          have := (HO.out.lt b e.symm).1
          omega

end Go.Proofs.YtoknglpfchjbjaaGreatDoor
