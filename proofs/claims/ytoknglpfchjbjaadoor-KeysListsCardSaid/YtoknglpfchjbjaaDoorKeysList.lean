/- keys.List: the entries of children of a label. Conditions: fewer than 2^20 children. -/
import Derived.Test.YtoknglpfchjbjaaDoorTreeVal
import Derived.Test.YtoknglpfchjbjaaDoorKeysOwn
namespace Go.Proofs.YtoknglpfchjbjaaDoor
open Go.RowKit Go.Sp

/-- The entry of a child at a place. -/
def entOf (attr : ByteArray) (at' : Nat) (kid : TT) : Ent := if attr.toList.isEmpty then ⟨at', false, ⟨#[]⟩⟩ else ⟨at', (attrV kid.attrs attr).isSome, (attrV kid.attrs attr).getD ⟨#[]⟩⟩
def isKid (label : ByteArray) (kid : TT) : Bool := !(kid.label.toList.isEmpty || !(kid.label.toList == label.toList))
def listTo (label attr : ByteArray) (kids : List TT) (n : Nat) : List Ent := (List.range n).filterMap fun i => (kids[i]?).bind fun kid => if isKid label kid then some (entOf attr i kid) else none
theorem listTo_succ (label attr : ByteArray) (kids : List TT) (n : Nat) (h : n < kids.length) : listTo label attr kids (n + 1) = listTo label attr kids n ++ (if isKid label kids[n] then [entOf attr n kids[n]] else []) := by
  unfold listTo
  rw [List.range_succ, List.filterMap_append]
  congr 1
  simp only [List.filterMap_cons, List.filterMap_nil, List.getElem?_eq_getElem h, Option.bind_some]
  cases isKid label kids[n] <;> rfl
theorem listTo_length (label attr : ByteArray) (kids : List TT) (n : Nat) : (listTo label attr kids n).length ≤ n := by
  have := List.length_filterMap_le (fun i => (kids[i]?).bind fun kid => if isKid label kid then some (entOf attr i kid) else none) (List.range n)
  simpa [listTo] using this

theorem list_small {n : Nat} {F : Nat → Prop} {w : World} {ka : Option Addr} {kids : List TT} {label attr : ByteArray} (h : Sl (treeS n) F w ka kids) (k : Nat) : ∀ x ∈ listTo label attr kids k, x.key.size ≤ maxLen := by
  intro x hx
  unfold listTo at hx
  obtain ⟨i, _, hi⟩ := List.mem_filterMap.1 hx
  cases hik : kids[i]? with
  | none => rw [hik] at hi; cases hi
  | some kid =>
    rw [hik, Option.bind_some] at hi
    split at hi
    · cases hi
      unfold entOf
      split
      · exact Nat.zero_le _
      · cases hv : attrV kid.attrs attr with
        | none => exact Nat.zero_le _
        | some v =>
          obtain ⟨hlt, he⟩ := List.getElem?_eq_some_iff.1 hik
          obtain ⟨b, o, vs, _, _, hr, _⟩ := h i hlt
          rw [he] at hr
          cases n with
          | zero => exact hr.elim
          | succ m =>
            obtain ⟨_, _, _, _, _, _, hat, _⟩ := tree_open hr
            unfold attrV at hv
            obtain ⟨a, ha, rfl⟩ := Option.map_eq_some_iff.1 hv
            obtain ⟨j, hj, rfl⟩ := List.getElem_of_mem (List.mem_of_find?_eq_some ha)
            obtain ⟨_, _, _, _, _, hs, _, _⟩ := attr_cells hat j hj
            exact hs
    · cases hi

theorem ownsRow_below'' {w w' : World} {base : Nat} {e : TypeId} {size : Nat} {v : Value} {n : Nat} {ys : List Value} (h : w.ownsRow base e size v n ys) (hb : Below w.heap.size w w') : w'.ownsRow base e size v n ys :=
  h.kept (row := none) ⟨hb.os, hb.tape, hb.output, hb.size, fun j hj _ => hb.block j hj⟩ (by
    cases hv : v.ownBlock with
    | none => exact .inl rfl
    | some g => exact .inr (by simp))

/-- What a call of List leaves. -/
def ListPost (F : Nat → Prop) (label attr : ByteArray) (kids : List TT) (w : World) (e : Ending) (w' : World) : Prop :=
  ∃ a cap, e = .returned (.slice a (listTo label attr kids kids.length).length cap) ∧ Sl entS (fun b => w.heap.size ≤ b ∧ b < w'.heap.size) w' a (listTo label attr kids kids.length) ∧ Below w.heap.size w w'

set_option maxRecDepth 100000 in
set_option maxHeartbeats 8000000 in
theorem list_any (n : Nat) (F : Nat → Prop) (ka : Option Addr) (kids : List TT) (ck : Nat) (label attr : ByteArray) (w : World) (hks : Sl (treeS n) F w ka kids) (hF : ∀ k, F k → k < w.heap.size) (hlen : kids.length ≤ 1000000) :
    Calls Tryd.prog 8 #[.slice ka kids.length ck, .string label, .string attr] w (ListPost F label attr kids w) := by
  have HK := Sp.hid hks
  have HF := Sp.hid hF
  have HSM := Sp.hid (list_small (label := label) (attr := attr) hks)
  obtain ⟨i0, hi0, hz0, hz1, hz2⟩ := info_parts infoEnt
  clear hks hF
  go_enter Tryd.func8, Tryd.ntmps8
  go_wp2
  go_step3
  go_wp2
  go_step3
  go_wp2
  go_loopw [7, 13] (fun v i wr => ∃ k : Nat, k ≤ kids.length ∧ i = .int .i64 k ∧ wr.ownsRow w.heap.size 38 3 v (listTo label attr kids k).length ((listTo label attr kids k).flatMap entCells) ∧ Below w.heap.size w wr) (fun _ i _ => kids.length - (intOf i).toNat)
  case atStart => exact ⟨0, Nat.zero_le _, rfl, World.ownsRow_nil _ _ _ _, Below.refl _ _⟩
  case round =>
    obtain ⟨k, hk, rfl, hown, hb⟩ := hrel
    have hsw := hb.size
    have hnl := listTo_length label attr kids k
    by_cases hlt : k < kids.length
    · obtain ⟨b, o, aa1, ca1, ka1, ck1, rfl, fb, hkrep, e1, e2, e3, e4⟩ := tree_cells (HK.out.below HF.out hb) k hlt
      have hbr : b < wr.heap.size := World.block_lt_of_cell? _ _ e1
      have hnext := listTo_succ label attr kids k hlt
      obtain ⟨kid, hkid⟩ : ∃ kid, kid = kids[k] := ⟨_, rfl⟩
      rw [← hkid] at hkrep e1 e2 e3 e4 hnext
      cases n with
      | zero => exact hkrep.elim
      | succ m =>
      obtain ⟨⟨_, _, hal, _⟩, aa', ca', ka', ck', hvs, hat, hkd⟩ := tree_open hkrep
      simp only [List.cons.injEq, Value.slice.injEq, true_and, and_true] at hvs
      obtain ⟨⟨rfl, rfl⟩, rfl, rfl⟩ := hvs
      obtain ⟨es, hes⟩ : ∃ es, es = listTo label attr kids k := ⟨_, rfl⟩
      rw [← hes] at hown hnext hnl
      have HO := Sp.hid hown
      have HB := Sp.hid hb
      have hnext' := hnext
      have HAT := Sp.hid (fun W (hW : Below wr.heap.size wr W) => value_any F kid.label kid.text attr aa1 ka1 kid.attrs ca1 kid.kids.length ck1 W (hat.below (fun k hk => Nat.lt_of_lt_of_le (HF.out k hk) hsw) hW) (fun k hk => Nat.lt_of_lt_of_le (HF.out k hk) (Nat.le_trans hsw hW.size)) hal)
      clear hown hb hnext hkrep hat hkd hkid hes
      by_cases hkk : isKid label kid = true
      · have hkk' := hkk
        unfold isKid at hkk'
        simp only [Bool.not_or, Bool.and_eq_true, Bool.not_not, Bool.not_eq_true'] at hkk'
        obtain ⟨hl0, hl1⟩ := hkk'
        cases hat : attr.toList.isEmpty
        · have hent : entOf attr k kid = ⟨k, (attrV kid.attrs attr).isSome, (attrV kid.attrs attr).getD ⟨#[]⟩⟩ := by unfold entOf; rw [if_neg (by rw [hat]; decide)]
          rw [hkk, if_pos rfl, hent] at hnext'
          obtain ⟨v, hv⟩ : ∃ v, v = attrV kid.attrs attr := ⟨_, rfl⟩
          rw [← hv] at hnext' HAT
          have HNX := Sp.hid hnext'
          obtain ⟨w2, hw2⟩ : ∃ w2, w2 = (wr.alloc (.cells #[.string kid.label, .string kid.text, .slice aa1 kid.attrs.length ca1, .slice ka1 kid.kids.length ck1] 27)).alloc (.cells #[.int .i64 (k : Nat), .bool false, .string ⟨#[]⟩] 38) := ⟨_, rfl⟩
          have hb2 : Below wr.heap.size wr w2 := by rw [hw2]; exact ((Below.refl _ _).alloc (Nat.le_refl _) _).alloc (by simp) _
          have hs2 : w2.heap.size = wr.heap.size + 2 := by rw [hw2]; simp
          have hf2 : w2.heap[wr.heap.size + 1]? = some (.cells #[.int .i64 (k : Nat), .bool false, .string ⟨#[]⟩] 38 (0, 0)) := by rw [hw2]; have := heap_alloc_new (wr.alloc (.cells #[.string kid.label, .string kid.text, .slice aa1 kid.attrs.length ca1, .slice ka1 kid.kids.length ck1] 27)) (.cells #[.int .i64 (k : Nat), .bool false, .string ⟨#[]⟩] 38); simpa using this
          have HC := Sp.hid (HAT.out w2 hb2)
          have HB2 := Sp.hid hb2
          have HF2 := Sp.hid hf2
          have HW2 := Sp.hid hw2
          clear hb2 hf2 hw2 hnext' hent hv
          go_wp2_with fail
          rw [← HW2.out]
          refine HC.out.mono ?_
          rintro e w3 ⟨rfl, hb3⟩
          have hs3 := hb3.size
          have hf3 : w3.heap[wr.heap.size + 1]? = some (.cells #[.int .i64 (k : Nat), .bool false, .string ⟨#[]⟩] 38 (0, 0)) := (hb3.block _ (by omega)).trans HF2.out
          have c0 : w3.cell? ⟨wr.heap.size + 1, 0, none⟩ = some (.int .i64 (k : Nat)) := by simp [World.cell?, hf3]
          have c1 : w3.cell? ⟨wr.heap.size + 1, 1, none⟩ = some (.bool false) := by simp [World.cell?, hf3]
          have c2 : w3.cell? ⟨wr.heap.size + 1, 2, none⟩ = some (.string ⟨#[]⟩) := by simp [World.cell?, hf3]
          have g1 : w3.frozen? ⟨wr.heap.size + 1, 1, none⟩ = false := by simp [World.frozen?, hf3]
          have g2 : w3.frozen? ⟨wr.heap.size + 1, 2, none⟩ = false := by simp [World.frozen?, hf3]
          obtain ⟨w4, hw4⟩ : ∃ w4, w4 = (w3.setCell ⟨wr.heap.size + 1, 2, none⟩ (.string (v.getD ⟨#[]⟩))).setCell ⟨wr.heap.size + 1, 1, none⟩ (.bool v.isSome) := ⟨_, rfl⟩
          have hb4 : Below wr.heap.size wr w4 := by
            have h3 : Below wr.heap.size wr w3 := HB2.out.trans (hb3.mono (by omega))
            rw [hw4]; exact (h3.setCell (by show wr.heap.size ≤ wr.heap.size + 1; omega) _).setCell (by show wr.heap.size ≤ wr.heap.size + 1; omega) _
          have hs4 : w4.heap.size = w3.heap.size := by rw [hw4]; simp
          have HO4 := Sp.hid (ownsRow_below'' HO.out hb4)
          have HB4 := Sp.hid hb4
          have HW4 := Sp.hid hw4
          clear hb3 hf3 hb4 hw4
          go_wp2_with (at_builtin; (try rw [← HW4.out]); refine wpList_append_own _ rfl _ _ 31 rfl w.heap.size 38 i0 _ 3 32 Tryd.underlying31 hi0 hz0 hz1 hz2 rfl (by decide) _ _ _ rfl (HO4.out.alloc _) ⟨w4.heap.size, 0, none⟩ 1 1 [.int .i64 (k : Nat), .bool v.isSome, .string (v.getD ⟨#[]⟩)] ?c0 rfl ?c1 ?c2 ?c3 ?c4 ?c5 ?c6)
          case c0 => rw [hs4]; rfl
          case c1 => exact news3 _ _ _ _ _
          case c2 => intro u hu; simp at hu; rcases hu with rfl | rfl | rfl <;> rfl
          case c3 => unfold maxLen; omega
          case c4 => omega
          case c5 => simp; omega
          case c6 =>
            intro v' w5 hown' hgrow _
            have hb5 : Below w.heap.size w w5 := ((HB.out.trans (HB4.out.mono hsw)).alloc (by omega) _).grown hgrow (by simp; omega) (fun j hj => (HO.out.lt j hj).1)
            have hown2 : w5.ownsRow w.heap.size 38 3 v' (listTo label attr kids (k + 1)).length ((listTo label attr kids (k + 1)).flatMap entCells) := by
              rw [HNX.out, List.length_append, List.flatMap_append]; exact hown'
            have HO5 := Sp.hid hown2
            have HB5 := Sp.hid hb5
            clear hown' hgrow hb5 hown2
            go_wp2
            go_roundw
            case rel => exact ⟨k + 1, by omega, by go_num, HO5.out, HB5.out⟩
            case measure => simp [intOf]; omega
        · have hent : entOf attr k kid = ⟨k, false, ⟨#[]⟩⟩ := by unfold entOf; rw [if_pos hat]
          rw [hkk, if_pos rfl, hent] at hnext'
          have HNX := Sp.hid hnext'
          clear hnext' hent
          go_wp2_with (at_builtin; refine wpList_append_own _ rfl _ _ 31 rfl w.heap.size 38 i0 _ 3 32 Tryd.underlying31 hi0 hz0 hz1 hz2 rfl (by decide) _ _ _ rfl (((HO.out.alloc _).alloc _).alloc _) ⟨wr.heap.size + 1 + 1, 0, none⟩ 1 1 [.int .i64 (k : Nat), .bool false, .string ⟨#[]⟩] rfl rfl ?c1 ?c2 ?c3 ?c4 ?c5 ?c6)
          case c1 => have := news3 ((wr.alloc (.cells #[.string kid.label, .string kid.text, .slice aa1 kid.attrs.length ca1, .slice ka1 kid.kids.length ck1] 27)).alloc (.cells #[.int .i64 (k : Nat), .bool false, .string ⟨#[]⟩] 38)) (.int .i64 (k : Nat)) (.bool false) (.string ⟨#[]⟩) 38; simpa using this
          case c2 => intro u hu; simp at hu; rcases hu with rfl | rfl | rfl <;> rfl
          case c3 => unfold maxLen; omega
          case c4 => omega
          case c5 => simp; omega
          case c6 =>
            intro v' w3 hown' hgrow _
            have hb3 : Below w.heap.size w w3 := (((HB.out.alloc HB.out.size _).alloc (by simp; omega) _).alloc (by simp; omega) _).grown hgrow (by simp; omega) (fun j hj => (HO.out.lt j hj).1)
            have hown2 : w3.ownsRow w.heap.size 38 3 v' (listTo label attr kids (k + 1)).length ((listTo label attr kids (k + 1)).flatMap entCells) := by
              rw [HNX.out, List.length_append, List.flatMap_append]; exact hown'
            have HO3 := Sp.hid hown2
            have HB3 := Sp.hid hb3
            clear hown' hgrow hb3 hown2
            go_wp2
            go_roundw
            case rel => exact ⟨k + 1, by omega, by go_num, HO3.out, HB3.out⟩
            case measure => simp [intOf]; omega
      · have hkk' : (kid.label.toList.isEmpty || !(kid.label.toList == label.toList)) = true := by
          unfold isKid at hkk
          cases h : (kid.label.toList.isEmpty || !(kid.label.toList == label.toList))
          · rw [h] at hkk; exact absurd rfl hkk
          · rfl
        rw [if_neg hkk, List.append_nil] at hnext'
        rw [← hnext'] at HO
        have HB1 := Sp.hid (HB.out.alloc hsw (.cells #[.string kid.label, .string kid.text, .slice aa1 kid.attrs.length ca1, .slice ka1 kid.kids.length ck1] 27))
        clear hnext'
        cases hl0 : kid.label.toList.isEmpty
        · rw [hl0, Bool.false_or, Bool.not_eq_true'] at hkk'
          go_wp2
          go_roundw
          case rel => exact ⟨k + 1, by omega, by go_num, HO.out.alloc _, HB1.out⟩
          case measure => simp [intOf]; omega
        · clear hkk'
          go_wp2
          go_roundw
          case rel => exact ⟨k + 1, by omega, by go_num, HO.out.alloc _, HB1.out⟩
          case measure => simp [intOf]; omega
    · obtain rfl : k = kids.length := by omega
      have HB := Sp.hid hb
      obtain ⟨ra, rc, hv, _, hrc, hrs⟩ := own_ents (HSM.out _) hown
      have HRS := Sp.hid hrs
      clear hown hb hrs
      subst hv
      go_wp2
      try rw [Exit.noGoto_ret]
      go_ret
      exact ⟨ra, rc, rfl, HRS.out, HB.out⟩

end Go.Proofs.YtoknglpfchjbjaaDoor
