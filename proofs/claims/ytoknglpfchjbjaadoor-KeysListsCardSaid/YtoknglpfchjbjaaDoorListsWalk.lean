/- The walk of KeysLists: at every input the law returns true. Conditions: the table of spans as laid. -/
import Derived.Test.YtoknglpfchjbjaaDoorBuild
import Derived.Test.YtoknglpfchjbjaaDoorKeysList
import Derived.Test.YtoknglpfchjbjaaDoorKeysAwake
namespace Go.Proofs.YtoknglpfchjbjaaDoor
open Go.RowKit Go.Sp Go.Maps

theorem rises_apart : ∀ {l : List (ByteArray × ByteArray)}, rises l = true → ∀ (i j : Nat) (hi : i < j) (hj : j < l.length), (l[i].1.toList == (l[j]).1.toList) = false
  | [], _, i, j, _, hj => by simp at hj
  | a :: l, h, i, j, hi, hj => by
    cases j with
    | zero => omega
    | succ j =>
      cases i with
      | zero =>
        have hlt := rises_lt h (l[j]'(by simpa using hj)) (List.getElem_mem _)
        rw [beq_eq_false_iff_ne]
        intro e
        simp only [List.getElem_cons_zero, List.getElem_cons_succ] at e
        rw [e] at hlt
        exact absurd hlt (List.lt_irrefl _)
      | succ i =>
        simp only [List.getElem_cons_succ]
        exact rises_apart (rises_tail h) i j (by omega) (by simpa using hj)
/-- What stands ahead of an attribute has another name. -/
theorem attrV_ahead {l : List (ByteArray × ByteArray)} {n : ByteArray} {j : Nat} (h : rises l = true) (hj : j < l.length) (he : (l[j].1.toList == n.toList) = true) : attrV (l.take j) n = none := by
  unfold attrV
  rw [Option.map_eq_none_iff, List.find?_eq_none]
  intro x hx
  obtain ⟨i, hi, rfl⟩ := List.getElem_of_mem hx
  simp only [List.length_take] at hi
  rw [List.getElem_take]
  have h1 := rises_apart h i j (by omega) hj
  have h2 : l[j].1.toList = n.toList := by simpa using he
  rw [h2] at h1
  rw [h1]
  decide
theorem attrV_take_hit {l : List (ByteArray × ByteArray)} {n : ByteArray} {j : Nat} (h : rises l = true) (hj : j < l.length) (he : (l[j].1.toList == n.toList) = true) : attrV (l.take (j + 1)) n = some l[j].2 := by
  have hlt : j < (l.take (j + 1)).length := by simp; omega
  have h1 : attrV ((l.take (j + 1)).take j) n = none := by rw [List.take_take, Nat.min_eq_left (by omega)]; exact attrV_ahead h hj he
  have := attrV_hit (l := l.take (j + 1)) (k := j) hlt h1 (by rw [List.getElem_take]; exact he)
  rw [this, List.getElem_take]
theorem attrV_take_miss {l : List (ByteArray × ByteArray)} {n : ByteArray} {j : Nat} (hj : j < l.length) (he : (l[j].1.toList == n.toList) = false) : attrV (l.take (j + 1)) n = attrV (l.take j) n := by
  unfold attrV
  rw [List.take_succ_eq_append_getElem hj, List.find?_append]
  cases h : (l.take j).find? fun a => a.1.toList == n.toList with
  | some x => rfl
  | none => simp [List.find?_cons, he]

theorem kid_node {n : Nat} {T kid : TT} (h : kid ∈ T.kids) : kid ∈ nodesM (n + 2) T := by
  show kid ∈ T :: T.kids.flatMap (nodesM (n + 1))
  refine List.mem_cons_of_mem _ (List.mem_flatMap.2 ⟨kid, h, ?_⟩)
  show kid ∈ kid :: _
  simp
theorem checkM_zero {n : Nat} {T : TT} (h : checkM n T = 0) : ∀ p, p < 6 → ∀ T' ∈ nodesM n T, faultB p T' = false := by
  unfold checkM at h
  split at h
  · exact firstFault_zero h
  · cases h
theorem listTo_prefix (label attr : ByteArray) (kids : List TT) {k n : Nat} (h : k ≤ n) : ∃ r, listTo label attr kids n = listTo label attr kids k ++ r := by
  obtain ⟨d, rfl⟩ := Nat.exists_eq_add_of_le h
  unfold listTo
  rw [List.range_add, List.filterMap_append]
  exact ⟨_, rfl⟩

theorem tree_parts {n : Nat} {F : Nat → Prop} {w : World} {vs : List Value} {T : TT} (h : (treeS n).rep F w vs T) :
    (T.label.size ≤ maxLen ∧ T.text.size ≤ maxLen ∧ T.attrs.length ≤ maxLen ∧ T.kids.length ≤ maxLen) ∧ ∃ aa ca ka ck, vs = [.string T.label, .string T.text, .slice aa T.attrs.length ca, .slice ka T.kids.length ck] ∧ Sl attrS F w aa T.attrs ∧ Sl (treeS (n - 1)) F w ka T.kids := by
  cases n with
  | zero => exact h.elim
  | succ n => exact tree_open h

set_option maxRecDepth 100000 in
set_option maxHeartbeats 32000000 in
theorem lists_walk (a : Option Addr) (cap : Nat) (xs : List Stp) (label attr : ByteArray) (w : World) (hxs : Sl stpS (· < w.heap.size) w a xs) (hlen : xs.length ≤ 9223372036854775807) (hsp : SpansAt w) :
    Calls Tryd.prog 3 #[.slice a xs.length cap, .string label, .string attr] w (IsBool true w) := by
  by_cases h100 : (100 : Int) < (xs.length : Int)
  · clear hxs hsp
    go_enter Tryd.func3, Tryd.ntmps3
    go_wp2_with fail
    refine (awake_any _).mono ?_
    rintro e w1 ⟨rfl, hb⟩
    have HB := Sp.hid hb
    clear hb
    go_wp2
    go_ret
    exact ⟨rfl, HB.out⟩
  have HBUILD := Sp.hid (build_any (· < w.heap.size) a cap xs w hxs (fun _ h => h) (by omega) hsp)
  clear hxs hsp
  go_enter Tryd.func3, Tryd.ntmps3
  go_wp2_with fail
  refine HBUILD.out.mono ?_
  clear HBUILD
  rintro e w1 ⟨hb1, hpost⟩
  have HB1 := Sp.hid hb1
  have hs1 := hb1.size
  rcases hpost with ⟨c, hc, rfl⟩ | ⟨vs, T, rfl, hnode, hck⟩
  · have hc1 : (c == 0) = false := by simpa using hc
    clear hb1
    go_wp2_with fail
    refine (awake_any _).mono ?_
    rintro e w2 ⟨rfl, hb2⟩
    have HB2 := Sp.hid hb2
    clear hb2
    go_wp2
    go_ret
    exact ⟨rfl, (HB1.out.alloc hs1 _).trans (HB2.out.mono (by simp; omega))⟩
  obtain ⟨aa, ca, ka, ck, rfl, hrep⟩ := hnode
  obtain ⟨⟨_, _, _, hkl⟩, aa', ca', ka', ck', hvs, hat, hkd⟩ := tree_open hrep
  simp only [List.cons.injEq, Value.slice.injEq, true_and, and_true] at hvs
  obtain ⟨⟨rfl, rfl⟩, rfl, rfl⟩ := hvs
  have hxl : xs.length ≤ 100 := by omega
  have hkl2 : T.kids.length ≤ 4096 := by
    have hck' := hck
    unfold checkM at hck'
    split at hck'
    · rename_i hh
      have h2 := hh.2
      have : T.kids.length ≤ (nodesM (xs.length + 1) T).length := by
        cases hn : xs.length with
        | zero =>
          rw [hn] at hkd
          cases hk : T.kids with
          | nil => simp
          | cons x l => obtain ⟨_, _, _, _, _, h0, _⟩ := hkd 0 (by simp [hk]); exact h0.elim
        | succ n =>
          show _ ≤ (T :: T.kids.flatMap (nodesM (n + 1))).length
          have : T.kids.length ≤ (T.kids.flatMap (nodesM (n + 1))).length := by
            generalize T.kids = l
            induction l with
            | nil => simp
            | cons x l ih =>
              rw [List.flatMap_cons, List.length_append, List.length_cons]
              have : 1 ≤ (nodesM (n + 1) x).length := by simp [nodesM]
              omega
          simp only [List.length_cons]
          omega
      omega
    · cases hck'
  have hgood : ∀ kid ∈ T.kids, rises kid.attrs = true ∧ (kid.label.toList.isEmpty = true → kid.attrs = []) := by
    intro kid hkid
    cases hn : xs.length with
    | zero =>
      rw [hn] at hkd
      obtain ⟨i, hi, rfl⟩ := List.getElem_of_mem hkid
      obtain ⟨_, _, _, _, _, h0, _⟩ := hkd i hi
      exact h0.elim
    | succ n =>
      rw [hn] at hck
      have hz := checkM_zero hck
      have hm : kid ∈ nodesM (n + 1 + 1) T := kid_node hkid
      have h4 := hz 4 (by decide) kid hm
      have h0 := hz 0 (by decide) kid hm
      refine ⟨by simpa [faultB] using h4, fun hl => ?_⟩
      simp only [faultB, fault1B, hl, if_true, Bool.or_eq_false_iff, decide_eq_false_iff_not] at h0
      exact List.length_eq_zero_iff.1 (by omega)
  have HGOOD := Sp.hid hgood
  have HKD := Sp.hid hkd
  have HK2 := Sp.hid hkl2
  clear hb1 hck hrep hat hgood hkd hkl
  obtain ⟨w2, hw2⟩ : ∃ w2, w2 = w1.alloc (.cells #[.string T.label, .string T.text, .slice aa T.attrs.length ca, .slice ka T.kids.length ck] 27) := ⟨_, rfl⟩
  have hb2 : Below w1.heap.size w1 w2 := by rw [hw2]; exact (Below.refl _ _).alloc (Nat.le_refl _) _
  have hs2 : w1.heap.size + 1 ≤ w2.heap.size := by rw [hw2]; simp
  have hD2 : w2.heap[w1.heap.size]? = some (.cells #[.string T.label, .string T.text, .slice aa T.attrs.length ca, .slice ka T.kids.length ck] 27 (0, 0)) := by rw [hw2]; exact heap_alloc_new _ _
  have HLIST := Sp.hid (list_any xs.length (· < w1.heap.size) ka T.kids ck label attr w2 (HKD.out.below (fun _ h => h) hb2) (fun k hk => by omega) (by omega))
  have HB2 := Sp.hid hb2
  have HD2 := Sp.hid hD2
  have HW2 := Sp.hid hw2
  clear hb2 hD2 hw2
  go_wp2_with fail
  rw [← HW2.out]
  refine HLIST.out.mono ?_
  clear HLIST
  rintro e w3 ⟨ga, gc, rfl, hgs, hb3⟩
  have hs3 := hb3.size
  have HGS := Sp.hid hgs
  have HB3 := Sp.hid hb3
  have hD3 : w3.heap[w1.heap.size]? = some (.cells #[.string T.label, .string T.text, .slice aa T.attrs.length ca, .slice ka T.kids.length ck] 27 (0, 0)) := (hb3.block _ (by omega)).trans HD2.out
  have HD3 := Sp.hid hD3
  have HB13 := Sp.hid (HB2.out.trans (hb3.mono (by omega)) : Below w1.heap.size w1 w3)
  have hgl := listTo_length label attr T.kids T.kids.length
  obtain ⟨gn, hgn⟩ : ∃ gn, gn = (listTo label attr T.kids T.kids.length).length := ⟨_, rfl⟩
  rw [← hgn] at hgl ⊢
  have HGN := Sp.hid hgn
  clear hgs hb3 hD3 hgn HB2 HD2 HW2
  go_wp2
  go_loopw [10, 11] (fun nv i wr => ∃ k : Nat, k ≤ T.kids.length ∧ i = .int .i64 k ∧ nv = .int .i64 ((listTo label attr T.kids k).length : Nat) ∧ Below w3.heap.size w3 wr) (fun _ i _ => T.kids.length - (intOf i).toNat)
  case atStart => exact ⟨0, Nat.zero_le _, rfl, rfl, Below.refl _ _⟩
  case round =>
    obtain ⟨k, hk, rfl, rfl, hb⟩ := hrel
    have hsw := hb.size
    have HB := Sp.hid hb
    have hDr : wr.heap[w1.heap.size]? = some (.cells #[.string T.label, .string T.text, .slice aa T.attrs.length ca, .slice ka T.kids.length ck] 27 (0, 0)) := (hb.block _ (by omega)).trans HD3.out
    have t3 : wr.cell? ⟨w1.heap.size, 3, none⟩ = some (.slice ka T.kids.length ck) := by simp [World.cell?, hDr]
    obtain ⟨nk, hnk⟩ : ∃ nk, nk = (listTo label attr T.kids k).length := ⟨_, rfl⟩
    rw [← hnk]
    clear hDr
    by_cases hlt : k < T.kids.length
    · have hbw : Below w1.heap.size w1 wr := HB13.out.trans (hb.mono (by omega))
      obtain ⟨b, o, aa1, ca1, ka1, ck1, rfl, fb, hkrep, e1, e2, e3, e4⟩ := tree_cells (HKD.out.below (fun _ h => h) hbw) k hlt
      have hbr : b < wr.heap.size := World.block_lt_of_cell? _ _ e1
      have hgood := HGOOD.out _ (List.getElem_mem hlt)
      have hnext := listTo_succ label attr T.kids k hlt
      obtain ⟨grest, hpre⟩ := listTo_prefix label attr T.kids (show k + 1 ≤ T.kids.length from hlt)
      obtain ⟨kid, hkid⟩ : ∃ kid, kid = T.kids[k] := ⟨_, rfl⟩
      rw [← hkid] at hkrep e1 e2 e3 e4 hgood hnext
      obtain ⟨⟨_, _, hal, _⟩, aa', ca', ka', ck', hvs, hat, hkd⟩ := tree_parts hkrep
      simp only [List.cons.injEq, Value.slice.injEq, true_and, and_true] at hvs
      obtain ⟨⟨rfl, rfl⟩, rfl, rfl⟩ := hvs
      obtain ⟨hrise, hempty⟩ := hgood
      have hal' : kid.attrs.length ≤ 9223372036854775807 := hal
      obtain ⟨w4, hw4⟩ : ∃ w4, w4 = wr.alloc (.cells #[.string kid.label, .string kid.text, .slice aa1 kid.attrs.length ca1, .slice ka1 kid.kids.length ck1] 27) := ⟨_, rfl⟩
      have hb4 : Below wr.heap.size wr w4 := by rw [hw4]; exact (Below.refl _ _).alloc (Nat.le_refl _) _
      have hs4 : wr.heap.size + 1 ≤ w4.heap.size := by rw [hw4]; simp
      have hK4 : w4.heap[wr.heap.size]? = some (.cells #[.string kid.label, .string kid.text, .slice aa1 kid.attrs.length ca1, .slice ka1 kid.kids.length ck1] 27 (0, 0)) := by rw [hw4]; exact heap_alloc_new _ _
      have hat4 := hat.below (fun j (hj : j < w1.heap.size) => (by omega : j < wr.heap.size)) hb4
      have HOF := Sp.hid (of_any (· < w1.heap.size) kid.label kid.text attr aa1 ka1 kid.attrs ca1 kid.kids.length ck1 w4 hat4 (fun j hj => by omega) hal)
      have HB4 := Sp.hid hb4
      have HK4 := Sp.hid hK4
      have HW4 := Sp.hid hw4
      have HAT4 := Sp.hid hat4
      have HRISE := Sp.hid hrise
      have HEMPTY := Sp.hid hempty
      have HNEXT := Sp.hid hnext
      have HPRE := Sp.hid hpre
      have HNK := Sp.hid hnk
      clear hb4 hK4 hw4 hat4 hrise hempty hnext hpre hkrep hat hkd hkid hb hbw hnk
      go_wp2_with fail
      rw [← HW4.out]
      refine HOF.out.mono ?_
      clear HOF
      rintro e w5 ⟨he, hb5⟩
      have hs5 := hb5.size
      have hK5 : w5.heap[wr.heap.size]? = some (.cells #[.string kid.label, .string kid.text, .slice aa1 kid.attrs.length ca1, .slice ka1 kid.kids.length ck1] 27 (0, 0)) := (hb5.block _ (by omega)).trans HK4.out
      have k0 : w5.cell? ⟨wr.heap.size, 0, none⟩ = some (.string kid.label) := by simp [World.cell?, hK5]
      have k2 : w5.cell? ⟨wr.heap.size, 2, none⟩ = some (.slice aa1 kid.attrs.length ca1) := by simp [World.cell?, hK5]
      have hKw : wr.heap.size < w5.heap.size := by omega
      have HAT5 := Sp.hid (HAT4.out.below (fun j (hj : j < w1.heap.size) => (by omega : j < w4.heap.size)) hb5)
      have HB5 := Sp.hid (HB.out.trans ((HB4.out.mono hsw).trans (hb5.mono (by omega))) : Below w3.heap.size w3 w5)
      obtain ⟨sv, hsv⟩ : ∃ sv : ByteArray, sv = (if kid.label.toList.isEmpty then ⟨#[]⟩ else (attrV kid.attrs attr).getD ⟨#[]⟩) := ⟨_, rfl⟩
      obtain ⟨fv, hfv⟩ : ∃ fv : Int, fv = (if kid.label.toList.isEmpty then 24 else if (attrV kid.attrs attr).isSome then 0 else 16) := ⟨_, rfl⟩
      rw [← hsv, ← hfv] at he
      subst he
      have HSV := Sp.hid hsv
      have HFV := Sp.hid hfv
      clear hK5 hb5 hsv hfv HAT4 HK4 HB4 HW4 e1 e2 e3 e4 t3
      go_wp2
      go_loop [15, 16, 17] (fun v h j => ∃ q : Nat, q ≤ kid.attrs.length ∧ j = .int .i64 q ∧ v = .string ((attrV (kid.attrs.take q) attr).getD ⟨#[]⟩) ∧ h = .bool (attrV (kid.attrs.take q) attr).isSome) (fun _ _ j => kid.attrs.length - (intOf j).toNat)
      case atStart => exact ⟨0, Nat.zero_le _, rfl, rfl, rfl⟩
      case round =>
        obtain ⟨q, hq, rfl, rfl, rfl⟩ := hrel
        by_cases hqlt : q < kid.attrs.length
        · obtain ⟨b2, o2, rfl, fb2, _, _, a1, a2⟩ := attr_cells HAT5.out q hqlt
          have hb2l : b2 < w5.heap.size := by have : b2 < w1.heap.size := fb2; omega
          have HHIT := Sp.hid (fun h => attrV_take_hit (n := attr) HRISE.out hqlt h)
          have HMISS := Sp.hid (fun h => attrV_take_miss (n := attr) hqlt h)
          obtain ⟨x, hx⟩ : ∃ x, x = kid.attrs[q] := ⟨_, rfl⟩
          rw [← hx] at a1 a2 HHIT HMISS
          obtain ⟨vv, hvv⟩ : ∃ vv, vv = attrV (kid.attrs.take q) attr := ⟨_, rfl⟩
          rw [← hvv] at HMISS ⊢
          clear hx hvv
          cases hqq : (x.1.toList == attr.toList)
          · go_wp2
            go_round
            case rel => exact ⟨q + 1, by omega, by go_num, by rw [HMISS.out hqq], by rw [HMISS.out hqq]⟩
            case measure => simp [intOf]; omega
          · go_wp2
            go_round
            case rel => exact ⟨q + 1, by omega, by go_num, by rw [HHIT.out hqq]; rfl, by rw [HHIT.out hqq]; rfl⟩
            case measure => simp [intOf]; omega
        · obtain rfl : q = kid.attrs.length := by omega
          rw [List.take_length]
          obtain ⟨vv, hvv⟩ : ∃ vv, vv = attrV kid.attrs attr := ⟨_, rfl⟩
          have HVV := Sp.hid hvv
          rw [← hvv]
          clear hvv
          cases hl : kid.label.toList.isEmpty
          · cases vv with
            | none =>
              have hs : sv = ⟨#[]⟩ := by rw [HSV.out, hl, ← HVV.out]; rfl
              have hf : fv = 16 := by rw [HFV.out, hl, ← HVV.out]; rfl
              subst hs
              subst hf
              cases hl1 : (kid.label.toList == label.toList)
              · have hnk2 : (listTo label attr T.kids (k + 1)).length = nk := by rw [HNEXT.out, HNK.out, isKid, hl, hl1]; simp
                have HNK2 := Sp.hid hnk2
                clear hnk2
                go_wp2
                go_roundw
                case rel => exact ⟨k + 1, by omega, by go_num, by rw [HNK2.out], HB5.out⟩
                case measure => simp [intOf]; omega
              · have hkk : isKid label kid = true := by rw [isKid, hl, hl1]; rfl
                have hnx := HNEXT.out
                rw [hkk, if_pos rfl] at hnx
                have hnk2 : (listTo label attr T.kids (k + 1)).length = nk + 1 := by rw [hnx, HNK.out]; simp
                have hpl := congrArg List.length HPRE.out
                rw [List.length_append, hnk2, ← HGN.out] at hpl
                have hnl : nk < (listTo label attr T.kids T.kids.length).length := by rw [← HGN.out]; omega
                have hget : (listTo label attr T.kids T.kids.length)[nk] = entOf attr k kid := by
                  have h1 : (listTo label attr T.kids T.kids.length)[nk]? = some (entOf attr k kid) := by
                    rw [HPRE.out, hnx, List.getElem?_append_left (by rw [← hnx, hnk2]; omega), HNK.out]
                    simp
                  exact Option.some.inj ((List.getElem?_eq_getElem hnl).symm.trans h1)
                obtain ⟨bg, og, rfl, fbg, hks, u0, u1, u2⟩ := ent_cells HGS.out nk hnl
                rw [hget] at u0 u1 u2 hks
                have hbgl : bg < w3.heap.size := fbg.2
                rw [← HB5.out.cell (p := ⟨bg, _, none⟩) hbgl] at u0 u1 u2
                have hbg5 : bg < w5.heap.size := by omega
                have hng : nk < gn := by omega
                have HNK2 := Sp.hid hnk2
                clear hnx hnk2 hpl hnl hget hks
                cases hae : attr.toList.isEmpty
                · have hent : entOf attr k kid = ⟨k, false, ⟨#[]⟩⟩ := by unfold entOf; rw [if_neg (by rw [hae]; decide), ← HVV.out]; rfl
                  rw [hent] at u0 u1 u2
                  clear hent
                  dsimp only at u0 u1 u2
                  go_wp2
                  go_roundw
                  case rel => exact ⟨k + 1, by omega, by go_num, by rw [HNK2.out]; go_num, HB5.out⟩
                  case measure => simp [intOf]; omega
                · have hent : entOf attr k kid = ⟨k, false, ⟨#[]⟩⟩ := by unfold entOf; rw [if_pos hae]
                  rw [hent] at u0 u1 u2
                  clear hent
                  dsimp only at u0 u1 u2
                  go_wp2
                  go_roundw
                  case rel => exact ⟨k + 1, by omega, by go_num, by rw [HNK2.out]; go_num, HB5.out⟩
                  case measure => simp [intOf]; omega
            | some val =>
              have hs : sv = val := by rw [HSV.out, hl, ← HVV.out]; rfl
              have hf : fv = 0 := by rw [HFV.out, hl, ← HVV.out]; rfl
              subst hs
              subst hf
              cases hl1 : (kid.label.toList == label.toList)
              · have hnk2 : (listTo label attr T.kids (k + 1)).length = nk := by rw [HNEXT.out, HNK.out, isKid, hl, hl1]; simp
                have HNK2 := Sp.hid hnk2
                clear hnk2
                go_wp2
                go_roundw
                case rel => exact ⟨k + 1, by omega, by go_num, by rw [HNK2.out], HB5.out⟩
                case measure => simp [intOf]; omega
              · have hkk : isKid label kid = true := by rw [isKid, hl, hl1]; rfl
                have hnx := HNEXT.out
                rw [hkk, if_pos rfl] at hnx
                have hnk2 : (listTo label attr T.kids (k + 1)).length = nk + 1 := by rw [hnx, HNK.out]; simp
                have hpl := congrArg List.length HPRE.out
                rw [List.length_append, hnk2, ← HGN.out] at hpl
                have hnl : nk < (listTo label attr T.kids T.kids.length).length := by rw [← HGN.out]; omega
                have hget : (listTo label attr T.kids T.kids.length)[nk] = entOf attr k kid := by
                  have h1 : (listTo label attr T.kids T.kids.length)[nk]? = some (entOf attr k kid) := by
                    rw [HPRE.out, hnx, List.getElem?_append_left (by rw [← hnx, hnk2]; omega), HNK.out]
                    simp
                  exact Option.some.inj ((List.getElem?_eq_getElem hnl).symm.trans h1)
                obtain ⟨bg, og, rfl, fbg, hks, u0, u1, u2⟩ := ent_cells HGS.out nk hnl
                rw [hget] at u0 u1 u2 hks
                have hbgl : bg < w3.heap.size := fbg.2
                rw [← HB5.out.cell (p := ⟨bg, _, none⟩) hbgl] at u0 u1 u2
                have hbg5 : bg < w5.heap.size := by omega
                have hng : nk < gn := by omega
                have HNK2 := Sp.hid hnk2
                clear hnx hnk2 hpl hnl hget hks
                cases hae : attr.toList.isEmpty
                · have hent : entOf attr k kid = ⟨k, true, sv⟩ := by unfold entOf; rw [if_neg (by rw [hae]; decide), ← HVV.out]; rfl
                  rw [hent] at u0 u1 u2
                  clear hent
                  dsimp only at u0 u1 u2
                  go_wp2
                  go_roundw
                  case rel => exact ⟨k + 1, by omega, by go_num, by rw [HNK2.out]; go_num, HB5.out⟩
                  case measure => simp [intOf]; omega
                · have hent : entOf attr k kid = ⟨k, false, ⟨#[]⟩⟩ := by unfold entOf; rw [if_pos hae]
                  rw [hent] at u0 u1 u2
                  clear hent
                  dsimp only at u0 u1 u2
                  go_wp2
                  go_roundw
                  case rel => exact ⟨k + 1, by omega, by go_num, by rw [HNK2.out]; go_num, HB5.out⟩
                  case measure => simp [intOf]; omega
          · have hnone : vv = none := by rw [HVV.out, HEMPTY.out hl]; rfl
            have hs : sv = ⟨#[]⟩ := by rw [HSV.out, hl]; rfl
            have hf : fv = 24 := by rw [HFV.out, hl]; rfl
            subst hnone
            subst hs
            subst hf
            have hnk2 : (listTo label attr T.kids (k + 1)).length = nk := by rw [HNEXT.out, HNK.out, isKid, hl]; simp
            have HNK2 := Sp.hid hnk2
            clear hnk2
            go_wp2
            go_roundw
            case rel => exact ⟨k + 1, by omega, by go_num, by rw [HNK2.out], HB5.out⟩
            case measure => simp [intOf]; omega
    · obtain rfl : k = T.kids.length := by omega
      have hnn : nk = gn := by rw [hnk, HGN.out]
      subst hnn
      clear hb hnk
      go_wp2_with fail
      refine (awake_any _).mono ?_
      rintro e w4 ⟨rfl, hb4⟩
      have HB4 := Sp.hid hb4
      clear hb4
      go_wp2
      go_ret
      exact ⟨rfl, (HB1.out.trans ((HB13.out.mono hs1).trans (HB.out.mono (by omega)))).trans (HB4.out.mono (by omega))⟩

end Go.Proofs.YtoknglpfchjbjaaDoor
