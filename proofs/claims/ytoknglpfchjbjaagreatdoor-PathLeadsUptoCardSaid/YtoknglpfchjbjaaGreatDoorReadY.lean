/- The reader of path.Parse: what is quoted, a place. Conditions: none. -/
import Derived.Test.YtoknglpfchjbjaaGreatDoorReadX
namespace Go.Proofs.YtoknglpfchjbjaaGreatDoor
open Go.RowKit Go.Sp Go.Maps

theorem restB_list {s : ByteArray} {p : Nat} : (s.extract p s.size).data.toList = restB s p := by
  unfold restB
  simp only [ByteArray.data_extract, Array.toList_extract, List.extract_eq_take_drop]
  exact List.take_of_length_le (by simp)
theorem extract_any (s : ByteArray) (p q k : Nat) (h : q = p + k) : s.extract p q = bsOf ((restB s p).take k) := by rw [h]; exact extract_bytes s p k


set_option maxRecDepth 100000 in
set_option maxHeartbeats 700000 in
theorem rdQuoted_any (r : Nat) (s : ByteArray) (p : Nat) (w : World) (h : RdAt r s p w) (hs : s.size ≤ 65536) (hp : p ≤ s.size) :
    Calls Tryz.prog 99 #[.pointer (some ⟨r, 0, none⟩)] w fun e w' => w.grownBy w' (some r) ∧
      ((∃ v q, quotedL (restB s p) = some (v, restB s q) ∧ q ≤ s.size ∧ e = .returned (.tuple #[.string (bsOf v), .bool true]) ∧ RdAt r s q w') ∨ (quotedL (restB s p) = none ∧ e = .returned (.tuple #[.string ⟨#[]⟩, .bool false]) ∧ ∃ q, q ≤ s.size ∧ RdAt r s q w')) := by
  have hrl := (Array.getElem?_eq_some_iff.1 h).1
  have HR := Sp.hid h
  have HIS := Sp.hid (rdIs_any r s mkQuot p w h hs hp)
  clear h
  by_cases hlt : p < s.size
  rotate_left
  · have hq : quotedL (restB s p) = none := by rw [restB_end hlt]; rfl
    have him : isM mkQuot s p = false := by unfold isM; rw [dif_neg hlt]
    rw [him] at HIS
    have HQ := Sp.hid hq
    clear him hq
    go_enter Tryz.func99, Tryz.ntmps99
    go_wp2_with fail
    refine HIS.out.mono ?_
    rintro e w1 ⟨rfl, hb⟩
    have HB := Sp.hid hb
    clear hb
    go_wp2
    refine bodyPost_ret (v := .tuple #[.string ⟨#[]⟩, .bool false]) (by simp [results, Tryz.f99, go_sem]) rfl ?_
    exact ⟨grown_weak (grown_below HB.out), .inr ⟨HQ.out, rfl, p, hp, HR.out.below HB.out⟩⟩
  rw [isM_at hlt] at HIS
  obtain ⟨c, hc⟩ : ∃ c, c = s[p] := ⟨_, rfl⟩
  have hl := restB_at hlt
  rw [← hc] at HIS hl
  have hcg : s[p]? = some c := by rw [hc]; simp [hlt]
  cases hq : hasB mkQuot c
  · rw [hq] at HIS
    have HQ := Sp.hid (show quotedL (restB s p) = none by rw [hl]; simp only [quotedL, hq, Bool.false_eq_true, if_false])
    clear hc hl hcg hq
    go_enter Tryz.func99, Tryz.ntmps99
    go_wp2_with fail
    refine HIS.out.mono ?_
    rintro e w1 ⟨rfl, hb⟩
    have HB := Sp.hid hb
    clear hb
    go_wp2
    refine bodyPost_ret (v := .tuple #[.string ⟨#[]⟩, .bool false]) (by simp [results, Tryz.f99, go_sem]) rfl ?_
    exact ⟨grown_weak (grown_below HB.out), .inr ⟨HQ.out, rfl, p, hp, HR.out.below HB.out⟩⟩
  rw [hq] at HIS
  have HQL := Sp.hid (show quotedL (restB s p) = if Lib.indexByte (restB s (p + 1)) c < 0 then none else some ((restB s (p + 1)).take (Lib.indexByte (restB s (p + 1)) c).toNat, (restB s (p + 1)).drop ((Lib.indexByte (restB s (p + 1)) c).toNat + 1)) by rw [hl]; simp only [quotedL, hq, if_true])
  have HC := Sp.hid hc
  clear hl hcg hq hc
  have hlt' : ((p : Nat) : Int) < (s.size : Int) := by omega
  go_enter Tryz.func99, Tryz.ntmps99
  go_wp2_with fail
  refine HIS.out.mono ?_
  rintro e w1 ⟨rfl, hb⟩
  have hR1 := HR.out.below hb
  have HC1 := Sp.hid (fun w' => RdAt.cells (w' := w') hR1)
  have HB := Sp.hid hb
  have HR1 := Sp.hid hR1
  have hsz1 := hb.size
  clear hb hR1
  go_wp2
  refine Sp.wp_region_read (by kernel_rfl) [some 10, some 11, some 12, some 13, some 14, some 15, some 16, some 17, some 18, some 4] [?r1v0, ?r1v1, ?r1v2, ?r1v3, ?r1v4, ?r1v5, ?r1v6, ?r1v7, ?r1v8, ?r1v9] rfl (by kernel_rfl) (by kernel_rfl) (by kernel_rfl) ?r1fr ?r1hfr ?r1step ?r1fin
  case r1hfr => intro u; simp only [Sp.fillFrom, Sp.idx_cons, Sp.idx_nil, Option.some.injEq, reduceCtorEq, reduceIte, Nat.reduceEqDiff, Nat.reduceAdd, Option.map_some, Option.map_none]; exact rfl
  case r1step =>
    refine ⟨?_, ?_, ?_, ?_, ?_, ?_, ?_, ?_, ?_, ?_, trivial⟩
    all_goals
      intro u w1 hG hD; simp only [Sp.DepsHold, List.map_cons, List.map_nil, Sp.isV, Sp.any_text, Sp.any_gc, Bool.false_eq_true, false_implies, Sp.factAt, Region.binds, List.getElem?_cons_zero, List.getElem?_cons_succ, List.getElem?_nil, Option.getD_some, Option.getD_none, and_true, true_and, true_implies, implies_true] at hD; dsimp only
      obtain ⟨c0, c1⟩ := HC1.out w1 hG
      clear hG
      repeat (obtain ⟨hE, hD⟩ := hD; (try rw [hE]); clear hE)
      try rw [hD]
      try clear hD
      go_wp2_with (fail)
      (with_reducible apply Sp.rd_close); (first | exact HB2.out | exact Below.refl _ _); exact rfl; refine Sp.isV_at ?_; exact rfl
  case r1fin => 
    intro w' hG; simp only [List.getElem?_cons_zero, List.getElem?_cons_succ, Option.getD_some]
    rw [← HC.out]
    have hR2 := HR1.out.below hG
    have HB2 := Sp.hid hG
    have hsz2 := hG.size
    obtain ⟨c0, c1⟩ := hR2.cells (Below.refl _ _)
    have f1 : w'.frozen? ⟨r, 1, none⟩ = false := by unfold RdAt at hR2; simp [World.frozen?, hR2]
    have HR2 := Sp.hid hR2
    clear hG hR2
    go_wp2
    obtain ⟨p1, hp1e⟩ : ∃ p1, p1 = p + 1 := ⟨_, rfl⟩
    have e1 : ((p : Nat) : Int) + 1 = ((p1 : Nat) : Int) := by omega
    rw [e1]
    obtain ⟨m1, m2⟩ := HR2.out.move (q := p1)
    obtain ⟨wm, hwm⟩ : ∃ wm, wm = w'.setCell ⟨r, 1, none⟩ (.int .i64 ((p1 : Nat) : Int)) := ⟨_, rfl⟩
    rw [← hwm] at m1 m2 ⊢
    have HM1 := Sp.hid m1
    have HM2 := Sp.hid (grown_trans (grown_trans (grown_weak (r := some r) (grown_below HB.out)) (grown_weak (grown_below HB2.out))) m2)
    have HCM := Sp.hid (fun w' => RdAt.cells (w' := w') m1)
    have hrm := (Array.getElem?_eq_some_iff.1 m1).1
    have HQ2 := Sp.hid HQL.out
    rw [← hp1e] at HQ2
    have hp1 : p1 ≤ s.size := by omega
    have hidx : idxB (s.extract p1 s.size) ((((c.toNat : Nat) : Int).toNat).toUInt8) = Lib.indexByte (restB s p1) c := by
      unfold idxB; rw [restB_list, u8_back]
    have HP1 := Sp.hid hp1e
    clear m1 m2 hwm e1 c0 c1 f1 HQL hp1e hlt hlt' HC HR HIS HB HR1 HC1 HB2 HR2 hsz1 hsz2 hrl
    rcases idxB_spec (restB s p1) c with ⟨h1, _⟩ | ⟨i, hi, h1, _, _⟩
    · rw [h1] at hidx HQ2
      have HIX := Sp.hid hidx
      have HQ3 := Sp.hid (show quotedL (restB s p) = none by rw [HQ2.out]; rfl)
      clear hidx HQ2 h1
      refine Sp.wp_region_read (by kernel_rfl) [some 26, some 27, some 28, some 29, some 30, some 31, some 32, some 33, some 34, some 35, some 36, some 5] [?r2v0, ?r2v1, ?r2v2, ?r2v3, ?r2v4, ?r2v5, ?r2v6, ?r2v7, ?r2v8, ?r2v9, ?r2v10, ?r2v11] rfl (by kernel_rfl) (by kernel_rfl) (by kernel_rfl) ?r2fr ?r2hfr ?r2step ?r2fin
      case r2hfr => intro u; simp only [Sp.fillFrom, Sp.idx_cons, Sp.idx_nil, Option.some.injEq, reduceCtorEq, reduceIte, Nat.reduceEqDiff, Nat.reduceAdd, Option.map_some, Option.map_none]; exact rfl
      case r2step =>
        refine ⟨?_, ?_, ?_, ?_, ?_, ?_, ?_, ?_, ?_, ?_, ?_, ?_, trivial⟩
        all_goals
          intro u w1 hG hD; simp only [Sp.DepsHold, List.map_cons, List.map_nil, Sp.isV, Sp.any_text, Sp.any_gc, Bool.false_eq_true, false_implies, Sp.factAt, Region.binds, List.getElem?_cons_zero, List.getElem?_cons_succ, List.getElem?_nil, Option.getD_some, Option.getD_none, and_true, true_and, true_implies, implies_true] at hD; dsimp only
          obtain ⟨c0, c1⟩ := HCM.out w1 hG
          clear hG
          repeat (obtain ⟨hE, hD⟩ := hD; (try rw [hE]); clear hE)
          try rw [hD]
          try clear hD
          go_wp2_with (go_at_call 101; refine (strIndexByte_any _ _ _).mono ?_; rintro e w2 ⟨rfl, rfl⟩; rw [HIX.out])
          (with_reducible apply Sp.rd_close); (first | exact HB2.out | exact Below.refl _ _); exact rfl; refine Sp.isV_at ?_; exact rfl
      case r2fin => 
        intro w' hG; simp only [List.getElem?_cons_zero, List.getElem?_cons_succ, Option.getD_some]
        have HB3 := Sp.hid hG
        clear hG
        go_wp2
        refine bodyPost_ret (v := .tuple #[.string ⟨#[]⟩, .bool false]) (by simp [results, Tryz.f99, go_sem]) rfl ?_
        exact ⟨grown_trans HM2.out (grown_weak (grown_below HB3.out)), .inr ⟨HQ3.out, rfl, p1, hp1, HM1.out.below HB3.out⟩⟩
    · rw [h1] at hidx HQ2
      have HIX := Sp.hid hidx
      rw [restB_len] at hi
      have hpi : p1 + i ≤ s.size := by omega
      have hpi' : p1 + i + 1 ≤ s.size := by omega
      have HQ3 := Sp.hid (show quotedL (restB s p) = some ((restB s p1).take i, restB s (p1 + (i + 1))) by
        rw [HQ2.out, if_neg (by omega), restB_drop]; simp)
      clear hidx HQ2 h1 hi
      refine Sp.wp_region_read (by kernel_rfl) [some 26, some 27, some 28, some 29, some 30, some 31, some 32, some 33, some 34, some 35, some 36, some 5] [?r3v0, ?r3v1, ?r3v2, ?r3v3, ?r3v4, ?r3v5, ?r3v6, ?r3v7, ?r3v8, ?r3v9, ?r3v10, ?r3v11] rfl (by kernel_rfl) (by kernel_rfl) (by kernel_rfl) ?r3fr ?r3hfr ?r3step ?r3fin
      case r3hfr => intro u; simp only [Sp.fillFrom, Sp.idx_cons, Sp.idx_nil, Option.some.injEq, reduceCtorEq, reduceIte, Nat.reduceEqDiff, Nat.reduceAdd, Option.map_some, Option.map_none]; exact rfl
      case r3step =>
        refine ⟨?_, ?_, ?_, ?_, ?_, ?_, ?_, ?_, ?_, ?_, ?_, ?_, trivial⟩
        all_goals
          intro u w1 hG hD; simp only [Sp.DepsHold, List.map_cons, List.map_nil, Sp.isV, Sp.any_text, Sp.any_gc, Bool.false_eq_true, false_implies, Sp.factAt, Region.binds, List.getElem?_cons_zero, List.getElem?_cons_succ, List.getElem?_nil, Option.getD_some, Option.getD_none, and_true, true_and, true_implies, implies_true] at hD; dsimp only
          obtain ⟨c0, c1⟩ := HCM.out w1 hG
          clear hG
          repeat (obtain ⟨hE, hD⟩ := hD; (try rw [hE]); clear hE)
          try rw [hD]
          try clear hD
          go_wp2_with (go_at_call 101; refine (strIndexByte_any _ _ _).mono ?_; rintro e w2 ⟨rfl, rfl⟩; rw [HIX.out])
          (with_reducible apply Sp.rd_close); (first | exact HB2.out | exact Below.refl _ _); exact rfl; refine Sp.isV_at ?_; exact rfl
      case r3fin => 
        intro w' hG; simp only [List.getElem?_cons_zero, List.getElem?_cons_succ, Option.getD_some]
        have hR3 := HM1.out.below hG
        have HB3 := Sp.hid hG
        have HR3 := Sp.hid hR3
        have HC3 := Sp.hid (fun w' => RdAt.cells (w' := w') hR3)
        have hszm := hG.size
        clear hG hR3
        go_wp2
        refine Sp.wp_region_read (by kernel_rfl) [some 39, some 40, some 41, some 42, some 43, some 44, some 45, some 46, some 47, some 48, some 49, some 50, some 51, some 52, some 53, some 6] [?r4v0, ?r4v1, ?r4v2, ?r4v3, ?r4v4, ?r4v5, ?r4v6, ?r4v7, ?r4v8, ?r4v9, ?r4v10, ?r4v11, ?r4v12, ?r4v13, ?r4v14, ?r4v15] rfl (by kernel_rfl) (by kernel_rfl) (by kernel_rfl) ?r4fr ?r4hfr ?r4step ?r4fin
        case r4hfr => intro u; simp only [Sp.fillFrom, Sp.idx_cons, Sp.idx_nil, Option.some.injEq, reduceCtorEq, reduceIte, Nat.reduceEqDiff, Nat.reduceAdd, Option.map_some, Option.map_none]; exact rfl
        case r4step =>
          refine ⟨?_, ?_, ?_, ?_, ?_, ?_, ?_, ?_, ?_, ?_, ?_, ?_, ?_, ?_, ?_, ?_, trivial⟩
          all_goals
            intro u w1 hG hD; simp only [Sp.DepsHold, List.map_cons, List.map_nil, Sp.isV, Sp.any_text, Sp.any_gc, Bool.false_eq_true, false_implies, Sp.factAt, Region.binds, List.getElem?_cons_zero, List.getElem?_cons_succ, List.getElem?_nil, Option.getD_some, Option.getD_none, and_true, true_and, true_implies, implies_true] at hD; dsimp only
            obtain ⟨c0, c1⟩ := HC3.out w1 hG
            clear hG
            repeat (obtain ⟨hE, hD⟩ := hD; (try rw [hE]); clear hE)
            try rw [hD]
            try clear hD
            go_wp2_with (fail)
            (with_reducible apply Sp.rd_close); (first | exact HB2.out | exact Below.refl _ _); exact rfl; refine Sp.isV_at ?_; exact rfl
        case r4fin => 
          intro w' hG; simp only [List.getElem?_cons_zero, List.getElem?_cons_succ, Option.getD_some]
          have hR4 := HR3.out.below hG
          have HB4 := Sp.hid hG
          have hsz4 := hG.size
          obtain ⟨c0, c1⟩ := hR4.cells (Below.refl _ _)
          have f1 : w'.frozen? ⟨r, 1, none⟩ = false := by unfold RdAt at hR4; simp [World.frozen?, hR4]
          have HR4 := Sp.hid hR4
          clear hG hR4
          go_wp2
          have e3 : ((p1 : Nat) : Int) + (((i : Nat) : Int) + 1) = ((p1 + (i + 1) : Nat) : Int) := by omega
          rw [e3]
          obtain ⟨m1, m2⟩ := HR4.out.move (q := p1 + (i + 1))
          refine bodyPost_ret (v := .tuple #[.string (s.extract p1 (p1 + i)), .bool true]) (by simp [results, Tryz.f99, go_sem]) rfl ?_
          exact ⟨grown_trans (grown_trans (grown_trans HM2.out (grown_weak (grown_below HB3.out))) (grown_weak (grown_below HB4.out))) m2, .inl ⟨(restB s p1).take i, p1 + (i + 1), HQ3.out, by omega, by rw [extract_bytes], m1⟩⟩

end Go.Proofs.YtoknglpfchjbjaaGreatDoor

/- The reader of path.Parse: a place. Conditions: none. -/
namespace Go.Proofs.YtoknglpfchjbjaaGreatDoor
open Go.RowKit Go.Sp Go.Maps

theorem dig_range {c : UInt8} (h : hasB mkDig c = true) : 48 ≤ c.toNat ∧ c.toNat ≤ 57 := by
  rw [hasB_iff] at h
  simp only [List.mem_cons, List.not_mem_nil, or_false] at h
  rcases h with rfl | rfl | rfl | rfl | rfl | rfl | rfl | rfl | rfl | rfl <;> decide

theorem pow_lt3 {m : Int} {j : Nat} (h : m < 10 ^ j) (hj : j < 4) : m ≤ 999 := by
  have h2 : j = 0 ∨ j = 1 ∨ j = 2 ∨ j = 3 := by omega
  rcases h2 with rfl | rfl | rfl | rfl <;> simp at h <;> omega

theorem pow_step {m d : Int} {j : Nat} (h : m < 10 ^ j) (hd : d ≤ 9) : m * 10 + d < 10 ^ (j + 1) := by
  have e : (10 : Int) ^ (j + 1) = 10 ^ j * 10 := Int.pow_succ _ _
  rw [e]; omega


set_option maxRecDepth 100000 in
set_option maxHeartbeats 1500000 in
theorem rdPlace_any (r : Nat) (s : ByteArray) (p : Nat) (w : World) (h : RdAt r s p w) (hs : s.size ≤ 65536) (hp : p ≤ s.size) :
    Calls Tryz.prog 100 #[.pointer (some ⟨r, 0, none⟩)] w fun e w' => w.grownBy w' (some r) ∧
      e = .returned (.tuple #[.int .i64 (placeN 4 0 (restB s p)).1, .bool (decide (0 < (placeN 4 0 (restB s p)).1))]) ∧ RdAt r s (p + (placeN 4 0 (restB s p)).2) w' := by
  have HR := Sp.hid h
  clear h
  obtain ⟨N, hN⟩ : ∃ N, N = (placeN 4 0 (restB s p)).1 := ⟨_, rfl⟩
  obtain ⟨K, hK⟩ : ∃ K, K = (placeN 4 0 (restB s p)).2 := ⟨_, rfl⟩
  rw [← hN, ← hK]
  have HN := Sp.hid hN
  have HK := Sp.hid hK
  have hKs : p + K ≤ s.size := by have := (placeN_le 4 0 (restB s p)).1; rw [restB_len] at this; omega
  clear hN hK
  go_enter Tryz.func100, Tryz.ntmps100
  go_wp2
  go_loopw [4, 5] (fun n i wr => ∃ (j : Nat) (m : Int), j ≤ 4 ∧ i = .int .i64 (j : Nat) ∧ n = .int .i64 m ∧ 0 ≤ m ∧ m < 10 ^ j ∧ (placeN (4 - j) m (restB s (p + j))).1 = N ∧ (placeN (4 - j) m (restB s (p + j))).2 + j = K ∧ RdAt r s (p + j) wr ∧ w.grownBy wr (some r)) (fun _ i _ => 4 - (intOf i).toNat)
  case atStart => exact ⟨0, 0, by omega, rfl, rfl, by omega, by decide, by simpa using HN.out.symm, by simpa using HK.out.symm, by simpa using HR.out, grown_refl _ _⟩
  case round =>
    obtain ⟨j, m, hj, rfl, rfl, hm0, hm1, hNm, hKm, hrk, hgr⟩ := hrel
    obtain ⟨q, hq⟩ : ∃ q, q = p + j := ⟨_, rfl⟩
    rw [← hq] at hNm hKm hrk
    have hqs0 : q ≤ s.size := by omega
    have HC := Sp.hid (fun w' => RdAt.cells (w' := w') hrk)
    have HIS := Sp.hid (fun W (hb : Below wr.heap.size wr W) => rdIs_any r s mkDig q W (hrk.below hb) hs hqs0)
    have HRK := Sp.hid hrk
    have HGR := Sp.hid hgr
    have HQ := Sp.hid hq
    have HM1 := Sp.hid hm1
    have hrl := (Array.getElem?_eq_some_iff.1 hrk).1
    clear hrk hgr hq hm1
    by_cases hj4 : j = 4
    · subst hj4
      simp only [Nat.sub_self, placeN] at hNm hKm
      have HNM := Sp.hid hNm
      have HKM := Sp.hid hKm
      have HIM := Sp.hid trivial
      clear hNm hKm
      go_wp2
      refine Sp.wp_region_read (by kernel_rfl) [some 6, some 7, some 8, some 9, some 10, some 11, some 12, some 13, some 14, some 15, some 16, some 17, some 18, some 19, some 20, some 21, some 22, some 23, some 24, some 25, some 26, some 27, some 28] [?r5v0, ?r5v1, ?r5v2, ?r5v3, ?r5v4, ?r5v5, ?r5v6, ?r5v7, ?r5v8, ?r5v9, ?r5v10, ?r5v11, ?r5v12, ?r5v13, ?r5v14, ?r5v15, ?r5v16, ?r5v17, ?r5v18, ?r5v19, ?r5v20, ?r5v21, ?r5v22] rfl (by kernel_rfl) (by kernel_rfl) (by kernel_rfl) ?r5fr ?r5hfr ?r5step ?r5fin
      case r5hfr => intro u; simp only [Sp.fillFrom, Sp.idx_cons, Sp.idx_nil, Option.some.injEq, reduceCtorEq, reduceIte, Nat.reduceEqDiff, Nat.reduceAdd, Option.map_some, Option.map_none]; exact rfl
      case r5step =>
        refine ⟨?_, ?_, ?_, ?_, ?_, ?_, ?_, ?_, ?_, ?_, ?_, ?_, ?_, ?_, ?_, ?_, ?_, ?_, ?_, ?_, ?_, ?_, ?_, trivial⟩
        all_goals
          intro u w1 hG hD; simp only [Sp.DepsHold, List.map_cons, List.map_nil, Sp.isV, Sp.any_text, Sp.any_gc, Bool.false_eq_true, false_implies, Sp.factAt, Region.binds, List.getElem?_cons_zero, List.getElem?_cons_succ, List.getElem?_nil, Option.getD_some, Option.getD_none, and_true, true_and, true_implies, implies_true] at hD; dsimp only
          have HG1 := Sp.hid hG; obtain ⟨c0, c1⟩ := HC.out w1 hG
          clear hG
          repeat (obtain ⟨hE, hD⟩ := hD; (try rw [hE]); clear hE)
          try rw [hD]
          try clear hD
          go_wp2_with (go_at_call 84; refine (HIS.out _ HG1.out).mono ?_; rintro e w2 ⟨rfl, hb2⟩; rw [HIM.out]; have HB2 := Sp.hid hb2; clear hb2)
          (with_reducible apply Sp.rd_close); (first | exact HB2.out | exact Below.refl _ _); exact rfl; refine Sp.isV_at ?_; exact rfl
      case r5fin => 
        intro w' hG; simp only [List.getElem?_cons_zero, List.getElem?_cons_succ, Option.getD_some]
        have HGW := Sp.hid hG
        have hRw := HRK.out.below hG
        have HRW := Sp.hid hRw
        clear hG hRw
        go_wp2
        refine bodyPost_ret (v := .tuple #[.int .i64 m, .bool (decide (0 < m))]) (by simp [results, Tryz.f100, go_sem]) rfl ?_
        have hqK : q = p + K := by have := HQ.out; have := HKM.out; omega
        exact ⟨grown_trans HGR.out (grown_weak (grown_below HGW.out)), by rw [HNM.out], by rw [← hqK]; exact HRW.out⟩
    have hj4' : j < 4 := by omega
    have hj4i : ((j : Nat) : Int) < 4 := by omega
    obtain ⟨k, hk⟩ : ∃ k, 4 - j = k + 1 := ⟨3 - j, by omega⟩
    by_cases hlt : q < s.size
    rotate_left
    · rw [restB_end hlt, hk] at hNm hKm
      simp only [placeN] at hNm hKm
      have HNM := Sp.hid hNm
      have HKM := Sp.hid hKm
      have HIM := Sp.hid (show isM mkDig s q = false by unfold isM; rw [dif_neg hlt])
      clear hNm hKm hk
      go_wp2
      refine Sp.wp_region_read (by kernel_rfl) [some 6, some 7, some 8, some 9, some 10, some 11, some 12, some 13, some 14, some 15, some 16, some 17, some 18, some 19, some 20, some 21, some 22, some 23, some 24, some 25, some 26, some 27, some 28] [?r6v0, ?r6v1, ?r6v2, ?r6v3, ?r6v4, ?r6v5, ?r6v6, ?r6v7, ?r6v8, ?r6v9, ?r6v10, ?r6v11, ?r6v12, ?r6v13, ?r6v14, ?r6v15, ?r6v16, ?r6v17, ?r6v18, ?r6v19, ?r6v20, ?r6v21, ?r6v22] rfl (by kernel_rfl) (by kernel_rfl) (by kernel_rfl) ?r6fr ?r6hfr ?r6step ?r6fin
      case r6hfr => intro u; simp only [Sp.fillFrom, Sp.idx_cons, Sp.idx_nil, Option.some.injEq, reduceCtorEq, reduceIte, Nat.reduceEqDiff, Nat.reduceAdd, Option.map_some, Option.map_none]; exact rfl
      case r6step =>
        refine ⟨?_, ?_, ?_, ?_, ?_, ?_, ?_, ?_, ?_, ?_, ?_, ?_, ?_, ?_, ?_, ?_, ?_, ?_, ?_, ?_, ?_, ?_, ?_, trivial⟩
        all_goals
          intro u w1 hG hD; simp only [Sp.DepsHold, List.map_cons, List.map_nil, Sp.isV, Sp.any_text, Sp.any_gc, Bool.false_eq_true, false_implies, Sp.factAt, Region.binds, List.getElem?_cons_zero, List.getElem?_cons_succ, List.getElem?_nil, Option.getD_some, Option.getD_none, and_true, true_and, true_implies, implies_true] at hD; dsimp only
          have HG1 := Sp.hid hG; obtain ⟨c0, c1⟩ := HC.out w1 hG
          clear hG
          repeat (obtain ⟨hE, hD⟩ := hD; (try rw [hE]); clear hE)
          try rw [hD]
          try clear hD
          go_wp2_with (go_at_call 84; refine (HIS.out _ HG1.out).mono ?_; rintro e w2 ⟨rfl, hb2⟩; rw [HIM.out]; have HB2 := Sp.hid hb2; clear hb2)
          (with_reducible apply Sp.rd_close); (first | exact HB2.out | exact Below.refl _ _); exact rfl; refine Sp.isV_at ?_; exact rfl
      case r6fin => 
        intro w' hG; simp only [List.getElem?_cons_zero, List.getElem?_cons_succ, Option.getD_some]
        have HGW := Sp.hid hG
        have hRw := HRK.out.below hG
        have HRW := Sp.hid hRw
        clear hG hRw
        go_wp2
        refine bodyPost_ret (v := .tuple #[.int .i64 m, .bool (decide (0 < m))]) (by simp [results, Tryz.f100, go_sem]) rfl ?_
        have hqK : q = p + K := by have := HQ.out; have := HKM.out; omega
        exact ⟨grown_trans HGR.out (grown_weak (grown_below HGW.out)), by rw [HNM.out], by rw [← hqK]; exact HRW.out⟩
    have HIM := Sp.hid (isM_at (marks := mkDig) hlt)
    rw [restB_at hlt, hk] at hNm hKm
    cases hb : hasB mkDig s[q]
    · rw [hb] at HIM
      simp only [placeN, hb, Bool.false_and, Bool.false_eq_true, if_false] at hNm hKm
      have HNM := Sp.hid hNm
      have HKM := Sp.hid hKm
      clear hNm hKm hk hb
      go_wp2
      refine Sp.wp_region_read (by kernel_rfl) [some 6, some 7, some 8, some 9, some 10, some 11, some 12, some 13, some 14, some 15, some 16, some 17, some 18, some 19, some 20, some 21, some 22, some 23, some 24, some 25, some 26, some 27, some 28] [?r7v0, ?r7v1, ?r7v2, ?r7v3, ?r7v4, ?r7v5, ?r7v6, ?r7v7, ?r7v8, ?r7v9, ?r7v10, ?r7v11, ?r7v12, ?r7v13, ?r7v14, ?r7v15, ?r7v16, ?r7v17, ?r7v18, ?r7v19, ?r7v20, ?r7v21, ?r7v22] rfl (by kernel_rfl) (by kernel_rfl) (by kernel_rfl) ?r7fr ?r7hfr ?r7step ?r7fin
      case r7hfr => intro u; simp only [Sp.fillFrom, Sp.idx_cons, Sp.idx_nil, Option.some.injEq, reduceCtorEq, reduceIte, Nat.reduceEqDiff, Nat.reduceAdd, Option.map_some, Option.map_none]; exact rfl
      case r7step =>
        refine ⟨?_, ?_, ?_, ?_, ?_, ?_, ?_, ?_, ?_, ?_, ?_, ?_, ?_, ?_, ?_, ?_, ?_, ?_, ?_, ?_, ?_, ?_, ?_, trivial⟩
        all_goals
          intro u w1 hG hD; simp only [Sp.DepsHold, List.map_cons, List.map_nil, Sp.isV, Sp.any_text, Sp.any_gc, Bool.false_eq_true, false_implies, Sp.factAt, Region.binds, List.getElem?_cons_zero, List.getElem?_cons_succ, List.getElem?_nil, Option.getD_some, Option.getD_none, and_true, true_and, true_implies, implies_true] at hD; dsimp only
          have HG1 := Sp.hid hG; obtain ⟨c0, c1⟩ := HC.out w1 hG
          clear hG
          repeat (obtain ⟨hE, hD⟩ := hD; (try rw [hE]); clear hE)
          try rw [hD]
          try clear hD
          go_wp2_with (go_at_call 84; refine (HIS.out _ HG1.out).mono ?_; rintro e w2 ⟨rfl, hb2⟩; rw [HIM.out]; have HB2 := Sp.hid hb2; clear hb2)
          (with_reducible apply Sp.rd_close); (first | exact HB2.out | exact Below.refl _ _); exact rfl; refine Sp.isV_at ?_; exact rfl
      case r7fin => 
        intro w' hG; simp only [List.getElem?_cons_zero, List.getElem?_cons_succ, Option.getD_some]
        have HGW := Sp.hid hG
        have hRw := HRK.out.below hG
        have HRW := Sp.hid hRw
        clear hG hRw
        go_wp2
        refine bodyPost_ret (v := .tuple #[.int .i64 m, .bool (decide (0 < m))]) (by simp [results, Tryz.f100, go_sem]) rfl ?_
        have hqK : q = p + K := by have := HQ.out; have := HKM.out; omega
        exact ⟨grown_trans HGR.out (grown_weak (grown_below HGW.out)), by rw [HNM.out], by rw [← hqK]; exact HRW.out⟩
    rw [hb] at HIM
    have hrg := dig_range hb
    by_cases hz : k + 1 = 4 ∧ s[q] = 48
    · obtain ⟨hz1, hz2⟩ := hz
      obtain rfl : j = 0 := by omega
      have hcond : (hasB mkDig s[q] && !(k + 1 == 4 && s[q] == 48)) = false := by rw [hz2, hz1]; simp
      simp only [placeN, hcond, Bool.false_eq_true, if_false] at hNm hKm
      have HNM := Sp.hid hNm
      have HKM := Sp.hid hKm
      have h48 : ((s[q].toNat : Nat) : Int) == 48 := by rw [hz2]; decide
      clear hNm hKm hk hb hcond hz1 hz2
      go_wp2
      refine Sp.wp_region_read (by kernel_rfl) [some 6, some 7, some 8, some 9, some 10, some 11, some 12, some 13, some 14, some 15, some 16, some 17, some 18, some 19, some 20, some 21, some 22, some 23, some 24, some 25, some 26, some 27, some 28] [?r8v0, ?r8v1, ?r8v2, ?r8v3, ?r8v4, ?r8v5, ?r8v6, ?r8v7, ?r8v8, ?r8v9, ?r8v10, ?r8v11, ?r8v12, ?r8v13, ?r8v14, ?r8v15, ?r8v16, ?r8v17, ?r8v18, ?r8v19, ?r8v20, ?r8v21, ?r8v22] rfl (by kernel_rfl) (by kernel_rfl) (by kernel_rfl) ?r8fr ?r8hfr ?r8step ?r8fin
      case r8hfr => intro u; simp only [Sp.fillFrom, Sp.idx_cons, Sp.idx_nil, Option.some.injEq, reduceCtorEq, reduceIte, Nat.reduceEqDiff, Nat.reduceAdd, Option.map_some, Option.map_none]; exact rfl
      case r8step =>
        refine ⟨?_, ?_, ?_, ?_, ?_, ?_, ?_, ?_, ?_, ?_, ?_, ?_, ?_, ?_, ?_, ?_, ?_, ?_, ?_, ?_, ?_, ?_, ?_, trivial⟩
        all_goals
          intro u w1 hG hD; simp only [Sp.DepsHold, List.map_cons, List.map_nil, Sp.isV, Sp.any_text, Sp.any_gc, Bool.false_eq_true, false_implies, Sp.factAt, Region.binds, List.getElem?_cons_zero, List.getElem?_cons_succ, List.getElem?_nil, Option.getD_some, Option.getD_none, and_true, true_and, true_implies, implies_true] at hD; dsimp only
          have HG1 := Sp.hid hG; obtain ⟨c0, c1⟩ := HC.out w1 hG
          clear hG
          repeat (obtain ⟨hE, hD⟩ := hD; (try rw [hE]); clear hE)
          try rw [hD]
          try clear hD
          go_wp2_with (go_at_call 84; refine (HIS.out _ HG1.out).mono ?_; rintro e w2 ⟨rfl, hb2⟩; rw [HIM.out]; have HB2 := Sp.hid hb2; clear hb2)
          (with_reducible apply Sp.rd_close); (first | exact HB2.out | exact Below.refl _ _); exact rfl; refine Sp.isV_at ?_; exact rfl
      case r8fin => 
        intro w' hG; simp only [List.getElem?_cons_zero, List.getElem?_cons_succ, Option.getD_some]
        have HGW := Sp.hid hG
        have hRw := HRK.out.below hG
        have HRW := Sp.hid hRw
        clear hG hRw
        go_wp2
        refine bodyPost_ret (v := .tuple #[.int .i64 m, .bool (decide (0 < m))]) (by simp [results, Tryz.f100, go_sem]) rfl ?_
        have hqK : q = p + K := by have := HQ.out; have := HKM.out; omega
        exact ⟨grown_trans HGR.out (grown_weak (grown_below HGW.out)), by rw [HNM.out], by rw [← hqK]; exact HRW.out⟩
    · have hcond : (hasB mkDig s[q] && !(k + 1 == 4 && s[q] == 48)) = true := by
        rw [hb, Bool.true_and, Bool.not_eq_true', Bool.and_eq_false_iff]
        by_cases h4 : k + 1 = 4
        · right; simpa using fun e => hz ⟨h4, e⟩
        · left; simpa using h4
      simp only [placeN, hcond, if_true] at hNm hKm
      have hm3 : m ≤ 999 := pow_lt3 HM1.out hj4'
      have HNM := Sp.hid hNm
      have HKM := Sp.hid hKm
      have HK4 := Sp.hid hk
      clear hNm hKm hcond
      by_cases hj0 : j = 0
      · have h48 : (((s[q].toNat : Nat) : Int) == 48) = false := by
          rw [beq_eq_false_iff_ne]
          intro e
          exact hz ⟨by omega, by apply UInt8.toNat_inj.1; exact Int.ofNat_inj.1 e⟩
        subst hj0
        clear hz hb hk
        go_wp2
        refine Sp.wp_region_read (by kernel_rfl) [some 6, some 7, some 8, some 9, some 10, some 11, some 12, some 13, some 14, some 15, some 16, some 17, some 18, some 19, some 20, some 21, some 22, some 23, some 24, some 25, some 26, some 27, some 28] [?r9v0, ?r9v1, ?r9v2, ?r9v3, ?r9v4, ?r9v5, ?r9v6, ?r9v7, ?r9v8, ?r9v9, ?r9v10, ?r9v11, ?r9v12, ?r9v13, ?r9v14, ?r9v15, ?r9v16, ?r9v17, ?r9v18, ?r9v19, ?r9v20, ?r9v21, ?r9v22] rfl (by kernel_rfl) (by kernel_rfl) (by kernel_rfl) ?r9fr ?r9hfr ?r9step ?r9fin
        case r9hfr => intro u; simp only [Sp.fillFrom, Sp.idx_cons, Sp.idx_nil, Option.some.injEq, reduceCtorEq, reduceIte, Nat.reduceEqDiff, Nat.reduceAdd, Option.map_some, Option.map_none]; exact rfl
        case r9step =>
          refine ⟨?_, ?_, ?_, ?_, ?_, ?_, ?_, ?_, ?_, ?_, ?_, ?_, ?_, ?_, ?_, ?_, ?_, ?_, ?_, ?_, ?_, ?_, ?_, trivial⟩
          all_goals
            intro u w1 hG hD; simp only [Sp.DepsHold, List.map_cons, List.map_nil, Sp.isV, Sp.any_text, Sp.any_gc, Bool.false_eq_true, false_implies, Sp.factAt, Region.binds, List.getElem?_cons_zero, List.getElem?_cons_succ, List.getElem?_nil, Option.getD_some, Option.getD_none, and_true, true_and, true_implies, implies_true] at hD; dsimp only
            have HG1 := Sp.hid hG; obtain ⟨c0, c1⟩ := HC.out w1 hG
            clear hG
            repeat (obtain ⟨hE, hD⟩ := hD; (try rw [hE]); clear hE)
            try rw [hD]
            try clear hD
            go_wp2_with (go_at_call 84; refine (HIS.out _ HG1.out).mono ?_; rintro e w2 ⟨rfl, hb2⟩; rw [HIM.out]; have HB2 := Sp.hid hb2; clear hb2)
            (with_reducible apply Sp.rd_close); (first | exact HB2.out | exact Below.refl _ _); exact rfl; refine Sp.isV_at ?_; exact rfl
        case r9fin => 
          intro w' hG; simp only [List.getElem?_cons_zero, List.getElem?_cons_succ, Option.getD_some]
          have HGW := Sp.hid hG
          have hRw := HRK.out.below hG
          have hwsz := hG.size
          have HCW := Sp.hid (fun w2 => RdAt.cells (w' := w2) hRw)
          have HRW := Sp.hid hRw
          clear hG hRw
          go_wp2
          refine Sp.wp_region_read_last (by kernel_rfl) [some 31, some 32, some 33, some 34, some 35, some 36, some 37, some 38, some 39, some 40, some 41, some 42, some 43, some 44] [?r10v0, ?r10v1, ?r10v2, ?r10v3, ?r10v4, ?r10v5, ?r10v6, ?r10v7, ?r10v8, ?r10v9, ?r10v10, ?r10v11, ?r10v12, ?r10v13] rfl (by kernel_rfl) (by kernel_rfl) (by kernel_rfl) (by kernel_rfl) ?r10fr ?r10hfr ?r10step _ rfl ?r10fin
          case r10hfr => intro u; simp only [Sp.fillFrom, Sp.idx_cons, Sp.idx_nil, Option.some.injEq, reduceCtorEq, reduceIte, Nat.reduceEqDiff, Nat.reduceAdd, Option.map_some, Option.map_none]; exact rfl
          case r10step =>
            refine ⟨?_, ?_, ?_, ?_, ?_, ?_, ?_, ?_, ?_, ?_, ?_, ?_, ?_, ?_, trivial⟩
            all_goals
              intro u w1 hG hD; simp only [Sp.DepsHold, List.map_cons, List.map_nil, Sp.isV, Sp.any_text, Sp.any_gc, Bool.false_eq_true, false_implies, Sp.factAt, Region.binds, List.getElem?_cons_zero, List.getElem?_cons_succ, List.getElem?_nil, Option.getD_some, Option.getD_none, and_true, true_and, true_implies, implies_true] at hD; dsimp only
              obtain ⟨c0, c1⟩ := HCW.out w1 hG
              clear hG
              repeat (obtain ⟨hE, hD⟩ := hD; (try rw [hE]); clear hE)
              try rw [hD]
              try clear hD
              go_wp2_with (fail)
              (with_reducible apply Sp.rd_close); (first | exact HB2.out | exact Below.refl _ _); exact rfl; refine Sp.isV_at ?_; exact rfl
          case r10fin => 
            intro w' hG; simp only [List.getElem?_cons_zero, List.getElem?_cons_succ, Option.getD_some]
            go_wp2
            (with_reducible apply Sp.rl_close)
            have hR2 := HRW.out.below hG
            obtain ⟨c0, c1⟩ := hR2.cells (Below.refl _ _)
            have f1 : w'.frozen? ⟨r, 1, none⟩ = false := by unfold RdAt at hR2; simp [World.frozen?, hR2]
            have HG2 := Sp.hid hG
            have hwsz2 := hG.size
            have HR2 := Sp.hid hR2
            clear hG hR2
            go_wp2
            have e1 : ((q : Nat) : Int) + 1 = ((q + 1 : Nat) : Int) := by omega
            rw [e1]
            obtain ⟨m1, m2⟩ := HR2.out.move (q := q + 1)
            have e4 : 4 - (0 + 1) = k := by have := HK4.out; omega
            have e5 : p + (0 + 1) = q + 1 := by have := HQ.out; omega
            refine ⟨⟨0 + 1, m * 10 + (((s[q].toNat : Nat) : Int) - 48), by omega, rfl, rfl, by omega, pow_step HM1.out (by omega), ?_, ?_, ?_, ?_⟩, by simp [intOf]; try omega⟩
            · rw [e4, e5]; exact HNM.out
            · rw [e4, e5]; have := HKM.out; omega
            · rw [e5]; exact m1
            · exact grown_trans (grown_trans HGR.out (grown_trans (grown_weak (grown_below HGW.out)) (grown_weak (grown_below HG2.out)))) m2
      · have hj0' : (((j : Nat) : Int) == 0) = false := by rw [beq_eq_false_iff_ne]; omega
        have hj0n : (j == 0) = false := by rw [beq_eq_false_iff_ne]; omega
        clear hz hb hk
        go_wp2
        refine Sp.wp_region_read (by kernel_rfl) [some 6, some 7, some 8, some 9, some 10, some 11, some 12, some 13, some 14, some 15, some 16, some 17, some 18, some 19, some 20, some 21, some 22, some 23, some 24, some 25, some 26, some 27, some 28] [?r11v0, ?r11v1, ?r11v2, ?r11v3, ?r11v4, ?r11v5, ?r11v6, ?r11v7, ?r11v8, ?r11v9, ?r11v10, ?r11v11, ?r11v12, ?r11v13, ?r11v14, ?r11v15, ?r11v16, ?r11v17, ?r11v18, ?r11v19, ?r11v20, ?r11v21, ?r11v22] rfl (by kernel_rfl) (by kernel_rfl) (by kernel_rfl) ?r11fr ?r11hfr ?r11step ?r11fin
        case r11hfr => intro u; simp only [Sp.fillFrom, Sp.idx_cons, Sp.idx_nil, Option.some.injEq, reduceCtorEq, reduceIte, Nat.reduceEqDiff, Nat.reduceAdd, Option.map_some, Option.map_none]; exact rfl
        case r11step =>
          refine ⟨?_, ?_, ?_, ?_, ?_, ?_, ?_, ?_, ?_, ?_, ?_, ?_, ?_, ?_, ?_, ?_, ?_, ?_, ?_, ?_, ?_, ?_, ?_, trivial⟩
          all_goals
            intro u w1 hG hD; simp only [Sp.DepsHold, List.map_cons, List.map_nil, Sp.isV, Sp.any_text, Sp.any_gc, Bool.false_eq_true, false_implies, Sp.factAt, Region.binds, List.getElem?_cons_zero, List.getElem?_cons_succ, List.getElem?_nil, Option.getD_some, Option.getD_none, and_true, true_and, true_implies, implies_true] at hD; dsimp only
            have HG1 := Sp.hid hG; obtain ⟨c0, c1⟩ := HC.out w1 hG
            clear hG
            repeat (obtain ⟨hE, hD⟩ := hD; (try rw [hE]); clear hE)
            try rw [hD]
            try clear hD
            go_wp2_with (go_at_call 84; refine (HIS.out _ HG1.out).mono ?_; rintro e w2 ⟨rfl, hb2⟩; rw [HIM.out]; have HB2 := Sp.hid hb2; clear hb2)
            (with_reducible apply Sp.rd_close); (first | exact HB2.out | exact Below.refl _ _); exact rfl; refine Sp.isV_at ?_; exact rfl
        case r11fin => 
          intro w' hG; simp only [List.getElem?_cons_zero, List.getElem?_cons_succ, Option.getD_some]
          have HGW := Sp.hid hG
          have hRw := HRK.out.below hG
          have hwsz := hG.size
          have HCW := Sp.hid (fun w2 => RdAt.cells (w' := w2) hRw)
          have HRW := Sp.hid hRw
          clear hG hRw
          go_wp2
          refine Sp.wp_region_read_last (by kernel_rfl) [some 31, some 32, some 33, some 34, some 35, some 36, some 37, some 38, some 39, some 40, some 41, some 42, some 43, some 44] [?r12v0, ?r12v1, ?r12v2, ?r12v3, ?r12v4, ?r12v5, ?r12v6, ?r12v7, ?r12v8, ?r12v9, ?r12v10, ?r12v11, ?r12v12, ?r12v13] rfl (by kernel_rfl) (by kernel_rfl) (by kernel_rfl) (by kernel_rfl) ?r12fr ?r12hfr ?r12step _ rfl ?r12fin
          case r12hfr => intro u; simp only [Sp.fillFrom, Sp.idx_cons, Sp.idx_nil, Option.some.injEq, reduceCtorEq, reduceIte, Nat.reduceEqDiff, Nat.reduceAdd, Option.map_some, Option.map_none]; exact rfl
          case r12step =>
            refine ⟨?_, ?_, ?_, ?_, ?_, ?_, ?_, ?_, ?_, ?_, ?_, ?_, ?_, ?_, trivial⟩
            all_goals
              intro u w1 hG hD; simp only [Sp.DepsHold, List.map_cons, List.map_nil, Sp.isV, Sp.any_text, Sp.any_gc, Bool.false_eq_true, false_implies, Sp.factAt, Region.binds, List.getElem?_cons_zero, List.getElem?_cons_succ, List.getElem?_nil, Option.getD_some, Option.getD_none, and_true, true_and, true_implies, implies_true] at hD; dsimp only
              obtain ⟨c0, c1⟩ := HCW.out w1 hG
              clear hG
              repeat (obtain ⟨hE, hD⟩ := hD; (try rw [hE]); clear hE)
              try rw [hD]
              try clear hD
              go_wp2_with (fail)
              (with_reducible apply Sp.rd_close); (first | exact HB2.out | exact Below.refl _ _); exact rfl; refine Sp.isV_at ?_; exact rfl
          case r12fin => 
            intro w' hG; simp only [List.getElem?_cons_zero, List.getElem?_cons_succ, Option.getD_some]
            go_wp2
            (with_reducible apply Sp.rl_close)
            have hR2 := HRW.out.below hG
            obtain ⟨c0, c1⟩ := hR2.cells (Below.refl _ _)
            have f1 : w'.frozen? ⟨r, 1, none⟩ = false := by unfold RdAt at hR2; simp [World.frozen?, hR2]
            have HG2 := Sp.hid hG
            have hwsz2 := hG.size
            have HR2 := Sp.hid hR2
            clear hG hR2
            go_wp2
            have e1 : ((q : Nat) : Int) + 1 = ((q + 1 : Nat) : Int) := by omega
            rw [e1]
            obtain ⟨m1, m2⟩ := HR2.out.move (q := q + 1)
            have e4 : 4 - (j + 1) = k := by have := HK4.out; omega
            have e5 : p + (j + 1) = q + 1 := by have := HQ.out; omega
            refine ⟨⟨j + 1, m * 10 + (((s[q].toNat : Nat) : Int) - 48), by omega, rfl, rfl, by omega, pow_step HM1.out (by omega), ?_, ?_, ?_, ?_⟩, by simp [intOf]; try omega⟩
            · rw [e4, e5]; exact HNM.out
            · rw [e4, e5]; have := HKM.out; omega
            · rw [e5]; exact m1
            · exact grown_trans (grown_trans HGR.out (grown_trans (grown_weak (grown_below HGW.out)) (grown_weak (grown_below HG2.out)))) m2

end Go.Proofs.YtoknglpfchjbjaaGreatDoor
