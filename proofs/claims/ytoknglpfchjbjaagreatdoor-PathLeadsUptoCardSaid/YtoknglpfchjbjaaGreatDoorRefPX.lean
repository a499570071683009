/- Merged: spyglassref16.has, shape, Check: what each call returns · spyglassref16.Check: what each call returns. Conditions: those of the parts. -/
import Derived.Test.YtoknglpfchjbjaaGreatDoorRefCX
import Derived.Test.YtoknglpfchjbjaaGreatDoorPathData
/- spyglassref16.has, shape, Check: what each call returns. Conditions: up to 2^16 steps, of up to 2^16 predicates each, values of at most 1000 bytes. -/
namespace Go.Proofs.YtoknglpfchjbjaaGreatDoor
open Go.RowKit Go.Sp Go.Maps

set_option maxRecDepth 100000 in
theorem refHas_any (s : ByteArray) (c : UInt8) (n : Int) (hn : ((c.toNat : Nat) : Int) = n) (w : World) (hs : s.size ≤ maxLen) :
    Calls Tryz.prog 52 #[.string s, .int .u8 n] w fun e w' => e = .returned (.bool (hasB s c)) ∧ w' = w := by
  unfold maxLen at hs
  have HN := Sp.hid hn
  clear hn
  go_enter Tryz.func52, Tryz.ntmps52
  go_wp2
  go_loop [5] (fun i => ∃ k : Nat, k ≤ s.size ∧ i = .int .i64 k ∧ c ∉ s.data.toList.take k) (fun i => s.size - (intOf i).toNat)
  case atStart => exact ⟨0, Nat.zero_le _, rfl, by simp⟩
  case round =>
    obtain ⟨k, hk, rfl, hno⟩ := hrel
    by_cases hlt : k < s.size
    · have hlt' : k < s.data.toList.length := by rw [Array.length_toList]; exact hlt
      have htk := List.take_succ_eq_append_getElem hlt'
      have hel : s.data.toList[k] = s[k]'hlt := by rw [Array.getElem_toList]; rfl
      rw [hel] at htk
      have hmem : s[k]'hlt ∈ s.data.toList := by rw [← hel]; exact List.getElem_mem _
      obtain ⟨y, hy⟩ : ∃ y : UInt8, y = s[k]'hlt := ⟨_, rfl⟩
      rw [← hy] at htk hmem
      have HYN := Sp.hid (show (((s[k]'hlt).toNat : Nat) : Int) = ((y.toNat : Nat) : Int) by rw [hy])
      obtain ⟨x, hx⟩ : ∃ x : Int, (((s[k]'hlt).toNat : Nat) : Int) = x := ⟨_, rfl⟩
      have HXY := Sp.hid (show ((y.toNat : Nat) : Int) = x by rw [← HYN.out, hx])
      have HIT := Sp.hid (fun (h : x = n) => (by
        rw [hasB_iff]
        have : y = c := UInt8.toNat_inj.1 (by have h1 := HXY.out; have h2 := HN.out; omega)
        rw [← this]; exact hmem : hasB s c = true))
      have MISS := Sp.hid (fun (h : ¬ x = n) => (by
        rw [htk, List.mem_append]
        rintro (h' | h')
        · exact hno h'
        · rw [List.mem_singleton] at h'
          subst h'
          exact h (by have h1 := HXY.out; have h2 := HN.out; omega) : c ∉ s.data.toList.take (k + 1)))
      clear htk hel hmem hno hy hlt'
      by_cases he : x = n
      · have HR := Sp.hid (HIT.out he)
        clear HYN HXY HIT MISS
        subst he
        go_wp2
        go_ret
        exact ⟨by rw [HR.out]; rfl, rfl⟩
      · have HR := Sp.hid (MISS.out he)
        have he' : (x == n) = false := by simpa using he
        clear HYN HXY HIT MISS
        go_wp2
        go_round
        case rel => exact ⟨k + 1, by omega, by go_num, HR.out⟩
        case measure => simp [intOf]; omega
    · have hend : hasB s c = false := by
        rw [← Bool.not_eq_true, hasB_iff]
        rw [List.take_of_length_le (by rw [Array.length_toList]; have : s.data.size = s.size := rfl; omega)] at hno
        exact hno
      have HR := Sp.hid hend
      clear hno hend
      go_wp2
      go_ret
      exact ⟨by rw [HR.out]; rfl, rfl⟩

theorem formed_all {l : List StepM} : formedM l = true ↔ ∀ k (hk : k < l.length), okStep (k + 1 == l.length) l[k] = true := by
  unfold formedM
  rw [List.all_eq_true]
  constructor
  · intro h k hk
    have := h k (List.mem_range.2 hk)
    rwa [List.getElem?_eq_getElem hk, Option.map_some, Option.getD_some] at this
  · intro h k hk
    have hk := List.mem_range.1 hk
    rw [List.getElem?_eq_getElem hk, Option.map_some, Option.getD_some]
    exact h k hk
theorem formed_bad {l : List StepM} {k : Nat} (hk : k < l.length) (h : okStep (k + 1 == l.length) l[k] = false) : formedM l = false := by
  rw [← Bool.not_eq_true, formed_all]
  intro h2
  rw [h2 k hk] at h
  cases h



set_option maxRecDepth 100000 in
set_option maxHeartbeats 16000000 in
theorem refShape_any (F : Nat → Prop) (steps : List StepM) (a : Option Addr) (c : Nat) (w : World) (hs : Sl pstepS F w a steps) (hF : ∀ k, F k → k < w.heap.size) (hl : steps.length ≤ 65536) (hpl : ∀ s ∈ steps, s.preds.length ≤ 65536) :
    Calls Tryz.prog 31 #[.slice a steps.length c] w fun e w' => e = .returned (.bool (formedM steps)) ∧ Below w.heap.size w w' := by
  have HS := Sp.hid (fun W (hW : Below w.heap.size w W) => hs.below hF hW)
  have HPL := Sp.hid hpl
  clear hs hF hpl
  go_enter Tryz.func31, Tryz.ntmps31
  go_wp2
  go_loopw [3] (fun i wr => ∃ k : Nat, k ≤ steps.length ∧ i = .int .i64 k ∧ (∀ j (hj : j < steps.length), j < k → okStep (j + 1 == steps.length) steps[j] = true) ∧ Below w.heap.size w wr) (fun i _ => steps.length - (intOf i).toNat)
  case atStart => exact ⟨0, Nat.zero_le _, rfl, fun j _ h => absurd h (Nat.not_lt_zero _), Below.refl _ _⟩
  case round =>
    obtain ⟨k, hk, rfl, hall, hb⟩ := hrel
    have HB := Sp.hid hb
    by_cases hlt : k < steps.length
    · obtain ⟨b, o, pa, pc, rfl, -, -, -, c0, c1, c2⟩ := pstep_cells (HS.out wr hb) k hlt
      have HBADS := Sp.hid (fun h => formed_bad hlt h)
      have hplk := HPL.out _ (List.getElem_mem hlt)
      have hgo : okStep (k + 1 == steps.length) steps[k] = true → ∀ j (hj : j < steps.length), j < k + 1 → okStep (j + 1 == steps.length) steps[j] = true := fun h j hj hjk => by
        by_cases he : j = k
        · subst he; exact h
        · exact hall j hj (by omega)
      have HGOS := Sp.hid hgo
      obtain ⟨x, hx⟩ : ∃ x, x = steps[k] := ⟨_, rfl⟩
      rw [← hx] at c0 c1 c2 HBADS hplk HGOS
      have HX := Sp.hid hx
      clear hgo hall hx hb
      cases hA : x.isAttr
      · have HST := Sp.hid HBADS.out
        have HGO := Sp.hid (fun (h : x.preds.all formedP = true) => HGOS.out (by unfold okStep; rw [hA, h]; rfl))
        rw [hA] at c0
        clear HBADS HGOS
        go_wp2
        go_loopw [4] (fun i wr => ∃ q : Nat, q ≤ x.preds.length ∧ i = .int .i64 q ∧ (x.preds.take q).all formedP = true ∧ Below w.heap.size w wr) (fun i _ => x.preds.length - (intOf i).toNat)
        case atStart => exact ⟨0, Nat.zero_le _, rfl, rfl, HB.out⟩
        case round =>
          clear HB
          obtain ⟨q, hq, rfl, hall, hbq⟩ := hrel
          have hsq := hbq.size
          obtain ⟨bb, oo, ppa, ppc, hbe, -, -, hpq, c0, c1, c2⟩ := pstep_cells (HS.out wr hbq) k hlt
          cases hbe
          rw [← HX.out] at hpq c0 c1 c2
          have HBQ := Sp.hid hbq
          by_cases hqlt : q < x.preds.length
          · obtain ⟨b2, o2, rfl, -, ⟨y1, y2, y3, y4⟩, a0, a1, a2⟩ := pred_cells hpq q hqlt
            have htk := List.take_succ_eq_append_getElem hqlt
            have hmem := List.getElem_mem hqlt
            obtain ⟨p, hp⟩ : ∃ p, p = x.preds[q] := ⟨_, rfl⟩
            rw [← hp] at y1 y2 y3 y4 a0 a1 a2 htk hmem
            have HBADF := Sp.hid (fun (h : formedP p = false) => HST.out (by
              unfold okStep
              have : x.preds.all formedP = false := by
                rw [← Bool.not_eq_true, List.all_eq_true]
                intro h2
                rw [h2 p hmem] at h; cases h
              rw [this, Bool.and_false]))
            have HGOODF := Sp.hid (fun (h : formedP p = true) => (by rw [htk, List.all_append, hall]; simp [h] : (x.preds.take (q + 1)).all formedP = true))
            obtain ⟨w1, hw1⟩ : ∃ w1, w1 = wr.alloc (.cells #[.string p.attr, .string p.value, .int .i64 p.place] 91) := ⟨_, rfl⟩
            have HB1 := Sp.hid (show Below w.heap.size w w1 by rw [hw1]; exact hbq.alloc hsq _)
            have h39 := Sp.hid (fun W => refHas_any p.value 39 39 rfl W y2)
            have h34 := Sp.hid (fun W => refHas_any p.value 34 34 rfl W y2)
            obtain ⟨q39, hq39⟩ : ∃ q39, q39 = hasB p.value 39 := ⟨_, rfl⟩
            obtain ⟨q34, hq34⟩ : ∃ q34, q34 = hasB p.value 34 := ⟨_, rfl⟩
            rw [← hq39] at h39
            rw [← hq34] at h34
            have hform : formedP p = (if p.attr.toList.isEmpty then p.value.toList.isEmpty && decide (1 ≤ p.place) && decide (p.place ≤ 4096) else (p.place == 0) && !(q39 && q34)) := by rw [hq39, hq34]; rfl
            have hemp : p.value.toList.isEmpty = true → q39 = false := by
              intro h
              rw [hq39, ← Bool.not_eq_true, hasB_iff]
              rw [ByteArray.toList_eq] at h
              rw [List.isEmpty_iff.1 h]; simp
            rw [hform] at HBADF HGOODF
            clear hp hq39 hq34 hform hbq hall htk hmem
            obtain ⟨pa', pv', pp'⟩ := p
            dsimp only at *
            cases ha : pa'.toList.isEmpty
            · have ha' : (pa'.toList == []) = false := by rw [beq_eq_false_iff_ne]; intro e; rw [e] at ha; cases ha
              rw [ha] at HBADF HGOODF
              simp only [Bool.false_eq_true, if_false] at HBADF HGOODF
              by_cases hz0 : pp' = 0
              rotate_left
              · have hz : (pp' == 0) = false := by simpa using hz0
                have hz' : (pp' != 0) = true := by simpa using hz0
                have HBAD := Sp.hid (HBADF.out (by rw [hz]; rfl))
                clear HBADF HGOODF hemp hz0
                rw [hw1] at HB1
                go_wp2
                go_ret
                exact ⟨by rw [HBAD.out]; rfl, HB1.out⟩
              · subst hz0
                rw [show ((0 : Int) == 0) = true from rfl, Bool.true_and] at HBADF HGOODF
                cases q39
                · have HGOOD := Sp.hid (HGOODF.out (by rfl))
                  clear HBADF HGOODF hemp
                  rw [hw1] at HB1
                  go_wp2_with fail
                  refine (h39.out _).mono ?_
                  rintro e w2 ⟨rfl, rfl⟩
                  go_wp2
                  go_roundw
                  case rel => exact ⟨q + 1, by omega, by go_num, HGOOD.out, HB1.out⟩
                  case measure => simp [intOf]; omega
                · cases q34
                  · have HGOOD := Sp.hid (HGOODF.out (by rfl))
                    clear HBADF HGOODF hemp
                    rw [hw1] at HB1
                    go_wp2_with fail
                    refine (h39.out _).mono ?_
                    rintro e w2 ⟨rfl, rfl⟩
                    go_wp2_with fail
                    refine (h34.out _).mono ?_
                    rintro e w2 ⟨rfl, rfl⟩
                    go_wp2
                    go_roundw
                    case rel => exact ⟨q + 1, by omega, by go_num, HGOOD.out, HB1.out⟩
                    case measure => simp [intOf]; omega
                  · have HBAD := Sp.hid (HBADF.out (by rfl))
                    clear HBADF HGOODF hemp
                    rw [hw1] at HB1
                    go_wp2_with fail
                    refine (h39.out _).mono ?_
                    rintro e w2 ⟨rfl, rfl⟩
                    go_wp2_with fail
                    refine (h34.out _).mono ?_
                    rintro e w2 ⟨rfl, rfl⟩
                    go_wp2
                    go_ret
                    exact ⟨by rw [HBAD.out]; rfl, HB1.out⟩
            · have ha' : (pa'.toList == []) = true := by rw [beq_iff_eq]; exact List.isEmpty_iff.1 ha
              rw [ha] at HBADF HGOODF
              simp only [if_true] at HBADF HGOODF
              cases hv : pv'.toList.isEmpty
              · have hv' : (pv'.toList == []) = false := by rw [beq_eq_false_iff_ne]; intro e; rw [e] at hv; cases hv
                have HBAD := Sp.hid (HBADF.out (by rw [hv]; rfl))
                clear HBADF HGOODF hemp
                rw [hw1] at HB1
                go_wp2
                go_ret
                exact ⟨by rw [HBAD.out]; rfl, HB1.out⟩
              · have hv' : (pv'.toList == []) = true := by rw [beq_iff_eq]; exact List.isEmpty_iff.1 hv
                rw [hv, Bool.true_and] at HBADF HGOODF
                by_cases h1 : 1 ≤ pp'
                · by_cases h2 : pp' ≤ 4096
                  · have HGOOD := Sp.hid (HGOODF.out (by rw [decide_eq_true h1, decide_eq_true h2]; rfl))
                    have h39' := hemp hv
                    subst h39'
                    clear HBADF HGOODF hemp
                    rw [hw1] at HB1
                    go_wp2_with fail
                    refine (h39.out _).mono ?_
                    rintro e w2 ⟨rfl, rfl⟩
                    go_wp2
                    go_roundw
                    case rel => exact ⟨q + 1, by omega, by go_num, HGOOD.out, HB1.out⟩
                    case measure => simp [intOf]; omega
                  · have HBAD := Sp.hid (HBADF.out (by rw [decide_eq_true h1, decide_eq_false h2]; rfl))
                    clear HBADF HGOODF hemp
                    rw [hw1] at HB1
                    go_wp2
                    go_ret
                    exact ⟨by rw [HBAD.out]; rfl, HB1.out⟩
                · have HBAD := Sp.hid (HBADF.out (by rw [decide_eq_false h1]; rfl))
                  clear HBADF HGOODF hemp
                  rw [hw1] at HB1
                  go_wp2
                  go_ret
                  exact ⟨by rw [HBAD.out]; rfl, HB1.out⟩
          · obtain rfl : q = x.preds.length := by omega
            rw [List.take_length] at hall
            have HNEXT := Sp.hid (HGO.out hall)
            clear hall hbq hpq
            go_wp2
            go_roundw
            case rel => exact ⟨k + 1, by omega, by go_num, HNEXT.out, HBQ.out⟩
            case measure => simp [intOf]; omega
      · by_cases hlast : k + 1 < steps.length
        · have HR := Sp.hid (HBADS.out (by unfold okStep; rw [hA, show (k + 1 == steps.length) = false by rw [beq_eq_false_iff_ne]; omega]; rfl))
          rw [hA] at c0
          have hl1 : ((k : Nat) : Int) < (steps.length : Int) - 1 := by omega
          clear HBADS HGOS hA
          go_wp2
          go_ret
          exact ⟨by rw [HR.out]; rfl, HB.out⟩
        · have hl1 : ¬ ((k : Nat) : Int) < (steps.length : Int) - 1 := by omega
          cases hp : x.preds.isEmpty
          · have HR := Sp.hid (HBADS.out (by unfold okStep; rw [hA, hp]; simp))
            have hp0 : 0 < (x.preds.length : Int) := by
              cases h : x.preds with
              | nil => rw [h] at hp; cases hp
              | cons y l => simp
            rw [hA] at c0
            clear HBADS HGOS hA hp
            go_wp2
            go_ret
            exact ⟨by rw [HR.out]; rfl, HB.out⟩
          · have hlen : x.preds.length = 0 := by rw [List.isEmpty_iff.1 hp]; rfl
            have HST := Sp.hid HBADS.out
            have HGO := Sp.hid (fun (h : x.preds.all formedP = true) => HGOS.out (by unfold okStep; rw [hA, hp, h, show (k + 1 == steps.length) = true by rw [beq_iff_eq]; omega]; rfl))
            have hp0 : ¬ 0 < (x.preds.length : Int) := by omega
            rw [hA] at c0
            have HLEN := Sp.hid hlen
            clear HBADS HGOS hA hp hlen HST
            go_wp2
            clear hp0
            go_loopw [4] (fun i wr => ∃ q : Nat, q ≤ x.preds.length ∧ i = .int .i64 q ∧ (x.preds.take q).all formedP = true ∧ Below w.heap.size w wr) (fun i _ => x.preds.length - (intOf i).toNat)
            case atStart => exact ⟨0, Nat.zero_le _, rfl, rfl, HB.out⟩
            case round =>
              clear HB
              obtain ⟨q, hq, rfl, hall, hbq⟩ := hrel
              have hsq := hbq.size
              obtain ⟨bb, oo, ppa, ppc, hbe, -, -, hpq, c0, c1, c2⟩ := pstep_cells (HS.out wr hbq) k hlt
              cases hbe
              rw [← HX.out] at hpq c0 c1 c2
              have HBQ := Sp.hid hbq
              obtain rfl : q = x.preds.length := by have := HLEN.out; omega
              rw [List.take_length] at hall
              have HNEXT := Sp.hid (HGO.out hall)
              clear hall hbq hpq
              go_wp2
              go_roundw
              case rel => exact ⟨k + 1, by omega, by go_num, HNEXT.out, HBQ.out⟩
              case measure => simp [intOf]; omega
    · obtain rfl : k = steps.length := by omega
      have hfin : formedM steps = true := formed_all.2 fun j hj => hall j hj (by omega)
      have HR := Sp.hid hfin
      clear hall hfin hb
      go_wp2
      go_ret
      exact ⟨by rw [HR.out]; rfl, HB.out⟩

end Go.Proofs.YtoknglpfchjbjaaGreatDoor

/- spyglassref16.Check: what each call returns. Conditions: up to 2^16 steps, of up to 2^16 predicates each, values of at most 1000 bytes. -/
namespace Go.Proofs.YtoknglpfchjbjaaGreatDoor
open Go.RowKit Go.Sp Go.Maps

theorem pc_17 {l : List StepM} (h : 32 < l.length ∨ l.any manyP = true) : pcheckM l = 17 := by
  unfold pcheckM
  rw [if_pos (by rcases h with h | h <;> simp [h])]
theorem pc_not {l : List StepM} (h1 : ¬ 32 < l.length) (h2 : l.any manyP = false) : ¬ (decide (32 < l.length) || l.any manyP) = true := by rw [decide_eq_false h1, h2]; decide
theorem pc_12 {l : List StepM} (h : ¬ (decide (32 < l.length) || l.any manyP) = true) (h1 : formedM l = false) : pcheckM l = 12 := by unfold pcheckM; rw [if_neg h, if_pos h1]
theorem pc_11 {l : List StepM} (h : ¬ (decide (32 < l.length) || l.any manyP) = true) (h1 : formedM l = true) (h2 : (l.any fun s => !namedS s) = true) : pcheckM l = 11 := by
  unfold pcheckM; rw [if_neg h, h1, if_neg (by decide), if_pos h2]
theorem pc_10 {l : List StepM} (h : ¬ (decide (32 < l.length) || l.any manyP) = true) (h1 : formedM l = true) (h2 : (l.any fun s => !namedS s) = false) (h3 : (l.any fun s => !writtenS s) = true) : pcheckM l = 10 := by
  unfold pcheckM; rw [if_neg h, h1, if_neg (by decide), h2, if_neg (by decide), if_pos h3]
theorem pc_0 {l : List StepM} (h : ¬ (decide (32 < l.length) || l.any manyP) = true) (h1 : formedM l = true) (h2 : (l.any fun s => !namedS s) = false) (h3 : (l.any fun s => !writtenS s) = false) : pcheckM l = 0 := by
  unfold pcheckM; rw [if_neg h, h1, if_neg (by decide), h2, if_neg (by decide), h3, if_neg (by decide)]
theorem pany_next {α : Type} (p : α → Bool) {l : List α} {k : Nat} (h : k < l.length) : (l.take (k + 1)).any p = ((l.take k).any p || p l[k]) := by
  rw [List.take_succ_eq_append_getElem h, List.any_append]; simp
theorem pany_bad {α : Type} {p : α → Bool} {l : List α} {k : Nat} (h : k < l.length) (hp : p l[k] = true) : l.any p = true := List.any_eq_true.2 ⟨_, List.getElem_mem h, hp⟩
theorem pall_next {α : Type} (p : α → Bool) {l : List α} {k : Nat} (h : k < l.length) : (l.take (k + 1)).all p = ((l.take k).all p && p l[k]) := by
  rw [List.take_succ_eq_append_getElem h, List.all_append]; simp
theorem pall_bad {α : Type} {p : α → Bool} {l : List α} {k : Nat} (h : k < l.length) (hp : p l[k] = false) : l.all p = false := by
  rw [← Bool.not_eq_true, List.all_eq_true]
  intro h2
  rw [h2 _ (List.getElem_mem h)] at hp; cases hp

/- the names of the predicates of step k -/

set_option maxRecDepth 100000 in
set_option maxHeartbeats 16000000 in
theorem refPCheck_any (F : Nat → Prop) (steps : List StepM) (a : Option Addr) (c : Nat) (w : World) (hs : Sl pstepS F w a steps) (hF : ∀ k, F k → k < w.heap.size) (hl : steps.length ≤ 65536) (hpl : ∀ s ∈ steps, s.preds.length ≤ 65536) (htx : ∀ s ∈ steps, ∀ q ∈ s.preds, q.value.size ≤ 1000) :
    Calls Tryz.prog 13 #[.slice a steps.length c] w fun e w' => e = .returned (.int .i64 (pcheckM steps)) ∧ Below w.heap.size w w' := by
  have HS := Sp.hid (fun W (hW : Below w.heap.size w W) => hs.below hF hW)
  have HPL := Sp.hid hpl
  have HTX := Sp.hid htx
  have HSH := Sp.hid (fun W (hW : Below w.heap.size w W) => refShape_any (· < W.heap.size) steps a c W ((hs.below hF hW).mono fun k hk => by have := hF k hk; have := hW.size; omega) (fun _ h => h) hl hpl)
  clear hs hF hpl htx
  go_enter Tryz.func13, Tryz.ntmps13
  by_cases h32 : 32 < steps.length
  · have h32' : (32 : Int) < (steps.length : Int) := by omega
    have HR := Sp.hid (pc_17 (.inl h32))
    have HB := Sp.hid (Below.refl w.heap.size w)
    clear h32
    go_wp2
    go_ret
    exact ⟨by rw [HR.out]; rfl, HB.out⟩
  have h32' : ¬ (32 : Int) < (steps.length : Int) := by omega
  go_wp2
  go_loop [3] (fun i => ∃ k : Nat, k ≤ steps.length ∧ i = .int .i64 k ∧ (steps.take k).any manyP = false) (fun i => steps.length - (intOf i).toNat)
  case atStart => exact ⟨0, Nat.zero_le _, rfl, rfl⟩
  case round =>
    obtain ⟨k, hk, rfl, hany⟩ := hrel
    have HB := Sp.hid (Below.refl w.heap.size w)
    by_cases hlt : k < steps.length
    · obtain ⟨b, o, pa, pc, rfl, -, -, -, c0, c1, c2⟩ := pstep_cells (HS.out w HB.out) k hlt
      have hnx := pany_next manyP hlt
      have hbd := fun h => pany_bad (p := manyP) hlt h
      obtain ⟨x, hx⟩ : ∃ x, x = steps[k] := ⟨_, rfl⟩
      rw [← hx] at c0 c1 c2 hnx hbd
      rw [hany, Bool.false_or] at hnx
      by_cases h8 : 8 < x.preds.length
      · have h8' : (8 : Int) < (x.preds.length : Int) := by omega
        have HR := Sp.hid (pc_17 (.inr (hbd (by unfold manyP; rw [decide_eq_true h8]))))
        clear hany hnx hbd hx h8
        go_wp2
        go_ret
        exact ⟨by rw [HR.out]; rfl, HB.out⟩
      · have h8' : ¬ (8 : Int) < (x.preds.length : Int) := by omega
        have HGOOD := Sp.hid (show (steps.take (k + 1)).any manyP = false by rw [hnx]; unfold manyP; rw [decide_eq_false h8])
        clear hany hnx hbd hx h8
        go_wp2
        go_round
        case rel => exact ⟨k + 1, by omega, by go_num, HGOOD.out⟩
        case measure => simp [intOf]; omega
    · obtain rfl : k = steps.length := by omega
      rw [List.take_length] at hany
      have H17 := Sp.hid (pc_not h32 hany)
      have HSH0 := Sp.hid (HSH.out w HB.out)
      obtain ⟨fv, hfv⟩ : ∃ fv, fv = formedM steps := ⟨_, rfl⟩
      rw [← hfv] at HSH0
      have HFV := Sp.hid hfv
      clear hany hfv HSH h32 h32' HB
      go_wp2_with fail
      refine HSH0.out.mono ?_
      rintro e w1 ⟨rfl, hb⟩
      have HB := Sp.hid hb
      clear hb HSH0
      cases fv
      · have HR := Sp.hid (pc_12 H17.out HFV.out.symm)
        go_wp2
        go_ret
        exact ⟨by rw [HR.out]; rfl, HB.out⟩
      have H12 := Sp.hid HFV.out.symm
      clear HFV
      go_wp2
      go_loopw [4] (fun i wr => ∃ k : Nat, k ≤ steps.length ∧ i = .int .i64 k ∧ ((steps.take k).any fun s => !namedS s) = false ∧ Below w.heap.size w wr) (fun i _ => steps.length - (intOf i).toNat)
      case atStart => exact ⟨0, Nat.zero_le _, rfl, rfl, HB.out⟩
      case round =>
        clear HB
        obtain ⟨k, hk, rfl, hany, hb⟩ := hrel
        have HB := Sp.hid hb
        by_cases hlt : k < steps.length
        · obtain ⟨b, o, pa, pc, rfl, -, ⟨hnl, -⟩, -, c0, c1, c2⟩ := pstep_cells (HS.out wr hb) k hlt
          have hnx := pany_next (fun s => !namedS s) hlt
          have HBADS0 := Sp.hid (fun (h : namedS steps[k] = false) => pc_11 H17.out H12.out (pany_bad (p := fun s => !namedS s) hlt (by rw [h]; rfl)))
          have hplk := HPL.out _ (List.getElem_mem hlt)
          obtain ⟨x, hx⟩ : ∃ x, x = steps[k] := ⟨_, rfl⟩
          rw [← hx] at c0 c1 c2 hnx HBADS0 hplk hnl
          have HX := Sp.hid hx
          rw [hany, Bool.false_or] at hnx
          have HGOS := Sp.hid (fun (h : namedS x = true) => (by rw [hnx, h]; rfl : ((steps.take (k + 1)).any fun s => !namedS s) = false))
          have HBADS := Sp.hid HBADS0.out
          obtain ⟨v0, hv0⟩ : ∃ v, v = isName x.name := ⟨_, rfl⟩
          have HNMX := Sp.hid (fun W => refName_any x.name W hnl)
          rw [← hv0] at HNMX
          clear hany hnx hx HBADS0
          obtain ⟨wk, rfl⟩ : ∃ wk, wk = wr := ⟨_, rfl⟩
          cases hs : (x.name.toList == [42])
          · have hs2 : (x.name.toList != [42]) = true := by simpa using hs
            cases v0
            · have HR := Sp.hid (HBADS.out (by unfold namedS; rw [hs, ← hv0]; simp))
              clear hb hv0
              go_wp2_with fail
              refine (HNMX.out _).mono ?_
              rintro e w2 ⟨rfl, rfl⟩
              go_wp2
              go_ret
              exact ⟨by rw [HR.out]; rfl, HB.out⟩
            · have HNM0 := Sp.hid (show (x.name.toList == [42] || isName x.name) = true by rw [← hv0]; simp)
              clear hb hv0
              go_wp2_with fail
              refine (HNMX.out _).mono ?_
              rintro e wk ⟨rfl, rfl⟩
              clear hs hs2
              go_wp2
              go_loopw [5] (fun i wr => ∃ q : Nat, q ≤ x.preds.length ∧ i = .int .i64 q ∧ (x.preds.take q).all (fun q => q.attr.toList.isEmpty || isName q.attr) = true ∧ wr = wk) (fun i _ => x.preds.length - (intOf i).toNat)
              case atStart => exact ⟨0, Nat.zero_le _, rfl, rfl, rfl⟩
              case round =>
                clear c0 c1 c2
                obtain ⟨q, hq, rfl, hall, hwr⟩ := hrel
                subst hwr
                obtain ⟨bb, oo, ppa, ppc, hbe, -, -, hpq, c0, c1, c2⟩ := pstep_cells (HS.out wr HB.out) k hlt
                cases hbe
                rw [← HX.out] at hpq c0 c1 c2
                by_cases hqlt : q < x.preds.length
                · obtain ⟨b2, o2, rfl, -, ⟨y1, y2, y3, y4⟩, a0, a1, a2⟩ := pred_cells hpq q hqlt
                  have hnx := pall_next (fun q : PredM => q.attr.toList.isEmpty || isName q.attr) hqlt
                  have hbd := fun h => pall_bad (p := fun q : PredM => q.attr.toList.isEmpty || isName q.attr) hqlt h
                  obtain ⟨p, hp⟩ : ∃ p, p = x.preds[q] := ⟨_, rfl⟩
                  rw [← hp] at y1 a0 a1 a2 hnx hbd
                  rw [hall, Bool.true_and] at hnx
                  obtain ⟨v, hv⟩ : ∃ v, v = isName p.attr := ⟨_, rfl⟩
                  have HNM := Sp.hid (fun W => refName_any p.attr W y1)
                  rw [← hv] at HNM hnx hbd
                  cases ha : p.attr.toList.isEmpty
                  · have ha' : (p.attr.toList == []) = false := by rw [beq_eq_false_iff_ne]; intro e; rw [e] at ha; cases ha
                    have ha2 : (p.attr.toList != []) = true := by simpa using ha'
                    rw [ha, Bool.false_or] at hnx hbd
                    cases v
                    · have HR := Sp.hid (HBADS.out (by unfold namedS; rw [hbd rfl, Bool.false_and]))
                      clear hall hnx hbd hp hv hpq y1 y2 y3 y4
                      go_wp2_with fail
                      refine (HNM.out _).mono ?_
                      rintro e w2 ⟨rfl, rfl⟩
                      go_wp2
                      go_ret
                      exact ⟨by rw [HR.out]; rfl, HB.out⟩
                    · have HGOOD := Sp.hid hnx
                      clear hall hnx hbd hp hv hpq y1 y2 y3 y4
                      go_wp2_with fail
                      refine (HNM.out _).mono ?_
                      rintro e w2 ⟨rfl, rfl⟩
                      go_wp2
                      go_roundw
                      case rel => exact ⟨q + 1, by omega, by go_num, HGOOD.out, by trivial⟩
                      case measure => simp [intOf]; omega
                  · have ha' : (p.attr.toList == []) = true := by rw [beq_iff_eq]; exact List.isEmpty_iff.1 ha
                    have ha2 : (p.attr.toList != []) = false := by simpa using ha'
                    rw [ha, Bool.true_or] at hnx
                    have HGOOD := Sp.hid hnx
                    clear hall hnx hbd hp hv hpq y1 y2 y3 y4 HNM
                    go_wp2
                    go_roundw
                    case rel => exact ⟨q + 1, by omega, by go_num, HGOOD.out, by trivial⟩
                    case measure => simp [intOf]; omega
                · obtain rfl : q = x.preds.length := by omega
                  rw [List.take_length] at hall
                  have HNEXT := Sp.hid (HGOS.out (by unfold namedS; rw [hall, Bool.true_and]; exact HNM0.out))
                  clear hall hpq
                  go_wp2
                  go_roundw
                  case rel => exact ⟨k + 1, by omega, by go_num, HNEXT.out, HB.out⟩
                  case measure => simp [intOf]; omega
          · have hs2 : (x.name.toList != [42]) = false := by simpa using hs
            have HNM0 := Sp.hid (show (x.name.toList == [42] || isName x.name) = true by rw [hs]; rfl)
            clear hb hv0 HNMX
            go_wp2
            go_loopw [5] (fun i wr => ∃ q : Nat, q ≤ x.preds.length ∧ i = .int .i64 q ∧ (x.preds.take q).all (fun q => q.attr.toList.isEmpty || isName q.attr) = true ∧ wr = wk) (fun i _ => x.preds.length - (intOf i).toNat)
            case atStart => exact ⟨0, Nat.zero_le _, rfl, rfl, rfl⟩
            case round =>
              clear c0 c1 c2
              obtain ⟨q, hq, rfl, hall, hwr⟩ := hrel
              subst hwr
              obtain ⟨bb, oo, ppa, ppc, hbe, -, -, hpq, c0, c1, c2⟩ := pstep_cells (HS.out wr HB.out) k hlt
              cases hbe
              rw [← HX.out] at hpq c0 c1 c2
              by_cases hqlt : q < x.preds.length
              · obtain ⟨b2, o2, rfl, -, ⟨y1, y2, y3, y4⟩, a0, a1, a2⟩ := pred_cells hpq q hqlt
                have hnx := pall_next (fun q : PredM => q.attr.toList.isEmpty || isName q.attr) hqlt
                have hbd := fun h => pall_bad (p := fun q : PredM => q.attr.toList.isEmpty || isName q.attr) hqlt h
                obtain ⟨p, hp⟩ : ∃ p, p = x.preds[q] := ⟨_, rfl⟩
                rw [← hp] at y1 a0 a1 a2 hnx hbd
                rw [hall, Bool.true_and] at hnx
                obtain ⟨v, hv⟩ : ∃ v, v = isName p.attr := ⟨_, rfl⟩
                have HNM := Sp.hid (fun W => refName_any p.attr W y1)
                rw [← hv] at HNM hnx hbd
                cases ha : p.attr.toList.isEmpty
                · have ha' : (p.attr.toList == []) = false := by rw [beq_eq_false_iff_ne]; intro e; rw [e] at ha; cases ha
                  have ha2 : (p.attr.toList != []) = true := by simpa using ha'
                  rw [ha, Bool.false_or] at hnx hbd
                  cases v
                  · have HR := Sp.hid (HBADS.out (by unfold namedS; rw [hbd rfl, Bool.false_and]))
                    clear hall hnx hbd hp hv hpq y1 y2 y3 y4
                    go_wp2_with fail
                    refine (HNM.out _).mono ?_
                    rintro e w2 ⟨rfl, rfl⟩
                    go_wp2
                    go_ret
                    exact ⟨by rw [HR.out]; rfl, HB.out⟩
                  · have HGOOD := Sp.hid hnx
                    clear hall hnx hbd hp hv hpq y1 y2 y3 y4
                    go_wp2_with fail
                    refine (HNM.out _).mono ?_
                    rintro e w2 ⟨rfl, rfl⟩
                    go_wp2
                    go_roundw
                    case rel => exact ⟨q + 1, by omega, by go_num, HGOOD.out, by trivial⟩
                    case measure => simp [intOf]; omega
                · have ha' : (p.attr.toList == []) = true := by rw [beq_iff_eq]; exact List.isEmpty_iff.1 ha
                  have ha2 : (p.attr.toList != []) = false := by simpa using ha'
                  rw [ha, Bool.true_or] at hnx
                  have HGOOD := Sp.hid hnx
                  clear hall hnx hbd hp hv hpq y1 y2 y3 y4 HNM
                  go_wp2
                  go_roundw
                  case rel => exact ⟨q + 1, by omega, by go_num, HGOOD.out, by trivial⟩
                  case measure => simp [intOf]; omega
              · obtain rfl : q = x.preds.length := by omega
                rw [List.take_length] at hall
                have HNEXT := Sp.hid (HGOS.out (by unfold namedS; rw [hall, Bool.true_and]; exact HNM0.out))
                clear hall hpq
                go_wp2
                go_roundw
                case rel => exact ⟨k + 1, by omega, by go_num, HNEXT.out, HB.out⟩
                case measure => simp [intOf]; omega
        · obtain rfl : k = steps.length := by omega
          rw [List.take_length] at hany
          have H11 := Sp.hid hany
          clear hany hb
          obtain ⟨wa, rfl⟩ : ∃ wa, wa = wr := ⟨_, rfl⟩
          go_wp2
          go_loopw [6] (fun i wr => ∃ k : Nat, k ≤ steps.length ∧ i = .int .i64 k ∧ ((steps.take k).any fun s => !writtenS s) = false ∧ Below w.heap.size w wr) (fun i _ => steps.length - (intOf i).toNat)
          case atStart => exact ⟨0, Nat.zero_le _, rfl, rfl, HB.out⟩
          case round =>
            clear HB
            obtain ⟨k, hk, rfl, hany, hb⟩ := hrel
            have HB := Sp.hid hb
            by_cases hlt : k < steps.length
            · have hnx := pany_next (fun s => !writtenS s) hlt
              have HBADS0 := Sp.hid (fun (h : writtenS steps[k] = false) => pc_10 H17.out H12.out H11.out (pany_bad (p := fun s => !writtenS s) hlt (by rw [h]; rfl)))
              have hplk := HPL.out _ (List.getElem_mem hlt)
              have htxk := HTX.out _ (List.getElem_mem hlt)
              obtain ⟨x, hx⟩ : ∃ x, x = steps[k] := ⟨_, rfl⟩
              rw [← hx] at hnx HBADS0 hplk htxk
              have HX := Sp.hid hx
              rw [hany, Bool.false_or] at hnx
              have HGOS := Sp.hid (fun (h : writtenS x = true) => (by rw [hnx, h]; rfl : ((steps.take (k + 1)).any fun s => !writtenS s) = false))
              have HBADS := Sp.hid HBADS0.out
              have HTXK := Sp.hid htxk
              clear hany hnx hx HBADS0 htxk hb
              obtain ⟨wk, rfl⟩ : ∃ wk, wk = wr := ⟨_, rfl⟩
              go_wp2
              go_loopw [7] (fun i wr => ∃ q : Nat, q ≤ x.preds.length ∧ i = .int .i64 q ∧ (x.preds.take q).all (fun q => textB q.value) = true ∧ Below w.heap.size w wr) (fun i _ => x.preds.length - (intOf i).toNat)
              case atStart => exact ⟨0, Nat.zero_le _, rfl, rfl, HB.out⟩
              case round =>
                clear HB
                obtain ⟨q, hq, rfl, hall, hbq⟩ := hrel
                have HB := Sp.hid hbq
                have hsq := hbq.size
                obtain ⟨b, o, pa, pc, rfl, -, -, hpq, c0, c1, c2⟩ := pstep_cells (HS.out wr hbq) k hlt
                rw [← HX.out] at hpq c0 c1 c2
                by_cases hqlt : q < x.preds.length
                · obtain ⟨b2, o2, rfl, -, -, a0, a1, a2⟩ := pred_cells hpq q hqlt
                  have hnx := pall_next (fun q : PredM => textB q.value) hqlt
                  have hbd := fun h => pall_bad (p := fun q : PredM => textB q.value) hqlt h
                  have htp := HTXK.out _ (List.getElem_mem hqlt)
                  obtain ⟨p, hp⟩ : ∃ p, p = x.preds[q] := ⟨_, rfl⟩
                  rw [← hp] at a0 a1 a2 hnx hbd htp
                  rw [hall, Bool.true_and] at hnx
                  obtain ⟨v, hv⟩ : ∃ v, v = textB p.value := ⟨_, rfl⟩
                  have HCH := Sp.hid (fun W => refChars_any p.value W htp)
                  rw [← hv] at HCH hnx hbd
                  cases v
                  · have HR := Sp.hid (HBADS.out (by unfold writtenS; exact hbd rfl))
                    clear hall hnx hbd hp hv hpq hbq htp
                    go_wp2_with fail
                    refine (HCH.out _).mono ?_
                    rintro e w2 ⟨rfl, hb2⟩
                    have HB2 := Sp.hid (HB.out.trans (hb2.mono hsq))
                    clear hb2 HB
                    have HB := Sp.hid HB2.out
                    go_wp2
                    go_ret
                    exact ⟨by rw [HR.out]; rfl, HB.out⟩
                  · have HGOOD := Sp.hid hnx
                    clear hall hnx hbd hp hv hpq hbq htp
                    go_wp2_with fail
                    refine (HCH.out _).mono ?_
                    rintro e w2 ⟨rfl, hb2⟩
                    have HB2 := Sp.hid (HB.out.trans (hb2.mono hsq))
                    clear hb2 HB
                    go_wp2
                    go_roundw
                    case rel => exact ⟨q + 1, by omega, by go_num, HGOOD.out, HB2.out⟩
                    case measure => simp [intOf]; omega
                · obtain rfl : q = x.preds.length := by omega
                  rw [List.take_length] at hall
                  have HNEXT := Sp.hid (HGOS.out (by unfold writtenS; exact hall))
                  clear hall hpq hbq
                  go_wp2
                  go_roundw
                  case rel => exact ⟨k + 1, by omega, by go_num, HNEXT.out, HB.out⟩
                  case measure => simp [intOf]; omega
            · obtain rfl : k = steps.length := by omega
              rw [List.take_length] at hany
              have HR := Sp.hid (pc_0 H17.out H12.out H11.out hany)
              clear hany hb
              go_wp2
              go_ret
              exact ⟨by rw [HR.out]; rfl, HB.out⟩

end Go.Proofs.YtoknglpfchjbjaaGreatDoor
