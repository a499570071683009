/- path.Check: what is wrong with a path. Conditions: the table of spans as laid. -/
import Derived.Test.YtoknglpfchjbjaaGreatDoorPathData
import Derived.Test.YtoknglpfchjbjaaGreatDoorUtfX
namespace Go.Proofs.YtoknglpfchjbjaaGreatDoor
open Go.RowKit Go.Sp

theorem textB_yes {s : ByteArray} (h : isText s) : textB s = true := by unfold textB; simp [h]
theorem textB_no {s : ByteArray} (h : ¬ isText s) : textB s = false := by unfold textB; simp [h]

/-- A step's value. -/
abbrev stepV (s : StepM) (pa : Option Addr) (pc : Nat) : Value := .agg #[.bool s.isAttr, .string s.name, .slice pa s.preds.length pc]

theorem all_take_next {α : Type} {p : α → Bool} {l : List α} {k : Nat} (hk : k < l.length) (h : (l.take k).all p = true) (hp : p l[k] = true) : (l.take (k + 1)).all p = true := by
  rw [List.take_succ_eq_append_getElem hk, List.all_append, h]
  simp [hp]
theorem all_not {α : Type} {p : α → Bool} {l : List α} {k : Nat} (hk : k < l.length) (hp : p l[k] = false) : l.all p = false := by
  rw [← Bool.not_eq_true, List.all_eq_true]
  intro h
  rw [h _ (List.getElem_mem hk)] at hp
  cases hp

set_option maxRecDepth 100000 in
set_option maxHeartbeats 4000000 in
theorem named_any (F : Nat → Prop) (s : StepM) (pa : Option Addr) (pc : Nat) (w : World) (hs : s.name.size ≤ maxLen) (hpl : s.preds.length ≤ 9223372036854775807) (hps : Sl predS F w pa s.preds) (hF : ∀ k, F k → k < w.heap.size) :
    Calls Tryz.prog 44 #[stepV s pa pc] w fun e w' => e = .returned (.bool (namedS s)) ∧ Below w.heap.size w w' := by
  have HP := Sp.hid hps
  have HF := Sp.hid hF
  have HN := Sp.hid (fun W => nameIs_any s.name W hs)
  obtain ⟨sa, sn, sp⟩ := s
  dsimp only [stepV] at HP HN hpl ⊢
  obtain ⟨w0, hw0⟩ : ∃ w0, w0 = w.alloc (.cells #[.bool sa, .string sn, .slice pa sp.length pc] 68) := ⟨_, rfl⟩
  have hb0 : Below w.heap.size w w0 := by rw [hw0]; exact (Below.refl _ _).alloc (Nat.le_refl _) _
  have hs0 : w.heap.size + 1 ≤ w0.heap.size := by rw [hw0]; simp
  have hc0 : w0.heap[w.heap.size]? = some (.cells #[.bool sa, .string sn, .slice pa sp.length pc] 68 (0, 0)) := by rw [hw0]; exact heap_alloc_new _ _
  have HB0 := Sp.hid hb0
  have HC0 := Sp.hid hc0
  have HW0 := Sp.hid hw0
  clear hps hF hb0 hc0 hw0
  go_enter Tryz.func44, Tryz.ntmps44
  go_wp2
  rw [← HW0.out]
  go_loopw [8] (fun i wr => ∃ k : Nat, k ≤ sp.length ∧ i = .int .i64 k ∧ (sp.take k).all (fun q => q.attr.toList.isEmpty || isName q.attr) = true ∧ Below w0.heap.size w0 wr) (fun i _ => sp.length - (intOf i).toNat)
  case atStart => exact ⟨0, Nat.zero_le _, rfl, rfl, Below.refl _ _⟩
  case round =>
    obtain ⟨k, hk, rfl, hall, hb⟩ := hrel
    have hsw := hb.size
    have HB := Sp.hid hb
    have hbw : Below w.heap.size w wr := HB0.out.trans (hb.mono (by omega))
    have HBW := Sp.hid hbw
    by_cases hlt : k < sp.length
    · obtain ⟨b, o, rfl, fb, ⟨z1, z2, z3, z4⟩, e1, e2, e3⟩ := pred_cells (HP.out.below HF.out hbw) k hlt
      have hbr : b < wr.heap.size := World.block_lt_of_cell? _ _ e1
      have HNX := Sp.hid (fun h => all_take_next hlt hall h)
      have HNO := Sp.hid (fun h => all_not (p := fun q : PredM => q.attr.toList.isEmpty || isName q.attr) hlt h)
      obtain ⟨q, hq⟩ : ∃ q, q = sp[k] := ⟨_, rfl⟩
      rw [← hq] at e1 e2 e3 z1 HNX HNO
      obtain ⟨qa, qv, qp⟩ := q
      dsimp only at e1 e2 e3 z1 HNX HNO
      have HQ := Sp.hid (fun W => nameIs_any qa W z1)
      clear hq hall hb hbw z1 z2 z3 z4
      have hba : Below wr.heap.size wr (wr.alloc (.cells #[.string qa, .string qv, .int .i64 qp] 70)) := (Below.refl _ _).alloc (Nat.le_refl _) _
      have HBA := Sp.hid hba
      clear hba
      cases ha : qa.toList.isEmpty
      · obtain ⟨nb, hnb⟩ : ∃ nb, nb = isName qa := ⟨_, rfl⟩
        rw [← hnb] at HQ
        rw [ha, Bool.false_or, ← hnb] at HNX HNO
        clear hnb
        go_wp2_with fail
        refine (HQ.out _).mono ?_
        rintro e w2 ⟨rfl, hb2⟩
        have HB2 := Sp.hid (HBA.out.trans (hb2.mono (by simp)))
        clear hb2
        cases nb
        · go_wp2
          go_ret
          refine ⟨?_, HBW.out.trans (HB2.out.mono (by omega))⟩
          unfold namedS
          rw [HNO.out (by trivial)]
          rfl
        · go_wp2
          go_roundw
          case rel => exact ⟨k + 1, by omega, by go_num, HNX.out (by trivial), HB.out.trans (HB2.out.mono hsw)⟩
          case measure => simp [intOf]; omega
      · rw [ha, Bool.true_or] at HNX
        go_wp2
        go_roundw
        case rel => exact ⟨k + 1, by omega, by go_num, HNX.out (by trivial), HB.out.trans (HBA.out.mono hsw)⟩
        case measure => simp [intOf]; omega
    · obtain rfl : k = sp.length := by omega
      rw [List.take_length] at hall
      have HALL := Sp.hid hall
      have hcr : wr.heap[w.heap.size]? = some (.cells #[.bool sa, .string sn, .slice pa sp.length pc] 68 (0, 0)) := (hb.block _ (by omega)).trans HC0.out
      have c1 : wr.cell? ⟨w.heap.size, 1, none⟩ = some (.string sn) := by simp [World.cell?, hcr]
      have hwl : w.heap.size < wr.heap.size := by omega
      clear hall hb hbw hcr
      cases hst : (sn.toList == [42])
      · obtain ⟨nb, hnb⟩ : ∃ nb, nb = isName sn := ⟨_, rfl⟩
        rw [← hnb] at HN
        have HNB := Sp.hid hnb
        clear hnb
        go_wp2_with fail
        refine (HN.out _).mono ?_
        rintro e w2 ⟨rfl, hb2⟩
        have HB2 := Sp.hid hb2
        clear hb2
        go_wp2
        go_ret
        refine ⟨?_, HBW.out.trans (HB2.out.mono (by omega))⟩
        unfold namedS
        dsimp only
        rw [HALL.out, hst, ← HNB.out]
        rfl
      · go_wp2
        go_ret
        refine ⟨?_, HBW.out⟩
        unfold namedS
        dsimp only
        rw [HALL.out, hst]
        rfl

set_option maxRecDepth 100000 in
set_option maxHeartbeats 4000000 in
theorem pwritten_any (F : Nat → Prop) (s : StepM) (pa : Option Addr) (pc : Nat) (w : World) (hpl : s.preds.length ≤ 9223372036854775807) (hps : Sl predS F w pa s.preds) (hF : ∀ k, F k → k < w.heap.size) (hsp : SpansAt w) :
    Calls Tryz.prog 46 #[stepV s pa pc] w fun e w' => e = .returned (.bool (writtenS s)) ∧ Below w.heap.size w w' := by
  have HP := Sp.hid hps
  have HF := Sp.hid hF
  have HSP := Sp.hid hsp
  obtain ⟨sa, sn, sp⟩ := s
  dsimp only [stepV] at HP hpl ⊢
  obtain ⟨w0, hw0⟩ : ∃ w0, w0 = w.alloc (.cells #[.bool sa, .string sn, .slice pa sp.length pc] 68) := ⟨_, rfl⟩
  have hb0 : Below w.heap.size w w0 := by rw [hw0]; exact (Below.refl _ _).alloc (Nat.le_refl _) _
  have hs0 : w.heap.size + 1 ≤ w0.heap.size := by rw [hw0]; simp
  have HB0 := Sp.hid hb0
  have HW0 := Sp.hid hw0
  clear hps hF hb0 hw0 hsp
  go_enter Tryz.func46, Tryz.ntmps46
  go_wp2
  rw [← HW0.out]
  go_loopw [10] (fun i wr => ∃ k : Nat, k ≤ sp.length ∧ i = .int .i64 k ∧ (sp.take k).all (fun q => textB q.value) = true ∧ Below w0.heap.size w0 wr) (fun i _ => sp.length - (intOf i).toNat)
  case atStart => exact ⟨0, Nat.zero_le _, rfl, rfl, Below.refl _ _⟩
  case round =>
    obtain ⟨k, hk, rfl, hall, hb⟩ := hrel
    have hsw := hb.size
    have HB := Sp.hid hb
    have hbw : Below w.heap.size w wr := HB0.out.trans (hb.mono (by omega))
    have HBW := Sp.hid hbw
    by_cases hlt : k < sp.length
    · obtain ⟨b, o, rfl, fb, ⟨z1, z2, z3, z4⟩, e1, e2, e3⟩ := pred_cells (HP.out.below HF.out hbw) k hlt
      have hbr : b < wr.heap.size := World.block_lt_of_cell? _ _ e1
      have HNX := Sp.hid (fun h => all_take_next hlt hall h)
      have HNO := Sp.hid (fun h => all_not (p := fun q : PredM => textB q.value) hlt h)
      obtain ⟨q, hq⟩ : ∃ q, q = sp[k] := ⟨_, rfl⟩
      rw [← hq] at e1 e2 e3 z2 HNX HNO
      obtain ⟨qa, qv, qp⟩ := q
      dsimp only at e1 e2 e3 z2 HNX HNO
      obtain ⟨wa, hwa⟩ : ∃ wa, wa = wr.alloc (.cells #[.string qa, .string qv, .int .i64 qp] 70) := ⟨_, rfl⟩
      have hba : Below wr.heap.size wr wa := by rw [hwa]; exact (Below.refl _ _).alloc (Nat.le_refl _) _
      obtain ⟨cap, hcap⟩ : ∃ cap, cap = grownCap wa qv.size 0 5 := ⟨_, rfl⟩
      have hcl : qv.size ≤ cap := by rw [hcap]; exact grownCap_ge _ _ _ _
      have hcv := run_bytes_of_string (P := Tryz.prog) wa 9 119 5 qv Tryz.underlying9 Tryz.underlying119 Tryz.underlying5
      rw [← hcap] at hcv
      obtain ⟨w1, hw1⟩ : ∃ w1, w1 = wa.drew.alloc (.cells (bytesRow qv cap) 5 ((bytesRow qv cap).size, (bytesRow qv cap).size + 1)) := ⟨_, rfl⟩
      rw [← hw1] at hcv
      have hb1 : Below wa.heap.size wa w1 := by rw [hw1]; exact (Below.refl _ _).drew.alloc (Nat.le_refl _) _
      have hsz1 : w1.heap.size = wa.heap.size + 1 := by rw [hw1]; exact World.size_alloc _ _
      have hsl : Sl (Shape.int .u8) (· < w1.heap.size) w1 (some ⟨wa.heap.size, 0, none⟩) (bytesOf qv) := by
        have := sl_bytes wa.drew qv cap 5 ((bytesRow qv cap).size, (bytesRow qv cap).size + 1)
        rw [← hw1] at this
        exact this.mono (fun b hb => by have h2 : b < wa.heap.size + 1 := hb.2; omega)
      have hbd : ∀ x ∈ bytesOf qv, 0 ≤ x ∧ x ≤ 255 := fun x hx => by
        unfold bytesOf at hx
        obtain ⟨b, _, rfl⟩ := List.mem_map.1 hx
        have := b.toNat_lt
        omega
      have hbl := bytesOf_length qv
      have hsp1 : SpansAt w1 := HSP.out.below (hbw.trans ((hba.trans (hb1.mono hba.size)).mono (by omega))) (Nat.le_refl _)
      have HC := check_any (· < w1.heap.size) (some ⟨wa.heap.size, 0, none⟩) cap (bytesOf qv) w1 hsl (fun _ h => h) hbd (by rw [hbl]; exact hcl) (by rw [hbl]; exact z2) hsp1
      rw [hbl] at HC
      have HCC := Sp.hid HC
      have HB1 := Sp.hid (hba.trans (hb1.mono hba.size) : Below wr.heap.size wr w1)
      have HBL := Sp.hid hbl
      have hs1 : wr.heap.size ≤ w1.heap.size := HB1.out.size
      have hwas : wa.heap.size = wr.heap.size + 1 := by rw [hwa]; simp
      rw [hwas] at HCC hcv
      rw [hwa] at hcv
      have hwl : wr.heap.size + 1 < w1.heap.size := by omega
      clear HC hq hall hb hbw z1 z2 z3 z4 hb1 hbl hsl hbd hw1 hcap hba hsp1 hsz1 hwas hwa
      go_wp2_with fail
      refine HCC.out.mono ?_
      rintro e w2 ⟨kk, rs, hch, hkk, rfl, hb2⟩
      have HB2 := Sp.hid (HB1.out.trans (hb2.mono hs1))
      have HCH := Sp.hid hch
      clear hb2 hch
      by_cases hkm : kk < qv.size
      · rw [if_pos hkm]
        have htx : textB qv = false := by
          refine textB_no ?_
          rintro ⟨rs', h'⟩
          have := (chars_uniq HCH.out h').2
          rw [HBL.out] at this
          omega
        have HTX := Sp.hid htx
        clear htx
        go_wp2
        go_ret
        refine ⟨?_, HBW.out.trans (HB2.out.mono (by omega))⟩
        unfold writtenS
        dsimp only
        rw [HNO.out HTX.out]
        rfl
      · rw [if_neg hkm]
        obtain rfl : kk = qv.size := by omega
        have htx : textB qv = true := textB_yes ⟨rs, by rw [HBL.out]; exact HCH.out⟩
        have HTX := Sp.hid htx
        clear htx
        go_wp2
        go_roundw
        case rel => exact ⟨k + 1, by omega, by go_num, HNX.out HTX.out, HB.out.trans (HB2.out.mono hsw)⟩
        case measure => simp [intOf]; omega
    · obtain rfl : k = sp.length := by omega
      rw [List.take_length] at hall
      have HALL := Sp.hid hall
      clear hall hb hbw
      go_wp2
      go_ret
      refine ⟨?_, HBW.out⟩
      unfold writtenS
      dsimp only
      rw [HALL.out]
      rfl

theorem formedM_next {l : List StepM} {k : Nat} (hk : k < l.length) (h : ∀ i, i < k → (l[i]?.map (okStep (i + 1 == l.length))).getD true = true) (ho : okStep (k + 1 == l.length) l[k] = true) : ∀ i, i < k + 1 → (l[i]?.map (okStep (i + 1 == l.length))).getD true = true := by
  intro i hi
  by_cases hik : i < k
  · exact h i hik
  · obtain rfl : i = k := by omega
    rw [List.getElem?_eq_getElem hk]
    exact ho
theorem formedM_bad {l : List StepM} {k : Nat} (hk : k < l.length) (ho : okStep (k + 1 == l.length) l[k] = false) : formedM l = false := by
  unfold formedM
  rw [← Bool.not_eq_true, List.all_eq_true]
  intro h
  have := h k (List.mem_range.2 hk)
  rw [List.getElem?_eq_getElem hk] at this
  simp only [Option.map_some, Option.getD_some] at this
  rw [ho] at this
  cases this
theorem formedM_good {l : List StepM} (h : ∀ i, i < l.length → (l[i]?.map (okStep (i + 1 == l.length))).getD true = true) : formedM l = true := by
  unfold formedM
  rw [List.all_eq_true]
  exact fun i hi => h i (List.mem_range.1 hi)

set_option maxRecDepth 100000 in
set_option maxHeartbeats 8000000 in
theorem formed_any (F : Nat → Prop) (a : Option Addr) (cap : Nat) (xs : List StepM) (w : World) (hxs : Sl pstepS F w a xs) (hF : ∀ k, F k → k < w.heap.size) (hlen : xs.length ≤ 9223372036854775807) :
    Calls Tryz.prog 42 #[.agg #[.slice a xs.length cap]] w fun e w' => e = .returned (.bool (formedM xs)) ∧ Below w.heap.size w w' := by
  have HX := Sp.hid hxs
  have HF := Sp.hid hF
  obtain ⟨w0, hw0⟩ : ∃ w0, w0 = w.alloc (.cells #[.slice a xs.length cap] 25) := ⟨_, rfl⟩
  have hb0 : Below w.heap.size w w0 := by rw [hw0]; exact (Below.refl _ _).alloc (Nat.le_refl _) _
  have hs0 : w.heap.size + 1 ≤ w0.heap.size := by rw [hw0]; simp
  have hc0 : w0.heap[w.heap.size]? = some (.cells #[.slice a xs.length cap] 25 (0, 0)) := by rw [hw0]; exact heap_alloc_new _ _
  have HB0 := Sp.hid hb0
  have HC0 := Sp.hid hc0
  have HW0 := Sp.hid hw0
  clear hxs hF hb0 hc0 hw0
  go_enter Tryz.func42, Tryz.ntmps42
  go_wp2
  rw [← HW0.out]
  go_loopw [10] (fun i wr => ∃ k : Nat, k ≤ xs.length ∧ i = .int .i64 k ∧ (∀ j, j < k → (xs[j]?.map (okStep (j + 1 == xs.length))).getD true = true) ∧ Below w0.heap.size w0 wr) (fun i _ => xs.length - (intOf i).toNat)
  case atStart => exact ⟨0, Nat.zero_le _, rfl, (by omega), Below.refl _ _⟩
  case round =>
    obtain ⟨k, hk, rfl, hall, hb⟩ := hrel
    have hsw := hb.size
    have HB := Sp.hid hb
    have hbw : Below w.heap.size w wr := HB0.out.trans (hb.mono (by omega))
    have HBW := Sp.hid hbw
    have HALL := Sp.hid hall
    by_cases hlt : k < xs.length
    · obtain ⟨b, o, pa, pc, rfl, fb, ⟨z1, z2⟩, hps, e1, e2, e3⟩ := pstep_cells (HX.out.below HF.out hbw) k hlt
      have hbr : b < wr.heap.size := World.block_lt_of_cell? _ _ e1
      have HNX := Sp.hid (fun h => formedM_next hlt hall h)
      have HNO := Sp.hid (fun h => formedM_bad hlt h)
      have hcr : wr.heap[w.heap.size]? = some (.cells #[.slice (some ⟨b, o, none⟩) xs.length cap] 25 (0, 0)) := (hb.block _ (by omega)).trans HC0.out
      have c0 : wr.cell? ⟨w.heap.size, 0, none⟩ = some (.slice (some ⟨b, o, none⟩) xs.length cap) := by simp [World.cell?, hcr]
      obtain ⟨q, hq⟩ : ∃ q, q = xs[k] := ⟨_, rfl⟩
      rw [← hq] at e1 e2 e3 z1 z2 hps HNX HNO
      obtain ⟨sa, sn, sp⟩ := q
      dsimp only at e1 e2 e3 z1 z2 hps HNX HNO
      obtain ⟨wa, hwa⟩ : ∃ wa, wa = wr.alloc (.cells #[.bool sa, .string sn, .slice pa sp.length pc] 68) := ⟨_, rfl⟩
      have hba : Below wr.heap.size wr wa := by rw [hwa]; exact (Below.refl _ _).alloc (Nat.le_refl _) _
      have hsa : wr.heap.size + 1 ≤ wa.heap.size := by rw [hwa]; simp
      have HBA := Sp.hid hba
      have HWA := Sp.hid hwa
      have HPS := Sp.hid hps
      obtain ⟨last, hlast⟩ : ∃ last, last = (k + 1 == xs.length) := ⟨_, rfl⟩
      rw [← hlast] at HNX HNO
      have hwl : w.heap.size < wr.heap.size := by omega
      have z2' : sp.length ≤ 9223372036854775807 := z2
      have hgood : (sa && (!last || !sp.isEmpty)) = false → sp.all formedP = true → okStep last ⟨sa, sn, sp⟩ = true := fun h1 h2 => by unfold okStep; dsimp only; rw [h1, h2]; rfl
      have hbad1 : (sa && (!last || !sp.isEmpty)) = true → okStep last ⟨sa, sn, sp⟩ = false := fun h1 => by unfold okStep; dsimp only; rw [h1]; rfl
      have hbad2 : sp.all formedP = false → okStep last ⟨sa, sn, sp⟩ = false := fun h1 => by unfold okStep; dsimp only; rw [h1, Bool.and_false]
      have HG := Sp.hid hgood
      have HB1 := Sp.hid hbad1
      have HB2 := Sp.hid hbad2
      have HLAST := Sp.hid hlast
      clear hq hall hb hbw z1 z2 hcr hba hwa hps hgood hbad1 hbad2 hlast
      obtain ⟨wo, rfl⟩ : ∃ wo : World, wo = wr := ⟨_, rfl⟩
      cases sa
      · go_wp2
        rw [← HWA.out]
        go_loopw [34] (fun i wr => ∃ q : Nat, q ≤ sp.length ∧ i = .int .i64 q ∧ (sp.take q).all formedP = true ∧ Below wa.heap.size wa wr) (fun i _ => sp.length - (intOf i).toNat)
        case atStart => exact ⟨0, Nat.zero_le _, rfl, rfl, Below.refl _ _⟩
        case round =>
          obtain ⟨q, hq, rfl, hqall, hbi⟩ := hrel
          have hsi := hbi.size
          have HBI2 := Sp.hid hbi
          have HBI := Sp.hid (HBA.out.trans (hbi.mono (by omega)) : Below wo.heap.size wo wr)
          by_cases hqlt : q < sp.length
          · obtain ⟨b2, o2, rfl, fb2, ⟨y1, y2, y3⟩, a1, a2, a3⟩ := pred_cells ((HPS.out.below (fun j hj => by have := HF.out j hj; omega) (HBA.out.trans (hbi.mono (by omega))))) q hqlt
            have hb2 : b2 < wr.heap.size := World.block_lt_of_cell? _ _ a1
            have HNXQ := Sp.hid (fun h => all_take_next hqlt hqall h)
            have HNOQ := Sp.hid (fun h => all_not (p := formedP) hqlt h)
            obtain ⟨x, hx⟩ : ∃ x, x = sp[q] := ⟨_, rfl⟩
            rw [← hx] at a1 a2 a3 y1 y2 y3 HNXQ HNOQ
            obtain ⟨fq, hfq⟩ : ∃ fq, fq = formedP x := ⟨_, rfl⟩
            have HCQ := Sp.hid (fun W => predFormed_any x W y3)
            rw [← hfq] at HNXQ HNOQ HCQ
            have hbx : Below wr.heap.size wr (wr.alloc (.cells #[.string x.attr, .string x.value, .int .i64 x.place] 70)) := (Below.refl _ _).alloc (Nat.le_refl _) _
            have HBX := Sp.hid hbx
            clear hx hfq hqall hbi y1 y2 y3 hbx
            go_wp2_with fail
            refine (HCQ.out _).mono ?_
            rintro e w2 ⟨rfl, hb2'⟩
            have HB2' := Sp.hid (HBX.out.trans (hb2'.mono (by simp)))
            clear hb2'
            cases fq
            · go_wp2
              go_ret
              refine ⟨by rw [HNO.out (HB2.out (HNOQ.out (by trivial)))]; rfl, HBW.out.trans ((HBI.out.trans (HB2'.out.mono (by omega))).mono (by omega))⟩
            · go_wp2
              go_roundw
              case rel => exact ⟨q + 1, by omega, by go_num, HNXQ.out (by trivial), HBI2.out.trans (HB2'.out.mono hsi)⟩
              case measure => simp [intOf]; omega
          · obtain rfl : q = sp.length := by omega
            rw [List.take_length] at hqall
            have HQALL := Sp.hid hqall
            have hbe : Below w0.heap.size w0 wr := HB.out.trans (HBI.out.mono hsw)
            have HBE := Sp.hid hbe
            clear hqall hbi hbe
            go_wp2
            go_roundw
            case rel => exact ⟨k + 1, by omega, by go_num, HNX.out (HG.out (by trivial) HQALL.out), HBE.out⟩
            case measure => simp [intOf]; omega

      · cases last
        · have hl : (k : Int) < (xs.length : Int) - 1 := by
            have := HLAST.out
            have h2 : k + 1 ≠ xs.length := by simpa using this.symm
            omega
          go_wp2
          go_ret
          exact ⟨by rw [HNO.out (HB1.out (by trivial))]; rfl, (by rw [← HWA.out]; exact HBW.out.trans (HBA.out.mono (by omega)))⟩
        · have hl : ¬ (k : Int) < (xs.length : Int) - 1 := by
            have := HLAST.out
            have h2 : k + 1 = xs.length := by simpa using this.symm
            omega
          by_cases hpe : 0 < sp.length
          · have hpe' : (0 : Int) < (sp.length : Int) := by omega
            have hne : sp.isEmpty = false := by cases sp with | nil => simp at hpe | cons => rfl
            have HNE := Sp.hid hne
            clear hne
            go_wp2
            go_ret
            exact ⟨by rw [HNO.out (HB1.out (by rw [HNE.out]; rfl))]; rfl, (by rw [← HWA.out]; exact HBW.out.trans (HBA.out.mono (by omega)))⟩
          · have hpe' : ¬ (0 : Int) < (sp.length : Int) := by omega
            have hne : sp.isEmpty = true := by cases sp with | nil => rfl | cons => simp at hpe
            have HNE := Sp.hid hne
            clear hne
            go_wp2
            rw [← HWA.out]
            go_loopw [34] (fun i wr => ∃ q : Nat, q ≤ sp.length ∧ i = .int .i64 q ∧ (sp.take q).all formedP = true ∧ Below wa.heap.size wa wr) (fun i _ => sp.length - (intOf i).toNat)
            case atStart => exact ⟨0, Nat.zero_le _, rfl, rfl, Below.refl _ _⟩
            case round =>
              obtain ⟨q, hq, rfl, hqall, hbi⟩ := hrel
              have hsi := hbi.size
              have HBI2 := Sp.hid hbi
              have HBI := Sp.hid (HBA.out.trans (hbi.mono (by omega)) : Below wo.heap.size wo wr)
              by_cases hqlt : q < sp.length
              · exact absurd hqlt (by omega)
              · obtain rfl : q = sp.length := by omega
                rw [List.take_length] at hqall
                have HQALL := Sp.hid hqall
                have hbe : Below w0.heap.size w0 wr := HB.out.trans (HBI.out.mono hsw)
                have HBE := Sp.hid hbe
                clear hqall hbi hbe
                go_wp2
                go_roundw
                case rel => exact ⟨k + 1, by omega, by go_num, HNX.out (HG.out (by rw [HNE.out]; rfl) HQALL.out), HBE.out⟩
                case measure => simp [intOf]; omega

    · obtain rfl : k = xs.length := by omega
      clear hall hb hbw
      go_wp2
      go_ret
      exact ⟨by rw [formedM_good HALL.out]; rfl, HBW.out⟩

end Go.Proofs.YtoknglpfchjbjaaGreatDoor
