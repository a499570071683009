/- path.Step.text: the text of a step. Conditions: the table of powers of ten as laid; values of up to 80 bytes. -/
import Derived.Test.YtoknglpfchjbjaaGreatDoorTextW
namespace Go.Proofs.YtoknglpfchjbjaaGreatDoor
open Go.RowKit Go.Sp

theorem predsT_next {l : List PredM} {k : Nat} (hk : k < l.length) : predsT (l.take (k + 1)) = predsT (l.take k) ++ predT l[k] := by
  unfold predsT
  rw [List.take_succ_eq_append_getElem hk, List.map_append, List.flatten_append]
  simp


set_option maxRecDepth 100000 in
set_option maxHeartbeats 2000000 in
theorem stepText_any (F : Nat → Prop) (s : StepM) (pa : Option Addr) (pc : Nat) (w : World) (hg : goodS s) (hv : ∀ q ∈ s.preds, q.value.size ≤ 80) (h8 : s.preds.length ≤ 8) (hps : Sl predS F w pa s.preds) (hF : ∀ k, F k → k < w.heap.size) (ht : PowAt w) :
    Calls Tryz.prog 33 #[stepV s pa pc] w fun e w' => e = .returned (.string (bsOf (stepT s))) ∧ Below w.heap.size w w' := by
  have HP := Sp.hid hps
  have HF := Sp.hid hF
  have HG := Sp.hid hg.1
  have HV := Sp.hid hv
  have HT := Sp.hid ht
  have hn : s.name.size ≤ 64 := by
    have h2 := hg.2
    rw [Lib.toList_data, Bool.or_eq_true, beq_iff_eq] at h2
    rcases h2 with h2 | h2
    · have : s.name.data.toList.length = 1 := by rw [h2]; rfl
      rw [Array.length_toList] at this
      have e : s.name.size = s.name.data.size := rfl
      omega
    · obtain ⟨c, l, _, _, _, h6⟩ := name_list h2
      exact h6
  obtain ⟨sa, sn, sp⟩ := s
  dsimp only [stepV] at HP HG HV hn h8 ⊢
  obtain ⟨w0, hw0⟩ : ∃ w0, w0 = w.alloc (.cells #[.bool sa, .string sn, .slice pa sp.length pc] 68) := ⟨_, rfl⟩
  have hb0 : Below w.heap.size w w0 := by rw [hw0]; exact (Below.refl _ _).alloc (Nat.le_refl _) _
  have hs0 : w.heap.size + 1 ≤ w0.heap.size := by rw [hw0]; simp
  have HB0 := Sp.hid hb0
  have HW0 := Sp.hid hw0
  clear hps hF hb0 hw0 hg hv ht
  cases sa
  · have HS := Sp.hid (show stepT ⟨false, sn, sp⟩ = sn.data.toList ++ predsT sp by unfold stepT; simp)
    go_enter Tryz.func33, Tryz.ntmps33
    go_wp2
    rw [← HW0.out]
    go_loopw [3, 15] (fun v i wr => ∃ (k : Nat) (t : ByteArray), k ≤ sp.length ∧ i = .int .i64 k ∧ v = .string t ∧ t.data.toList = sn.data.toList ++ predsT (sp.take k) ∧ t.size ≤ 65 + 150 * k ∧ Below w0.heap.size w0 wr) (fun _ i _ => sp.length - (intOf i).toNat)
    case atStart => exact ⟨0, sn, Nat.zero_le _, rfl, rfl, by simp [predsT], by have := hn; omega, Below.refl _ _⟩
    case round =>
      obtain ⟨k, t, hk, rfl, rfl, htx, hts, hb⟩ := hrel
      have hsw := hb.size
      have HB := Sp.hid hb
      have hbw : Below w.heap.size w wr := HB0.out.trans (hb.mono (by omega))
      have HBW := Sp.hid hbw
      by_cases hlt : k < sp.length
      · obtain ⟨b, o, rfl, fb, -, e1, e2, e3⟩ := pred_cells (HP.out.below HF.out hbw) k hlt
        have hbr : b < wr.heap.size := World.block_lt_of_cell? _ _ e1
        have hnx := predsT_next hlt
        have hgq := HG.out _ (List.getElem_mem hlt)
        have hvq := HV.out _ (List.getElem_mem hlt)
        obtain ⟨q, hq⟩ : ∃ q, q = sp[k] := ⟨_, rfl⟩
        rw [← hq] at e1 e2 e3 hgq hvq hnx
        have HQ := Sp.hid (fun W h => predText_any q W hgq hvq h)
        have hql := predT_len hgq hvq
        obtain ⟨ql, hqq⟩ : ∃ ql, ql = bsOf (predT q) := ⟨_, rfl⟩
        have hqs : ql.size ≤ 150 := by rw [hqq, bsOf_size]; exact hql
        have hqd : ql.data.toList = predT q := by rw [hqq]; rfl
        rw [← hqq] at HQ
        obtain ⟨qa, qv, qp⟩ := q
        dsimp only at e1 e2 e3 HQ
        obtain ⟨t2, l2, z2, r2⟩ := add_run Tryz.prog t ql (by omega)
        have hba : Below wr.heap.size wr (wr.alloc (.cells #[.string qa, .string qv, .int .i64 qp] 70)) := (Below.refl _ _).alloc (Nat.le_refl _) _
        have HBA := Sp.hid hba
        have HPOW := Sp.hid ((HT.out.below hbw).below hba)
        have HL2 := Sp.hid (show t2.data.toList = sn.data.toList ++ predsT (sp.take (k + 1)) by rw [l2, htx, hqd, hnx, List.append_assoc])
        have hz2 : t2.size ≤ 65 + 150 * (k + 1) := by omega
        clear hq hb hbw hba hgq hvq hqq hqd l2 htx hnx hql z2 hts
        go_wp2_with fail
        refine (HQ.out _ HPOW.out).mono ?_
        rintro e w2 ⟨rfl, hb2⟩
        have HB2 := Sp.hid (HBA.out.trans (hb2.mono (by simp)))
        clear hb2
        go_wp2
        go_roundw
        case rel => first | exact ⟨k + 1, t2, by omega, by go_num, rfl, HL2.out, hz2, HB.out.trans (HB2.out.mono hsw)⟩ | ((repeat apply Exists.intro); refine ⟨⟨k + 1, t2, by omega, by go_num, rfl, HL2.out, hz2, HB.out.trans (HB2.out.mono hsw)⟩, ?_⟩; rw [show ((k + 1 : Nat) : Int) = (k : Int) + 1 from rfl])
        case measure => simp [intOf]; omega
      · obtain rfl : k = sp.length := by omega
        rw [List.take_length] at htx
        have HE := Sp.hid (show t = bsOf (stepT ⟨false, sn, sp⟩) by rw [HS.out]; exact bs_of htx)
        clear htx hb hbw
        go_wp2
        go_ret
        exact ⟨by rw [HE.out] <;> rfl, HBW.out⟩
  · obtain ⟨s1, l1, z1, r1⟩ := add_run Tryz.prog ⟨#[64]⟩ sn (by have : (ByteArray.mk #[64]).size = 1 := rfl; omega)
    have hn1 : s1.size ≤ 65 := by have : (ByteArray.mk #[64]).size = 1 := rfl; omega
    have HS := Sp.hid (show stepT ⟨true, sn, sp⟩ = s1.data.toList ++ predsT sp by rw [l1]; unfold stepT; simp)
    clear l1 z1
    go_enter Tryz.func33, Tryz.ntmps33
    go_wp2
    rw [← HW0.out]
    go_loopw [3, 15] (fun v i wr => ∃ (k : Nat) (t : ByteArray), k ≤ sp.length ∧ i = .int .i64 k ∧ v = .string t ∧ t.data.toList = s1.data.toList ++ predsT (sp.take k) ∧ t.size ≤ 65 + 150 * k ∧ Below w0.heap.size w0 wr) (fun _ i _ => sp.length - (intOf i).toNat)
    case atStart => exact ⟨0, s1, Nat.zero_le _, rfl, rfl, by simp [predsT], by have := hn1; omega, Below.refl _ _⟩
    case round =>
      obtain ⟨k, t, hk, rfl, rfl, htx, hts, hb⟩ := hrel
      have hsw := hb.size
      have HB := Sp.hid hb
      have hbw : Below w.heap.size w wr := HB0.out.trans (hb.mono (by omega))
      have HBW := Sp.hid hbw
      by_cases hlt : k < sp.length
      · obtain ⟨b, o, rfl, fb, -, e1, e2, e3⟩ := pred_cells (HP.out.below HF.out hbw) k hlt
        have hbr : b < wr.heap.size := World.block_lt_of_cell? _ _ e1
        have hnx := predsT_next hlt
        have hgq := HG.out _ (List.getElem_mem hlt)
        have hvq := HV.out _ (List.getElem_mem hlt)
        obtain ⟨q, hq⟩ : ∃ q, q = sp[k] := ⟨_, rfl⟩
        rw [← hq] at e1 e2 e3 hgq hvq hnx
        have HQ := Sp.hid (fun W h => predText_any q W hgq hvq h)
        have hql := predT_len hgq hvq
        obtain ⟨ql, hqq⟩ : ∃ ql, ql = bsOf (predT q) := ⟨_, rfl⟩
        have hqs : ql.size ≤ 150 := by rw [hqq, bsOf_size]; exact hql
        have hqd : ql.data.toList = predT q := by rw [hqq]; rfl
        rw [← hqq] at HQ
        obtain ⟨qa, qv, qp⟩ := q
        dsimp only at e1 e2 e3 HQ
        obtain ⟨t2, l2, z2, r2⟩ := add_run Tryz.prog t ql (by omega)
        have hba : Below wr.heap.size wr (wr.alloc (.cells #[.string qa, .string qv, .int .i64 qp] 70)) := (Below.refl _ _).alloc (Nat.le_refl _) _
        have HBA := Sp.hid hba
        have HPOW := Sp.hid ((HT.out.below hbw).below hba)
        have HL2 := Sp.hid (show t2.data.toList = s1.data.toList ++ predsT (sp.take (k + 1)) by rw [l2, htx, hqd, hnx, List.append_assoc])
        have hz2 : t2.size ≤ 65 + 150 * (k + 1) := by omega
        clear hq hb hbw hba hgq hvq hqq hqd l2 htx hnx hql z2 hts
        go_wp2_with fail
        refine (HQ.out _ HPOW.out).mono ?_
        rintro e w2 ⟨rfl, hb2⟩
        have HB2 := Sp.hid (HBA.out.trans (hb2.mono (by simp)))
        clear hb2
        go_wp2
        go_roundw
        case rel => first | exact ⟨k + 1, t2, by omega, by go_num, rfl, HL2.out, hz2, HB.out.trans (HB2.out.mono hsw)⟩ | ((repeat apply Exists.intro); refine ⟨⟨k + 1, t2, by omega, by go_num, rfl, HL2.out, hz2, HB.out.trans (HB2.out.mono hsw)⟩, ?_⟩; rw [show ((k + 1 : Nat) : Int) = (k : Int) + 1 from rfl])
        case measure => simp [intOf]; omega
      · obtain rfl : k = sp.length := by omega
        rw [List.take_length] at htx
        have HE := Sp.hid (show t = bsOf (stepT ⟨true, sn, sp⟩) by rw [HS.out]; exact bs_of htx)
        clear htx hb hbw
        go_wp2
        go_ret
        exact ⟨by rw [HE.out] <;> rfl, HBW.out⟩

end Go.Proofs.YtoknglpfchjbjaaGreatDoor
