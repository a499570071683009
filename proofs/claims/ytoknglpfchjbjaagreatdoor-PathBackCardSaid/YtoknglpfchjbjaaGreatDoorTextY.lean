/- path.Path.Text: the text of a path. Conditions: the tables of spans and of powers of ten as laid; values of up to 80 bytes. -/
import Derived.Test.YtoknglpfchjbjaaGreatDoorTextX
import Derived.Test.YtoknglpfchjbjaaGreatDoorValues
namespace Go.Proofs.YtoknglpfchjbjaaGreatDoor
open Go.RowKit Go.Sp

def TextPost (steps : List StepM) (w : World) (e : Ending) (w' : World) : Prop := Below w.heap.size w w' ∧
  ((pcheckM steps ≠ 0 ∧ e = .returned (.tuple #[.string ⟨#[]⟩, .int .i64 (pcheckM steps)])) ∨ (pcheckM steps = 0 ∧ e = .returned (.tuple #[.string (bsOf (textM steps)), .int .i64 0])))

theorem texts_next {l : List StepM} {k : Nat} (hk : k < l.length) : ((l.map fun s => bsOf (stepT s)).take (k + 1)).map Value.string = ((l.map fun s => bsOf (stepT s)).take k).map Value.string ++ [.string (bsOf (stepT l[k]))] := by
  rw [List.take_succ_eq_append_getElem (by simpa using hk), List.map_append]
  simp

set_option maxRecDepth 100000 in
set_option maxHeartbeats 16000000 in
theorem pathText_any (F : Nat → Prop) (steps : List StepM) (sa : Option Addr) (sc : Nat) (w : World) (hsl : Sl pstepS F w sa steps) (hF : ∀ k, F k → k < w.heap.size) (hst : steps.length ≤ 9223372036854775807) (hsm : smallV steps) (hsp : SpansAt w) (ht : PowAt w) :
    Calls Tryz.prog 18 #[.agg #[.slice sa steps.length sc]] w (TextPost steps w) := by
  obtain ⟨i0, hi0, hz0, hz1, hz2⟩ := info_parts infoStr
  obtain ⟨w1, hw1⟩ : ∃ w1, w1 = w.alloc (.cells #[.slice sa steps.length sc] 25) := ⟨_, rfl⟩
  have hs1 : w.heap.size + 1 ≤ w1.heap.size := by rw [hw1]; simp
  have hb1 : Below w.heap.size w w1 := by rw [hw1]; exact (Below.refl _ _).alloc (Nat.le_refl _) _
  have ht1 : w1.heap[w.heap.size]? = some (.cells #[.slice sa steps.length sc] 25 (0, 0)) := by rw [hw1]; exact World.alloc_heap_new _ _
  have HCK := Sp.hid (pathCheck_any F sa sc steps w1 (hsl.below hF hb1) (fun k hk => Nat.lt_of_lt_of_le (hF k hk) hb1.size) hst (hsp.below hb1 (Nat.le_refl _)))
  have HSL := Sp.hid hsl
  have HF := Sp.hid hF
  have HT := Sp.hid ht
  have HSM := Sp.hid hsm
  have HW1 := Sp.hid hw1
  have HB1 := Sp.hid hb1
  have HT1 := Sp.hid ht1
  obtain ⟨cp, hcp⟩ : ∃ cp, cp = pcheckM steps := ⟨_, rfl⟩
  rw [← hcp] at HCK
  have HCP := Sp.hid hcp
  clear hsl hF hsp ht hsm hw1 hb1 ht1 hcp
  go_enter Tryz.func18, Tryz.ntmps18
  go_wp2_with fail
  rw [← HW1.out]
  refine HCK.out.mono ?_
  rintro e w2 ⟨rfl, hb2⟩
  have hs2 := hb2.size
  have HB2 := Sp.hid (HB1.out.trans (hb2.mono (by omega)) : Below w.heap.size w w2)
  have HT2 := Sp.hid ((hb2.block _ (by omega)).trans HT1.out)
  clear hb2
  by_cases h0 : cp = 0
  · subst h0
    have t0 : w2.cell? ⟨w.heap.size, 0, none⟩ = some (.slice sa steps.length sc) := cell_at HT2.out 0
    by_cases hl : steps.length = 0
    · have hnil : steps = [] := List.eq_nil_of_length_eq_zero hl
      have hli : (((steps.length : Nat) : Int) == 0) = true := by rw [hl]; rfl
      have HN := Sp.hid (show bsOf (textM steps) = ⟨#[46]⟩ by rw [hnil]; rfl)
      clear hnil hl
      go_wp2
      refine bodyPost_ret (v := .tuple #[.string ⟨#[46]⟩, .int .i64 0]) (by simp [results, Tryz.f18, go_sem]) rfl ⟨HB2.out, .inr ⟨HCP.out.symm, by rw [HN.out]⟩⟩
    · have hli : (((steps.length : Nat) : Int) == 0) = false := by rw [beq_eq_false_iff_ne]; omega
      obtain ⟨p1, p2, p3, p4⟩ := pcheck_ok HCP.out.symm
      have HG := Sp.hid (good_of_check p3 p4)
      have H8 := Sp.hid p2
      have HLEN := Sp.hid (textM_len (good_of_check p3 p4) HSM.out p2 p1)
      have HTM := Sp.hid (show textM steps = Lib.join (steps.map stepT) [47] by unfold textM; rw [if_neg (fun e => hl (by rw [e]; rfl))])
      have hfew := p1
      have hpos : 0 < steps.length := by omega
      clear p1 p2 p3 p4 hl
      go_wp2
      go_loopw [5, 20] (fun v i wr => ∃ k : Nat, k ≤ steps.length ∧ i = .int .i64 k ∧ wr.ownsRow w2.heap.size 9 1 v k (((steps.map fun s => bsOf (stepT s)).take k).map Value.string) ∧ Below w2.heap.size w2 wr) (fun _ i _ => steps.length - (intOf i).toNat)
      case atStart => exact ⟨0, Nat.zero_le _, rfl, World.ownsRow_nil _ _ _ _, Below.refl _ _⟩
      case round =>
        obtain ⟨k, hk, rfl, hown, hb⟩ := hrel
        have hsw := hb.size
        have hbw : Below w.heap.size w wr := HB2.out.trans (hb.mono (by omega))
        by_cases hlt : k < steps.length
        · obtain ⟨b, o, pa, pc, rfl, fb, -, hpr, e1, e2, e3⟩ := pstep_cells (HSL.out.below HF.out hbw) k hlt
          have hbr : b < wr.heap.size := World.block_lt_of_cell? _ _ e1
          have hnext := texts_next hlt
          have hg := HG.out _ (List.getElem_mem hlt)
          have hv := HSM.out _ (List.getElem_mem hlt)
          have h8 := H8.out _ (List.getElem_mem hlt)
          obtain ⟨x, hx⟩ : ∃ x, x = steps[k] := ⟨_, rfl⟩
          rw [← hx] at hpr e1 e2 e3 hnext hg hv h8
          obtain ⟨w3, hw3⟩ : ∃ w3, w3 = wr.alloc (.cells #[.bool x.isAttr, .string x.name, .slice pa x.preds.length pc] 68) := ⟨_, rfl⟩
          have hb3 : Below wr.heap.size wr w3 := by rw [hw3]; exact (Below.refl _ _).alloc (Nat.le_refl _) _
          have hs3 : wr.heap.size + 1 ≤ w3.heap.size := by rw [hw3]; simp
          have hFr : ∀ k, F k → k < wr.heap.size := fun k hk => Nat.lt_of_lt_of_le (HF.out k hk) hbw.size
          have HCALL := Sp.hid (stepText_any F x pa pc w3 hg hv h8 (hpr.below hFr hb3) (fun k hk => Nat.lt_of_lt_of_le (hFr k hk) hb3.size) ((HT.out.below hbw).below hb3))
          obtain ⟨st, hst'⟩ : ∃ st, st = bsOf (stepT x) := ⟨_, rfl⟩
          rw [← hst'] at HCALL hnext
          have HNX := Sp.hid hnext
          have HO := Sp.hid hown
          have HB := Sp.hid hb
          have HW3 := Sp.hid hw3
          have HB23 := Sp.hid (hb.trans (hb3.mono hsw) : Below w2.heap.size w2 w3)
          have HBR3 := Sp.hid hb3
          clear fb hnext hg hv h8 hx hw3 hb3 hown hb hbw hpr hFr hst'
          go_wp2_with fail
          rw [← HW3.out]
          refine HCALL.out.mono ?_
          rintro e w6 ⟨rfl, hb6⟩
          have HB6 := Sp.hid (HB23.out.trans (hb6.mono HB23.out.size) : Below w2.heap.size w2 w6)
          have HO6 : Hid (w6.ownsRow w2.heap.size 9 1 u5 k (((steps.map fun s => bsOf (stepT s)).take k).map Value.string)) := Sp.hid (own_same HO.out (fun j hj => (HBR3.out.trans (hb6.mono HBR3.out.size)).block j (HO.out.lt j hj).2))
          have hs26 := HB6.out.size
          clear hb6
          go_wp2_with (at_builtin; refine wpList_append_own_at _ rfl _ _ 39 rfl w2.heap.size 9 i0 _ 1 16 Tryz.underlying39 hi0 hz0 hz1 hz2 rfl (by decide) _ _ _ rfl (HO6.out.alloc _) ⟨w6.heap.size, 0, none⟩ 1 1 [.string st] rfl rfl ?c1 ?c2 ?c3 ?c4 ?c5 ?c6)
          case c1 => exact cell_one_new _ _ _
          case c2 => intro u hu; simp at hu; subst hu; rfl
          case c3 => unfold maxLen; omega
          case c4 => omega
          case c5 => simp; omega
          case c6 =>
            intro v' w7 hown' hgrow _ _
            have hb7 : Below w2.heap.size w2 w7 := (HB6.out.alloc HB6.out.size _).grown hgrow (by simp; omega) (fun j hj => (HO6.out.lt j hj).1)
            have hown2 : w7.ownsRow w2.heap.size 9 1 v' (k + 1) (((steps.map fun s => bsOf (stepT s)).take (k + 1)).map Value.string) := by rw [HNX.out, List.map_take, List.map_map]; exact hown'
            have HO7 := Sp.hid hown2
            have HB7 := Sp.hid hb7
            clear hown' hgrow hb7 hown2
            go_wp2
            go_roundw
            case rel => first | exact ⟨k + 1, by omega, by go_num, HO7.out, HB7.out⟩ | ((repeat apply Exists.intro); refine ⟨⟨k + 1, by omega, by go_num, HO7.out, HB7.out⟩, ?_⟩; rw [show ((k + 1 : Nat) : Int) = (k : Int) + 1 from rfl])
            case measure => simp [intOf]; omega
        · obtain rfl : k = steps.length := by omega
          rw [show ((steps.map fun s => bsOf (stepT s)).take steps.length) = steps.map fun s => bsOf (stepT s) from List.take_of_length_le (by simp)] at hown
          obtain ⟨g, c, hv⟩ := Joins.ownsRow_form hown hpos
          obtain ⟨a', c', hv', hc'⟩ := own_slice_cap hown
          rw [hv] at hv'
          obtain ⟨rfl, -, rfl⟩ := Value.slice.inj hv'
          subst hv
          have hcells := hown.cells (g := g) rfl
          have hj := join_any g 0 c (steps.map fun s => bsOf (stepT s)) ⟨#[47]⟩ wr (fun j x hx => by
            have := hcells j (.string x) (by rw [List.getElem?_map, hx]; rfl)
            cases j with
            | zero => simpa [Addr.add] using this
            | succ j => simpa [Addr.add] using this) (hown.lt g rfl).2 (by rw [List.length_map]; omega) (by rw [List.length_map]; exact hc') (by
            have e : (steps.map fun s => bsOf (stepT s)).map (·.data.toList) = steps.map stepT := by rw [List.map_map]; rfl
            rw [e]
            have h1 := HLEN.out
            rw [HTM.out] at h1
            exact Nat.le_trans h1 (by decide))
          rw [List.length_map, show (steps.map fun s => bsOf (stepT s)).map (·.data.toList) = steps.map stepT by rw [List.map_map]; rfl, show (ByteArray.mk #[47]).data.toList = [47] from rfl, ← HTM.out] at hj
          have HJ := Sp.hid hj
          have HB := Sp.hid hbw
          clear hown hb hv' hcells hj hbw hc'
          go_wp2_with fail
          refine HJ.out.mono ?_
          rintro e w5 ⟨rfl, hb5⟩
          have HB5 := Sp.hid (HB.out.trans (hb5.mono HB.out.size))
          clear hb5
          go_wp2
          refine bodyPost_ret (v := .tuple #[.string (bsOf (textM steps)), .int .i64 0]) (by simp [results, Tryz.f18, go_sem]; rfl) rfl ⟨HB5.out, .inr ⟨HCP.out.symm, rfl⟩⟩
  · have h0' : (cp != 0) = true := by simpa using h0
    have H0 := Sp.hid h0
    clear h0
    go_wp2
    refine bodyPost_ret (v := .tuple #[.string ⟨#[]⟩, .int .i64 cp]) (by simp [results, Tryz.f18, go_sem]) rfl ⟨HB2.out, .inl ⟨by rw [← HCP.out]; exact H0.out, by rw [HCP.out]⟩⟩

end Go.Proofs.YtoknglpfchjbjaaGreatDoor
