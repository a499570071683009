/- path.Values: the values of what a path leads to. Conditions: the table of spans as laid; texts of up to 2^20 bytes where a hit is a node. -/
import Derived.Test.YtoknglpfchjbjaaGreatDoorHitAt
namespace Go.Proofs.YtoknglpfchjbjaaGreatDoor
open Go.RowKit Go.Sp Go.Maps

theorem infoStr : (Tryz.prog.info? 9).map (fun i => (i.zero, i.size, i.bytes)) = some (some (.string ⟨#[]⟩), 1, 16) := by kernel_rfl

def ValPost (n : Nat) (T : TT) (steps : List StepM) (w : World) (e : Ending) (w' : World) : Prop :=
  Below w.heap.size w w' ∧ ((checkM n T ≠ 0 ∧ e = .returned (.tuple #[.slice none 0 0, .int .i64 (checkM n T)])) ∨ (checkM n T = 0 ∧ pcheckM steps ≠ 0 ∧ e = .returned (.tuple #[.slice none 0 0, .int .i64 (pcheckM steps)])) ∨
    (checkM n T = 0 ∧ pcheckM steps = 0 ∧ ∃ v, e = .returned (.tuple #[v, .int .i64 0]) ∧ w'.ownsRow w.heap.size 9 1 v (leadM steps ([], T)).length ((valuesM n T (leadM steps ([], T))).map Value.string)))

set_option maxRecDepth 100000 in
set_option maxHeartbeats 16000000 in
theorem values_any (n : Nat) (hn : n ≤ 2000000) (n₀ : Nat) (vs : Array Value) (T : TT) (steps : List StepM) (sa : Option Addr) (sc : Nat) (w : World) (h : NodeAt n₀ n w vs T) (hsl : Sl pstepS (· < n₀) w sa steps) (hn₀ : n₀ ≤ w.heap.size) (hsc : steps.length ≤ sc) (hst : steps.length ≤ 9223372036854775807) (hsp : SpansAt w)
    (htx : (∃ h ∈ leadM steps ([], T), h.2.toList.isEmpty = true) → ∀ t ∈ nodesM n T, t.text.size ≤ 1048576) :
    Calls Tryz.prog 10 #[.agg vs, .agg #[.slice sa steps.length sc]] w (ValPost n T steps w) := by
  obtain ⟨i0, hi0, hz0, hz1, hz2⟩ := info_parts infoStr
  have HT := Sp.hid h
  have HTX := Sp.hid htx
  obtain ⟨aa, ca, ka, ck, rfl, hrep⟩ := h
  obtain ⟨w1, hw1⟩ : ∃ w1, w1 = (w.alloc (.cells #[.string T.label, .string T.text, .slice aa T.attrs.length ca, .slice ka T.kids.length ck] 29)).alloc (.cells #[.slice sa steps.length sc] 25) := ⟨_, rfl⟩
  have hs1 : w.heap.size + 2 ≤ w1.heap.size := by rw [hw1]; simp
  have hb1 : Below w.heap.size w w1 := by rw [hw1]; exact ((Below.refl _ _).alloc (Nat.le_refl _) _).alloc (by simp) _
  have ht1 : w1.heap[w.heap.size]? = some (.cells #[.string T.label, .string T.text, .slice aa T.attrs.length ca, .slice ka T.kids.length ck] 29 (0, 0)) := by
    rw [hw1]; exact (Below.heap_alloc _ _ _ (by simp)).trans (World.alloc_heap_new w _)
  have HSEL : Hid (Calls Tryz.prog 9 #[.agg #[.string T.label, .string T.text, .slice aa T.attrs.length ca, .slice ka T.kids.length ck], .agg #[.slice sa steps.length sc]] w1 (SelPost n T steps w1)) :=
    Sp.hid (select_any n hn n₀ _ T steps sa sc w1 (HT.out.below (hb1.mono hn₀)) (hsl.frame (fun b hb => hb1.block b (by omega))) (by omega) hsc hst (hsp.below hb1 (Nat.le_refl _)))
  have hthin := thin_rep hrep
  have HTHIN := Sp.hid hthin
  have HW1 := Sp.hid hw1
  have HB1 := Sp.hid hb1
  have HT1 := Sp.hid ht1
  clear hrep hsl hw1 hb1 ht1 hthin htx hsp
  go_enter Tryz.func10, Tryz.ntmps10
  go_wp2_with fail
  rw [← HW1.out]
  refine HSEL.out.mono ?_
  rintro e w2 ⟨hb2, hpost⟩
  have hs2 := hb2.size
  have HB2 := Sp.hid (HB1.out.trans (hb2.mono (by omega)) : Below w.heap.size w w2)
  have HT2 := Sp.hid ((hb2.block _ (by omega)).trans HT1.out)
  clear hb2
  rcases hpost with ⟨h0, rfl⟩ | ⟨h0, h1, rfl⟩ | ⟨h0, h1, ha, hc, rfl, hsl⟩
  · obtain ⟨ct, hct⟩ : ∃ ct, ct = checkM n T := ⟨_, rfl⟩
    rw [← hct] at h0 ⊢
    have h0' : (ct != 0) = true := by simpa using h0
    have HCT := Sp.hid hct
    clear hct
    go_wp2
    refine bodyPost_ret (v := .tuple #[.slice none 0 0, .int .i64 ct]) (by simp [results, Tryz.f10, go_sem]) rfl ⟨HB2.out, .inl ⟨by rw [← HCT.out]; exact h0, by rw [HCT.out]⟩⟩
  · obtain ⟨cp, hcp⟩ : ∃ cp, cp = pcheckM steps := ⟨_, rfl⟩
    rw [← hcp] at h1 ⊢
    have h1' : (cp != 0) = true := by simpa using h1
    have HCP := Sp.hid hcp
    have HCT := Sp.hid h0
    clear hcp h0
    go_wp2
    refine bodyPost_ret (v := .tuple #[.slice none 0 0, .int .i64 cp]) (by simp [results, Tryz.f10, go_sem]) rfl ⟨HB2.out, .inr (.inl ⟨HCT.out, by rw [← HCP.out]; exact h1, by rw [HCP.out]⟩)⟩
  · have hll : (leadM steps ([], T)).length ≤ 4294967296 := Nat.le_trans (leadM_length rfl steps n [] T HTHIN.out) (Nat.mul_le_mul_right 1048576 (checkM_nodes h0))
    have hfew := pcheckM_zero h1
    have HLA := Sp.hid (fun h hh => lead_at steps (T := T) (T0 := T) (ats := []) rfl h hh)
    obtain ⟨hits, hhits⟩ : ∃ hits, hits = leadM steps ([], T) := ⟨_, rfl⟩
    have HH := Sp.hid hhits
    rw [← hhits] at hll hsl HLA HTX ⊢
    have HSL := Sp.hid hsl
    have HC0 := Sp.hid h0
    have HC1 := Sp.hid h1
    clear hhits hsl h0 h1
    go_wp2
    go_loopw [8, 26] (fun v i wr => ∃ k : Nat, k ≤ hits.length ∧ i = .int .i64 k ∧ wr.ownsRow w2.heap.size 9 1 v k (((valuesM n T hits).take k).map Value.string) ∧ Below w2.heap.size w2 wr) (fun _ i _ => hits.length - (intOf i).toNat)
    case atStart => exact ⟨0, Nat.zero_le _, rfl, World.ownsRow_nil _ _ _ _, Below.refl _ _⟩
    case round =>
      obtain ⟨k, hk, rfl, hown, hb⟩ := hrel
      have hsw := hb.size
      by_cases hlt : k < hits.length
      · have hslr := HSL.out.frame (fun b hb' => hb.block b hb')
        obtain ⟨hb0, ho0, va, vc, rfl, fhb, hvi, a0, a1⟩ := hit_cells hslr k hlt
        have hbr := World.block_lt_of_cell? _ _ a0
        dsimp only at hbr
        have hvl : (valuesM n T hits).length = hits.length := by unfold valuesM; rw [List.length_map]
        have hnext : ((valuesM n T hits).take (k + 1)).map Value.string = ((valuesM n T hits).take k).map Value.string ++ [.string (valOf n ((atM hits[k].1 T).getD T) hits[k].2)] := by
          rw [List.take_succ_eq_append_getElem (by omega), List.map_append]
          congr 1
          simp [valuesM]
        obtain ⟨T', hat, hpl⟩ := HLA.out hits[k] (List.getElem_mem hlt)
        have hemp : hits[k].2.toList.isEmpty = true → ∀ t ∈ nodesM n T, t.text.size ≤ 1048576 := fun he => HTX.out ⟨_, List.getElem_mem hlt, he⟩
        obtain ⟨hit, hhit⟩ : ∃ hit, hit = hits[k] := ⟨_, rfl⟩
        rw [← hhit] at hvi a0 a1 hnext hat hpl hemp
        rw [hat, Option.getD_some] at hnext
        obtain ⟨w3, hw3⟩ : ∃ w3, w3 = wr.alloc (.cells #[.slice va hit.1.length vc, .string hit.2] 53) := ⟨_, rfl⟩
        have hb3 : Below wr.heap.size wr w3 := by rw [hw3]; exact (Below.refl _ _).alloc (Nat.le_refl _) _
        have hs3 : wr.heap.size + 1 ≤ w3.heap.size := by rw [hw3]; simp
        have hh3 : w3.heap[wr.heap.size]? = some (.cells #[.slice va hit.1.length vc, .string hit.2] 53 (0, 0)) := by rw [hw3]; exact World.alloc_heap_new _ _
        have hb23 : Below w2.heap.size w2 w3 := hb.trans (hb3.mono hsw)
        have ht3 := (hb23.block _ (by omega : w.heap.size < w2.heap.size)).trans HT2.out
        have hbw3 : Below w.heap.size w w3 := HB2.out.trans (hb23.mono (by omega))
        have hcall := at_any n₀ n _ T (fun b => b < w3.heap.size) hit.1 va vc w3 (HT.out.below (hbw3.mono hn₀)) (by omega) ((hvi.frame (fun b hb' => hb3.block b (by omega))).mono (fun b hb' => by omega)) (fun _ h => h) (by have : hit.1.length ≤ 0 + steps.length := hpl; omega)
        rw [hat] at hcall
        have HCALL := Sp.hid hcall
        have HAT := Sp.hid hat
        have HEMP := Sp.hid hemp
        have HNX := Sp.hid hnext
        have HO := Sp.hid hown
        have HB := Sp.hid hb
        have HW3 := Sp.hid hw3
        have HH3 := Sp.hid hh3
        have HB3 := Sp.hid hb3
        have HB23 := Sp.hid hb23
        have t0 : wr.cell? ⟨w.heap.size, 0, none⟩ = some (.string T.label) := cell_at ((hb.block _ (by omega : w.heap.size < w2.heap.size)).trans HT2.out) 0
        have t1 : wr.cell? ⟨w.heap.size, 1, none⟩ = some (.string T.text) := cell_at ((hb.block _ (by omega : w.heap.size < w2.heap.size)).trans HT2.out) 1
        have t2 : wr.cell? ⟨w.heap.size, 2, none⟩ = some (.slice aa T.attrs.length ca) := cell_at ((hb.block _ (by omega : w.heap.size < w2.heap.size)).trans HT2.out) 2
        have t3 : wr.cell? ⟨w.heap.size, 3, none⟩ = some (.slice ka T.kids.length ck) := cell_at ((hb.block _ (by omega : w.heap.size < w2.heap.size)).trans HT2.out) 3
        have hww : w.heap.size < wr.heap.size := by omega
        clear hslr fhb hvi hnext hat hemp hhit hw3 hh3 hb3 hb23 ht3 hcall hown hb hpl hbw3
        go_wp2_with fail
        rw [← HW3.out]
        refine HCALL.out.mono ?_
        rintro e w4 ⟨hb4, vs', rfl, hnode⟩
        have hs4 := hb4.size
        have hnode' := hnode
        obtain ⟨aa1, ca1, ka1, ck1, rfl, hrep'⟩ := hnode'
        obtain ⟨w5, hw5⟩ : ∃ w5, w5 = w4.alloc (.cells #[.string T'.label, .string T'.text, .slice aa1 T'.attrs.length ca1, .slice ka1 T'.kids.length ck1] 29) := ⟨_, rfl⟩
        have hb5 : Below w4.heap.size w4 w5 := by rw [hw5]; exact (Below.refl _ _).alloc (Nat.le_refl _) _
        have hs5 : w4.heap.size + 1 ≤ w5.heap.size := by rw [hw5]; simp
        have hb35 : Below w3.heap.size w3 w5 := hb4.trans (hb5.mono hs4)
        have hb25 : Below w2.heap.size w2 w5 := HB23.out.trans (hb35.mono (by omega))
        have hbr5 : Below wr.heap.size wr w5 := HB3.out.trans (hb35.mono (by omega))
        have HBR5 := Sp.hid hbr5
        clear hbr5
        have hh4 : w4.heap[wr.heap.size]? = some (.cells #[.slice va hit.1.length vc, .string hit.2] 53 (0, 0)) := (hb4.block _ (by omega)).trans HH3.out
        have x1 : w4.cell? ⟨wr.heap.size, 1, none⟩ = some (.string hit.2) := cell_at hh4 1
        have hh5 : w5.heap[wr.heap.size]? = some (.cells #[.slice va hit.1.length vc, .string hit.2] 53 (0, 0)) := (hb5.block _ (by omega)).trans hh4
        have hf5 : w5.heap[w4.heap.size]? = some (.cells #[.string T'.label, .string T'.text, .slice aa1 T'.attrs.length ca1, .slice ka1 T'.kids.length ck1] 29 (0, 0)) := by rw [hw5]; exact World.alloc_heap_new _ _
        have hnode5 := hnode.below (hb5.mono (by omega : n₀ ≤ w4.heap.size))
        have hrep5 := (treeS n).frame hrep' (fun b hb' => hb5.block b (by omega))
        obtain ⟨⟨_, _, hal, _⟩, aa9, ca9, ka9, ck9, hvs, hat5, _⟩ := treeS_parts hrep5
        simp only [List.cons.injEq, Value.slice.injEq, true_and, and_true] at hvs
        obtain ⟨⟨rfl, rfl⟩, rfl, rfl⟩ := hvs
        have hval := value_any (fun b => b < w5.heap.size) T'.label T'.text hit.2 aa1 ka1 T'.attrs ca1 T'.kids.length ck1 w5 (hat5.mono (fun b hb' => by omega)) (fun _ h => h) hal
        obtain ⟨_, hn1, hn2⟩ := at_nodes hit.1 HTHIN.out HAT.out
        have htxt : hit.2.toList.isEmpty = true → Calls Tryz.prog 27 #[.agg #[.string T'.label, .string T'.text, .slice aa1 T'.attrs.length ca1, .slice ka1 T'.kids.length ck1]] w5 fun e w' => e = .returned (.string ⟨(textsM n T').toArray⟩) ∧ Below w5.heap.size w5 w' := fun he =>
          texts_any n hn n₀ _ T' w5 hnode5 (by omega) (Nat.le_trans hn2 (checkM_nodes HC0.out)) (fun t ht => HEMP.out he t (hn1 t ht))
        have HVAL := Sp.hid hval
        have HTXT := Sp.hid htxt
        have HW5 := Sp.hid hw5
        have HB25 := Sp.hid hb25
        have HF5 := Sp.hid hf5
        have HH5 := Sp.hid hh5
        have hwr5 : wr.heap.size < w4.heap.size := by omega
        have f0 : w5.cell? ⟨w4.heap.size, 0, none⟩ = some (.string T'.label) := cell_at hf5 0
        have f1 : w5.cell? ⟨w4.heap.size, 1, none⟩ = some (.string T'.text) := cell_at hf5 1
        have f2 : w5.cell? ⟨w4.heap.size, 2, none⟩ = some (.slice aa1 T'.attrs.length ca1) := cell_at hf5 2
        have f3 : w5.cell? ⟨w4.heap.size, 3, none⟩ = some (.slice ka1 T'.kids.length ck1) := cell_at hf5 3
        clear hb4 hnode hrep' hw5 hb5 hb35 hb25 hh4 hh5 hf5 hnode5 hrep5 hat5 hval htxt hn1 hn2 a0 a1 t0 t1 t2 t3
        cases he : hit.2.toList.isEmpty
        · go_wp2_with fail
          rw [← HW5.out]
          refine HVAL.out.mono ?_
          rintro e w6 ⟨rfl, hb6⟩
          have HB6 := Sp.hid (HB25.out.trans (hb6.mono HB25.out.size) : Below w2.heap.size w2 w6)
          have HO6 : Hid (w6.ownsRow w2.heap.size 9 1 u8 k (((valuesM n T hits).take k).map Value.string)) := Sp.hid (own_same HO.out (fun j hj => (HBR5.out.trans (hb6.mono HBR5.out.size)).block j (HO.out.lt j hj).2))
          have hs26 := HB6.out.size
          clear hb6
          go_wp2_with (at_builtin; refine wpList_append_own_at _ rfl _ _ 39 rfl w2.heap.size 9 i0 _ 1 16 Tryz.underlying39 hi0 hz0 hz1 hz2 rfl (by decide) _ _ _ rfl (HO6.out.alloc _) ⟨w6.heap.size, 0, none⟩ 1 1 [.string ((attrV T'.attrs hit.2).getD ⟨#[]⟩)] rfl rfl ?c1 ?c2 ?c3 ?c4 ?c5 ?c6)
          case c1 => exact cell_one_new _ _ _
          case c2 => intro u hu; simp at hu; subst hu; rfl
          case c3 => unfold maxLen; omega
          case c4 => omega
          case c5 => simp; omega
          case c6 =>
            intro v' w7 hown' hgrow _ _
            have hb7 : Below w2.heap.size w2 w7 := (HB6.out.alloc HB6.out.size _).grown hgrow (by simp; omega) (fun j hj => (HO6.out.lt j hj).1)
            have hnx := HNX.out
            unfold valOf at hnx
            rw [he] at hnx
            simp only [Bool.false_eq_true, if_false, if_true] at hnx
            have hown2 : w7.ownsRow w2.heap.size 9 1 v' (k + 1) (((valuesM n T hits).take (k + 1)).map Value.string) := by rw [hnx, List.map_take]; exact hown'
            have HO7 := Sp.hid hown2
            have HB7 := Sp.hid hb7
            clear hown' hgrow hb7 hown2 hnx
            go_wp2
            go_roundw
            case rel => first | exact ⟨k + 1, by omega, by go_num, HO7.out, HB7.out⟩ | ((repeat apply Exists.intro); refine ⟨⟨k + 1, by omega, by go_num, HO7.out, HB7.out⟩, ?_⟩; rw [show ((k + 1 : Nat) : Int) = (k : Int) + 1 from rfl])
            case measure => simp [intOf]; omega
        · go_wp2_with fail
          rw [← HW5.out]
          refine (HTXT.out he).mono ?_
          rintro e w6 ⟨rfl, hb6⟩
          have HB6 := Sp.hid (HB25.out.trans (hb6.mono HB25.out.size) : Below w2.heap.size w2 w6)
          have HO6 : Hid (w6.ownsRow w2.heap.size 9 1 u8 k (((valuesM n T hits).take k).map Value.string)) := Sp.hid (own_same HO.out (fun j hj => (HBR5.out.trans (hb6.mono HBR5.out.size)).block j (HO.out.lt j hj).2))
          have hs26 := HB6.out.size
          clear hb6
          go_wp2_with (at_builtin; refine wpList_append_own_at _ rfl _ _ 39 rfl w2.heap.size 9 i0 _ 1 16 Tryz.underlying39 hi0 hz0 hz1 hz2 rfl (by decide) _ _ _ rfl (HO6.out.alloc _) ⟨w6.heap.size, 0, none⟩ 1 1 [.string ⟨(textsM n T').toArray⟩] rfl rfl ?c1 ?c2 ?c3 ?c4 ?c5 ?c6)
          case c1 => exact cell_one_new _ _ _
          case c2 => intro u hu; simp at hu; subst hu; rfl
          case c3 => unfold maxLen; omega
          case c4 => omega
          case c5 => simp; omega
          case c6 =>
            intro v' w7 hown' hgrow _ _
            have hb7 : Below w2.heap.size w2 w7 := (HB6.out.alloc HB6.out.size _).grown hgrow (by simp; omega) (fun j hj => (HO6.out.lt j hj).1)
            have hnx := HNX.out
            unfold valOf at hnx
            rw [he] at hnx
            simp only [Bool.false_eq_true, if_false, if_true] at hnx
            have hown2 : w7.ownsRow w2.heap.size 9 1 v' (k + 1) (((valuesM n T hits).take (k + 1)).map Value.string) := by rw [hnx, List.map_take]; exact hown'
            have HO7 := Sp.hid hown2
            have HB7 := Sp.hid hb7
            clear hown' hgrow hb7 hown2 hnx
            go_wp2
            go_roundw
            case rel => first | exact ⟨k + 1, by omega, by go_num, HO7.out, HB7.out⟩ | ((repeat apply Exists.intro); refine ⟨⟨k + 1, by omega, by go_num, HO7.out, HB7.out⟩, ?_⟩; rw [show ((k + 1 : Nat) : Int) = (k : Int) + 1 from rfl])
            case measure => simp [intOf]; omega
      · obtain rfl : k = hits.length := by omega
        have hvl : (valuesM n T hits).length = hits.length := by unfold valuesM; rw [List.length_map]
        rw [show ((valuesM n T hits).take hits.length) = valuesM n T hits by rw [← hvl, List.take_length]] at hown
        have HO := Sp.hid hown
        have HB := Sp.hid hb
        clear hown hb
        go_wp2
        refine bodyPost_ret (v := .tuple #[u8, .int .i64 0]) (by simp [results, Tryz.f10, go_sem]) rfl ⟨HB2.out.trans (HB.out.mono (by omega)), .inr (.inr ⟨HC0.out, HC1.out, _, rfl, by rw [← HH.out]; exact Joins.ownsRow_le HO.out (by omega)⟩)⟩

end Go.Proofs.YtoknglpfchjbjaaGreatDoor
