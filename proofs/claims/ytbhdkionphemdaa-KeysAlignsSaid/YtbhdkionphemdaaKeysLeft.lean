/- keys.Left: the places of the source that nothing takes. Conditions: at most 1000 entries each. -/
import Derived.Test.YtbhdkionphemdaaKeysInts
namespace Go.Proofs.Ytbhdkionphemdaa
open Go.RowKit Go.Sp Go.Maps

/-- Which places are taken. -/
def marks (took : List (Option Nat)) (m : Nat) : List Value := (List.range m).map fun p => Value.bool (took.contains (some p))
theorem marks_length (took : List (Option Nat)) (m : Nat) : (marks took m).length = m := by simp [marks]
theorem marks_get (took : List (Option Nat)) (m p : Nat) (h : p < m) : (marks took m)[p]? = some (.bool (took.contains (some p))) := by simp [marks, h]
theorem marks_none (took : List (Option Nat)) (m : Nat) : marks (took ++ [none]) m = marks took m := by
  unfold marks
  refine List.map_congr_left fun p _ => ?_
  simp
theorem marks_some (took : List (Option Nat)) (m p : Nat) (h : p < m) : marks (took ++ [some p]) m = (marks took m).set p (.bool true) := by
  apply List.ext_getElem?
  intro i
  by_cases hi : i < m
  · rw [marks_get _ _ _ hi, List.getElem?_set]
    by_cases hp : p = i
    · subst hp
      rw [if_pos rfl, if_pos (by rw [marks_length]; exact h)]
      simp
    · rw [if_neg hp, marks_get _ _ _ hi]
      have : ¬ i = p := fun e => hp e.symm
      simp [this]
  · rw [List.getElem?_eq_none (by rw [marks_length]; omega), List.getElem?_eq_none (by simp [marks_length]; omega)]

/-- The places that are left, up to one. -/
def leftTo (took : List (Option Nat)) (k : Nat) : List Nat := (List.range k).filter fun p => !took.contains (some p)
theorem leftTo_succ (took : List (Option Nat)) (k : Nat) : leftTo took (k + 1) = leftTo took k ++ (if took.contains (some k) then [] else [k]) := by
  unfold leftTo
  rw [List.range_succ, List.filter_append]
  congr 1
  cases h : took.contains (some k)
  · rw [List.filter_cons, h]; rfl
  · rw [List.filter_cons, h]; rfl

theorem infoBool : (Try.prog.info? 4).map (fun i => (i.zero, i.size, i.bytes)) = some (some (.bool false), 1, 1) := by kernel_rfl

theorem made_false (m : Nat) : (madeCells #[Value.bool false] m).toList = marks [] m := by
  unfold madeCells marks
  simp only [Array.toList_map, Array.toList_range]
  refine List.map_congr_left fun p _ => ?_
  simp [Nat.mod_one]

set_option maxHeartbeats 2000000 in
theorem Left_any (va sa : Option Addr) (vc sc : Nat) (view source : List Ent) (w : World) (hv : Sl entS (· < w.heap.size) w va view) (hs : Sl entS (· < w.heap.size) w sa source) (hvl : view.length ≤ 1000) (hsl : source.length ≤ 1000) :
    Calls Try.prog 16 #[.slice va view.length vc, .slice sa source.length sc] w fun e w' => ∃ a cap, e = .returned (.slice a (leftTo (alignM (source.map Ent.lk) (List.range source.length) (view.map Ent.lk)) source.length).length cap) ∧
      Sl (Shape.int .i64) (fun b => w.heap.size ≤ b ∧ b < w'.heap.size) w' a ((leftTo (alignM (source.map Ent.lk) (List.range source.length) (view.map Ent.lk)) source.length).map Int.ofNat) ∧ Below w.heap.size w w' := by
  have HA := Sp.hid (align_any va sa vc sc view source w hv hs hvl hsl)
  obtain ⟨took, htk⟩ : ∃ took, took = alignM (source.map Ent.lk) (List.range source.length) (view.map Ent.lk) := ⟨_, rfl⟩
  rw [← htk] at HA ⊢
  have htl : took.length = view.length := by rw [htk, alignM_length]; simp
  have hlt : ∀ p, some p ∈ took → p < source.length := fun p hp => by
    have := alignM_lt (htk ▸ hp)
    simpa using this
  have HLT := Sp.hid hlt
  have HTL := Sp.hid htl
  obtain ⟨i0, hi0, hz0, hz1, hz2⟩ := info_parts infoBool
  obtain ⟨j0, hj0, hy0, hy1, hy2⟩ := info_parts infoInt
  clear hv hs htk htl hlt
  go_enter Try.func16, Try.ntmps16
  go_wp2_with (first
    | (go_at_call 20; refine HA.out.mono ?_; rintro e w1 ⟨xa, xc, rfl, hxc, hxs, hb1⟩; have HX := Sp.hid hxs; have HB1 := Sp.hid hb1; clear hxs hb1)
    | (at_make; refine wpList_make_full _ rfl _ _ 58 rfl w1.heap.size 4 i0 (.bool false) 1 Try.underlying58 hi0 hz0 hz1 .i64 .i64 _ _ source.length rfl rfl rfl rfl ?c1 ?c2 (Nat.le_refl _) ?c3))
  case c1 => rw [hz2]; omega
  case c2 => unfold maxLen; omega
  case c3 =>
    intro w2 hown hg
    rw [made_false] at hown
    have hb2 : Below w1.heap.size w1 w2 := (Below.refl _ _).grown hg (Nat.le_refl _) (fun j hj => by cases hj)
    have HO := Sp.hid hown
    have HB2 := Sp.hid hb2
    clear hown hg hb2
    go_wp2
    go_loopw [22] (fun i wr => ∃ k : Nat, k ≤ view.length ∧ i = .int .i64 k ∧ wr.ownsRow w1.heap.size 4 1 (.slice (some ⟨w1.heap.size, 0, none⟩) source.length source.length) source.length (marks (took.take k) source.length) ∧ Below w1.heap.size w1 wr) (fun i _ => view.length - (intOf i).toNat)
    case atStart => exact ⟨0, by omega, rfl, by simpa using HO.out, HB2.out⟩
    case round =>
      obtain ⟨k, hk, rfl, hown, hb⟩ := hrel
      have HO2 := Sp.hid hown
      have HB := Sp.hid hb
      clear hown hb HO HB2
      by_cases hlt : k < view.length
      · have hlt2 : k < took.length := by rw [HTL.out]; exact hlt
        obtain ⟨b, o, rfl, f1, e1⟩ := HX.out.int_cell k (by simpa using hlt2)
        have c1 : wr.cell? ⟨b, o + k, none⟩ = some (.int .i64 (encO took[k])) := by rw [HB.out.cell (p := ⟨b, _, none⟩) f1.2]; simpa using e1
        have htk := List.take_succ_eq_append_getElem hlt2
        have HTK := Sp.hid htk
        clear e1 htk
        cases hp : took[k] with
        | none =>
          rw [hp] at c1 HTK
          simp only [encO] at c1
          have HP := Sp.hid hp
          clear hp
          go_wp2
          go_roundw
          case rel => exact ⟨k + 1, by omega, by go_num, by rw [HTK.out, marks_none]; exact HO2.out, HB.out⟩
          case measure => simp [intOf]; omega
        | some p =>
          rw [hp] at c1 HTK
          simp only [encO] at c1
          have hpl : p < source.length := HLT.out p (by rw [← hp]; exact List.getElem_mem _)
          have HP := Sp.hid hp
          have cp : wr.cell? ⟨w1.heap.size, p, none⟩ = some (.bool ((took.take k).contains (some p))) := by rw [HO2.out.cellAt p (by omega), marks_get _ _ _ hpl]
          have fp : wr.frozen? ⟨w1.heap.size, p, none⟩ = false := HO2.out.frozenAt p
          clear hp
          go_wp2
          have hst := HO2.out.stored p (.bool true)
          go_roundw
          case rel => exact ⟨k + 1, by omega, by go_num, by rw [HTK.out, marks_some _ _ _ hpl]; exact hst.1, HB.out.setCell (Nat.le_refl _) _⟩
          case measure => simp [intOf]; omega
      · obtain rfl : k = view.length := by omega
        have hm : ∀ p, p < source.length → wr.cell? ⟨w1.heap.size, p, none⟩ = some (.bool (took.contains (some p))) := fun p hp => by
          rw [HO2.out.cellAt p (by omega), marks_get _ _ _ hp, ← HTL.out, List.take_length]
        have HM := Sp.hid hm
        have hblt : w1.heap.size < wr.heap.size := (HO2.out.lt w1.heap.size rfl).2
        obtain ⟨wo, rfl⟩ : ∃ wo : World, wo = wr := ⟨_, rfl⟩
        clear hm HO2
        go_wp2
        go_loopw [10, 33] (fun l i wr => ∃ k : Nat, k ≤ source.length ∧ i = .int .i64 k ∧ wr.ownsRow wo.heap.size 3 1 l (leftTo took k).length (((leftTo took k).map Int.ofNat).map (Value.int .i64)) ∧ Below wo.heap.size wo wr) (fun _ i _ => source.length - (intOf i).toNat)
        case atStart => exact ⟨0, by omega, rfl, World.ownsRow_nil _ _ _ _, Below.refl _ _⟩
        case round =>
          obtain ⟨k, hk, rfl, hown, hb⟩ := hrel
          have HO3 := Sp.hid hown
          have HB3 := Sp.hid hb
          clear hown hb
          by_cases hlk : k < source.length
          · have ck : wr.cell? ⟨w1.heap.size, k, none⟩ = some (.bool (took.contains (some k))) := by rw [HB3.out.cell (p := ⟨w1.heap.size, k, none⟩) hblt]; exact HM.out k hlk
            have hls := leftTo_succ took k
            have hll : (leftTo took k).length ≤ k := by unfold leftTo; exact Nat.le_trans (List.length_filter_le _ _) (by simp)
            cases hc : took.contains (some k)
            · rw [hc] at ck hls
              simp only [Bool.false_eq_true, if_false] at hls
              have HLS := Sp.hid hls
              have HCC := Sp.hid hc
              clear hls hc
              go_wp2_with (at_builtin; refine wpList_append_own _ rfl _ _ 28 rfl wo.heap.size 3 j0 (.int .i64 0) 1 8 Try.underlying28 hj0 hy0 hy1 hy2 rfl (by decide) _ _ _ rfl (HO3.out.alloc _) ⟨wr.heap.size, 0, none⟩ 1 1 [.int .i64 (k : Nat)] rfl rfl ?d1 ?d2 ?d3 ?d4 ?d5 ?d6)
              case d1 => exact cell_one_new _ _ _
              case d2 => intro u hu; simp at hu; subst hu; rfl
              case d3 => unfold maxLen; omega
              case d4 => omega
              case d5 => have := HB3.out.size; simp; omega
              case d6 =>
                intro v' w4 hown' hgrow _
                have hb4 : Below wo.heap.size wo w4 := (HB3.out.alloc HB3.out.size _).grown hgrow (by have := HB3.out.size; simp; omega) (fun j hj => (HO3.out.lt j hj).1)
                have ho4 : w4.ownsRow wo.heap.size 3 1 v' (leftTo took (k + 1)).length (((leftTo took (k + 1)).map Int.ofNat).map (Value.int .i64)) := by rw [HLS.out]; simpa using hown'
                have HO4 := Sp.hid ho4
                have HB4 := Sp.hid hb4
                clear hown' hgrow hb4 ho4
                go_wp2
                go_roundw
                case rel => exact ⟨k + 1, by omega, by go_num, HO4.out, HB4.out⟩
                case measure => simp [intOf]; omega
            · rw [hc] at ck hls
              simp only [if_true, List.append_nil] at hls
              have HLS := Sp.hid hls
              have HCC := Sp.hid hc
              clear hls hc
              go_wp2
              go_roundw
              case rel => exact ⟨k + 1, by omega, by go_num, by rw [HLS.out]; exact HO3.out, HB3.out⟩
              case measure => simp [intOf]; omega
          · obtain rfl : k = source.length := by omega
            obtain ⟨a, cap, rfl, _, _, _, _, hsl2⟩ := own_ints HO3.out
            have hfin : Below w.heap.size w wr := (HB1.out.trans (HB.out.mono HB1.out.size)).trans (HB3.out.mono (by have := HB1.out.size; have := HB.out.size; omega))
            have HS2 := Sp.hid hsl2
            have HFIN := Sp.hid hfin
            clear hsl2 hfin
            go_wp2
            go_ret
            exact ⟨a, cap, rfl, HS2.out.mono fun j hj => ⟨by have := HB1.out.size; have := HB.out.size; omega, hj.2⟩, HFIN.out⟩

end Go.Proofs.Ytbhdkionphemdaa
