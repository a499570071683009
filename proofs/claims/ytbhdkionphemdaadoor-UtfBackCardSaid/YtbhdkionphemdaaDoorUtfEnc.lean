/- utf.Encode: characters as bytes. Conditions: at most 1000 numbers. -/
import Derived.Test.YtbhdkionphemdaaDoorUtfChk
import Derived.Maps.Own
namespace Go.Proofs.YtbhdkionphemdaaDoor
open Go.RowKit Go.Sp Go.Maps

theorem infoU8 : (Tryd.prog.info? 5).map (fun i => (i.zero, i.size, i.bytes)) = some (some (.int .u8 0), 1, 1) := by kernel_rfl

theorem cells_new (w : World) (l : List Value) (t : TypeId) : ∀ j u, l[j]? = some u → (w.alloc (.cells l.toArray t)).cell? ((⟨w.heap.size, 0, none⟩ : Addr).add j) = some u := by
  intro j u hj
  unfold Addr.add
  split
  · simp_all
  · simp [hj]

theorem ownsRow_below1 {w w' : World} {base : Nat} {e : TypeId} {size : Nat} {v : Value} {n : Nat} {xs : List Value} (h : w.ownsRow base e size v n xs) (hb : Below w.heap.size w w') : w'.ownsRow base e size v n xs := by
  refine ⟨h.1, ?_⟩
  rcases h.2 with hn | ⟨g, cap, cur, hv, hba, hg, rest⟩
  · exact .inl hn
  · exact .inr ⟨g, cap, cur, hv, hba, by rw [hb.block g (Array.getElem?_eq_some_iff.1 hg).1]; exact hg, rest⟩

theorem own_nil {w : World} {base : Nat} {e : TypeId} {size : Nat} {a : Option Addr} {n cap : Nat} {m : Nat} {xs : List Value} (h : w.ownsRow base e size (.slice a n cap) m xs) : a = none → cap = 0 := by
  rintro rfl
  rcases h.2 with ⟨hv, _⟩ | ⟨g, c, cur, hv, _⟩
  · cases hv; rfl
  · cases hv

theorem enc_next {ls : List Int} {k : Nat} (hk : k < ls.length) : (ls.take (k + 1)).flatMap encM = (ls.take k).flatMap encM ++ encM ls[k] := by
  rw [List.take_succ_eq_append_getElem hk, List.flatMap_append]; simp

theorem enc_len_le (ls : List Int) : (ls.flatMap encM).length ≤ 4 * ls.length := by
  induction ls with
  | nil => simp
  | cons r ls ih =>
    rw [List.flatMap_cons, List.length_append, List.length_cons, encM_length]
    have : sizeOf_ r ≤ 4 := by unfold sizeOf_; split; decide; split; decide; split <;> decide
    omega

theorem enc_bounds {r : Int} (h : isChar r = true) : ∀ x ∈ encM r, 0 ≤ x ∧ x ≤ 255 := by
  obtain ⟨h0, h1⟩ := isChar_bounds h
  unfold encM
  intro x hx
  by_cases c1 : r < 128
  · rw [if_pos c1] at hx; simp at hx; omega
  rw [if_neg c1] at hx
  by_cases c2 : r < 2048
  · rw [if_pos c2] at hx; simp at hx; omega
  rw [if_neg c2] at hx
  by_cases c3 : r < 65536
  · rw [if_pos c3] at hx; simp at hx; omega
  · rw [if_neg c3] at hx; simp at hx; omega

set_option maxHeartbeats 2000000 in
theorem encode_any (F : Nat → Prop) (a : Option Addr) (cap : Nat) (ls : List Int) (w : World) (hls : Sl (Shape.int .i32) F w a ls) (hF : ∀ k, F k → k < w.heap.size) (hlen : ls.length ≤ 1000) (hsp : SpansAt w) :
    Calls Tryd.prog 8 #[.slice a ls.length cap] w fun e w' => Below w.heap.size w w' ∧
      ((ls.all isChar = true ∧ ∃ a' cap', e = .returned (.tuple #[.slice a' (ls.flatMap encM).length cap', .int .i64 0]) ∧ (ls.flatMap encM).length ≤ cap' ∧ Sl (Shape.int .u8) (fun b => w.heap.size ≤ b ∧ b < w'.heap.size) w' a' (ls.flatMap encM) ∧ (a' = none → cap' = 0))
      ∨ (ls.all isChar = false ∧ e = .returned (.tuple #[.slice none 0 0, .int .i64 10]))) := by
  obtain ⟨i0, hi0, hz0, hz1, hz2⟩ := info_parts infoU8
  have HLS := Sp.hid hls
  have HF := Sp.hid hF
  have HSP := Sp.hid hsp
  clear hls hF hsp
  obtain ⟨m, hm⟩ : ∃ m, m = ls.length := ⟨_, rfl⟩
  have HM := Sp.hid hm
  rw [← hm] at hlen ⊢
  clear hm
  go_enter Tryd.func8, Tryd.ntmps8
  go_wp2
  go_loopw [4, 9] (fun v i wr => ∃ k : Nat, k ≤ m ∧ i = .int .i64 k ∧ (ls.take k).all isChar = true ∧ wr.ownsRow w.heap.size 5 1 v ((ls.take k).flatMap encM).length (((ls.take k).flatMap encM).map (Value.int .u8)) ∧ Below w.heap.size w wr) (fun _ i _ => m - (intOf i).toNat)
  case atStart => exact ⟨0, by omega, rfl, rfl, World.ownsRow_nil _ _ _ _, Below.refl _ _⟩
  case round =>
    obtain ⟨k, hk, rfl, hall, hown, hb⟩ := hrel
    by_cases hlt : k < m
    · have hkl : k < ls.length := by rw [← HM.out]; exact hlt
      obtain ⟨b, o, rfl, hfb, e0⟩ := (HLS.out.below HF.out hb).int_cell k hkl
      have hne := enc_next hkl
      obtain ⟨r, hr⟩ : ∃ r, r = ls[k] := ⟨_, rfl⟩
      have hal : (ls.take (k + 1)).all isChar = isChar r := by rw [List.take_succ_eq_append_getElem hkl, List.all_append, hall, hr]; simp
      have hbad : isChar r = false → ls.all isChar = false := fun h => by
        rw [← Bool.not_eq_true, List.all_eq_true]
        intro hx
        have := hx r (by rw [hr]; exact List.getElem_mem _)
        rw [h] at this; cases this
      rw [← hr] at hne
      rw [← hr] at e0
      have hle := enc_len_le (ls.take k)
      have htk : (ls.take k).length ≤ 1000 := by rw [List.length_take]; omega
      obtain ⟨out, hout⟩ : ∃ out, out = (ls.take k).flatMap encM := ⟨_, rfl⟩
      rw [← hout] at hown hne hle
      obtain ⟨v0, rfl⟩ : ∃ v0 : Value, v0 = u4 := ⟨_, rfl⟩
      have e0' : wr.cell? ⟨b, o + k, none⟩ = some (.int .i32 r) := by simpa using e0
      have hbl : b < wr.heap.size := World.block_lt_of_cell? wr _ e0'
      have hsw := hb.size
      have HNE := Sp.hid hne
      have HAL := Sp.hid hal
      have HBAD := Sp.hid hbad
      have HO := Sp.hid hown
      have HB := Sp.hid hb
      have HIS := Sp.hid (is_any r wr (HSP.out.below hb (Nat.le_refl _)))
      have hout4 : out.length ≤ 4000 := by omega
      clear hne hal hbad hown hb hr hout hle htk hall e0
      cases hic : isChar r
      · rw [hic] at HAL HBAD HIS
        have HBD := Sp.hid (HBAD.out rfl)
        clear hic HBAD
        go_wp2_with fail
        refine HIS.out.mono ?_
        rintro e w1 ⟨rfl, hb1⟩
        have HB1 := Sp.hid hb1
        clear hb1
        go_wp2
        go_ret2
        exact ⟨HB.out.trans (HB1.out.mono hsw), .inr ⟨HBD.out, rfl⟩⟩
      · obtain ⟨r0, r1⟩ := isChar_bounds hic
        rw [hic] at HAL HIS
        clear hic HBAD
        go_wp2_with fail
        refine HIS.out.mono ?_
        rintro e w1 ⟨rfl, hb1⟩
        have hs1 := hb1.size
        have ho1 := ownsRow_below1 HO.out hb1
        have HO1 := Sp.hid ho1
        have HB1 := Sp.hid (HB.out.trans (hb1.mono hsw))
        clear hb1 ho1 HO HB HIS
        have HSZ := Sp.hid (size_any r w1)
        by_cases c1 : r < 128
        · have hsz : sizeOf_ r = 1 := by unfold sizeOf_; rw [if_pos c1]
          have he : encM r = [r] := by unfold encM; rw [if_pos c1]
          rw [hsz] at HSZ
          rw [he] at HNE
          clear hsz he
          go_wp2_with fail
          refine HSZ.out.mono ?_
          rintro e w2 ⟨rfl, rfl⟩
          go_wp2_with (at_builtin; refine wpList_append_own _ rfl _ _ 24 rfl w.heap.size 5 i0 (.int .u8 0) 1 1 Tryd.underlying24 hi0 hz0 hz1 hz2 rfl (by decide) _ _ _ rfl (HO1.out.alloc _) ⟨w1.heap.size, 0, none⟩ 1 1 [.int .u8 r] rfl rfl (cells_new _ [.int .u8 r] _) ?a1 ?a2 ?a3 ?a4 ?a5)
          case a1 => intro u hu; simp only [List.mem_cons, List.not_mem_nil, or_false] at hu; rcases hu with rfl <;> rfl
          case a2 => unfold maxLen; omega
          case a3 => omega
          case a4 => have := HB1.out.size; simp; omega
          case a5 =>
          intro v' w3 hown' hgrow _
          have hb3 : Below w.heap.size w w3 := (HB1.out.alloc HB1.out.size _).grown hgrow (by have := HB1.out.size; simp; omega) (fun j hj => (HO1.out.lt j hj).1)
          have ho3 : w3.ownsRow w.heap.size 5 1 v' ((ls.take (k + 1)).flatMap encM).length (((ls.take (k + 1)).flatMap encM).map (Value.int .u8)) := by
            rw [HNE.out, List.length_append, List.map_append]; exact hown'
          have HO3 := Sp.hid ho3
          have HB3 := Sp.hid hb3
          clear hown' hgrow hb3 ho3
          go_wp2
          go_roundw
          case rel => exact ⟨k + 1, by omega, by go_num, HAL.out, HO3.out, HB3.out⟩
          case measure => simp [intOf]; omega
        by_cases c2 : r < 2048
        · have hsz : sizeOf_ r = 2 := by unfold sizeOf_; rw [if_neg c1, if_pos c2]
          have he : encM r = [192 + r / 64, 128 + r % 64] := by unfold encM; rw [if_neg c1, if_pos c2]
          rw [hsz] at HSZ
          rw [he] at HNE
          clear hsz he
          go_wp2_with fail
          refine HSZ.out.mono ?_
          rintro e w2 ⟨rfl, rfl⟩
          go_wp2_with fail
          refine (rest_any _ _ (by omega) (by omega)).mono ?_
          rintro e w2 ⟨rfl, rfl⟩
          go_wp2_with (at_builtin; refine wpList_append_own _ rfl _ _ 24 rfl w.heap.size 5 i0 (.int .u8 0) 1 1 Tryd.underlying24 hi0 hz0 hz1 hz2 rfl (by decide) _ _ _ rfl (HO1.out.alloc _) ⟨w1.heap.size, 0, none⟩ 2 2 [.int .u8 (192 + r / 64), .int .u8 (128 + r % 64)] rfl rfl (cells_new _ [.int .u8 (192 + r / 64), .int .u8 (128 + r % 64)] _) ?b1 ?b2 ?b3 ?b4 ?b5)
          case b1 => intro u hu; simp only [List.mem_cons, List.not_mem_nil, or_false] at hu; rcases hu with rfl | rfl <;> rfl
          case b2 => unfold maxLen; omega
          case b3 => omega
          case b4 => have := HB1.out.size; simp; omega
          case b5 =>
          intro v' w3 hown' hgrow _
          have hb3 : Below w.heap.size w w3 := (HB1.out.alloc HB1.out.size _).grown hgrow (by have := HB1.out.size; simp; omega) (fun j hj => (HO1.out.lt j hj).1)
          have ho3 : w3.ownsRow w.heap.size 5 1 v' ((ls.take (k + 1)).flatMap encM).length (((ls.take (k + 1)).flatMap encM).map (Value.int .u8)) := by
            rw [HNE.out, List.length_append, List.map_append]; exact hown'
          have HO3 := Sp.hid ho3
          have HB3 := Sp.hid hb3
          clear hown' hgrow hb3 ho3
          go_wp2
          go_roundw
          case rel => exact ⟨k + 1, by omega, by go_num, HAL.out, HO3.out, HB3.out⟩
          case measure => simp [intOf]; omega
        by_cases c3 : r < 65536
        · skip
          have hsz : sizeOf_ r = 3 := by unfold sizeOf_; rw [if_neg c1, if_neg c2, if_pos c3]
          have he : encM r = [224 + r / 4096, 128 + r / 64 % 64, 128 + r % 64] := by unfold encM; rw [if_neg c1, if_neg c2, if_pos c3]
          rw [hsz] at HSZ
          rw [he] at HNE
          clear hsz he
          go_wp2_with fail
          refine HSZ.out.mono ?_
          rintro e w2 ⟨rfl, rfl⟩
          go_wp2_with fail
          refine (rest_any _ _ (by omega) (by omega)).mono ?_
          rintro e w2 ⟨rfl, rfl⟩
          go_wp2_with fail
          refine (rest_any _ _ (by omega) (by omega)).mono ?_
          rintro e w2 ⟨rfl, rfl⟩
          go_wp2_with (at_builtin; refine wpList_append_own _ rfl _ _ 24 rfl w.heap.size 5 i0 (.int .u8 0) 1 1 Tryd.underlying24 hi0 hz0 hz1 hz2 rfl (by decide) _ _ _ rfl (HO1.out.alloc _) ⟨w1.heap.size, 0, none⟩ 3 3 [.int .u8 (224 + r / 4096), .int .u8 (128 + r / 64 % 64), .int .u8 (128 + r % 64)] rfl rfl (cells_new _ [.int .u8 (224 + r / 4096), .int .u8 (128 + r / 64 % 64), .int .u8 (128 + r % 64)] _) ?c1 ?c2 ?c3 ?c4 ?c5)
          case c1 => intro u hu; simp only [List.mem_cons, List.not_mem_nil, or_false] at hu; rcases hu with rfl | rfl | rfl <;> rfl
          case c2 => unfold maxLen; omega
          case c3 => omega
          case c4 => have := HB1.out.size; simp; omega
          case c5 =>
          intro v' w3 hown' hgrow _
          have hb3 : Below w.heap.size w w3 := (HB1.out.alloc HB1.out.size _).grown hgrow (by have := HB1.out.size; simp; omega) (fun j hj => (HO1.out.lt j hj).1)
          have ho3 : w3.ownsRow w.heap.size 5 1 v' ((ls.take (k + 1)).flatMap encM).length (((ls.take (k + 1)).flatMap encM).map (Value.int .u8)) := by
            rw [HNE.out, List.length_append, List.map_append]; exact hown'
          have HO3 := Sp.hid ho3
          have HB3 := Sp.hid hb3
          clear hown' hgrow hb3 ho3
          go_wp2
          go_roundw
          case rel => exact ⟨k + 1, by omega, by go_num, HAL.out, HO3.out, HB3.out⟩
          case measure => simp [intOf]; omega
        · skip
          have hsz : sizeOf_ r = 4 := by unfold sizeOf_; rw [if_neg c1, if_neg c2, if_neg c3]
          have he : encM r = [240 + r / 262144, 128 + r / 4096 % 64, 128 + r / 64 % 64, 128 + r % 64] := by unfold encM; rw [if_neg c1, if_neg c2, if_neg c3]
          rw [hsz] at HSZ
          rw [he] at HNE
          clear hsz he
          go_wp2_with fail
          refine HSZ.out.mono ?_
          rintro e w2 ⟨rfl, rfl⟩
          go_wp2_with fail
          refine (rest_any _ _ (by omega) (by omega)).mono ?_
          rintro e w2 ⟨rfl, rfl⟩
          go_wp2_with fail
          refine (rest_any _ _ (by omega) (by omega)).mono ?_
          rintro e w2 ⟨rfl, rfl⟩
          go_wp2_with fail
          refine (rest_any _ _ (by omega) (by omega)).mono ?_
          rintro e w2 ⟨rfl, rfl⟩
          go_wp2_with (at_builtin; refine wpList_append_own _ rfl _ _ 24 rfl w.heap.size 5 i0 (.int .u8 0) 1 1 Tryd.underlying24 hi0 hz0 hz1 hz2 rfl (by decide) _ _ _ rfl (HO1.out.alloc _) ⟨w1.heap.size, 0, none⟩ 4 4 [.int .u8 (240 + r / 262144), .int .u8 (128 + r / 4096 % 64), .int .u8 (128 + r / 64 % 64), .int .u8 (128 + r % 64)] rfl rfl (cells_new _ [.int .u8 (240 + r / 262144), .int .u8 (128 + r / 4096 % 64), .int .u8 (128 + r / 64 % 64), .int .u8 (128 + r % 64)] _) ?d1 ?d2 ?d3 ?d4 ?d5)
          case d1 => intro u hu; simp only [List.mem_cons, List.not_mem_nil, or_false] at hu; rcases hu with rfl | rfl | rfl | rfl <;> rfl
          case d2 => unfold maxLen; omega
          case d3 => omega
          case d4 => have := HB1.out.size; simp; omega
          case d5 =>
          intro v' w3 hown' hgrow _
          have hb3 : Below w.heap.size w w3 := (HB1.out.alloc HB1.out.size _).grown hgrow (by have := HB1.out.size; simp; omega) (fun j hj => (HO1.out.lt j hj).1)
          have ho3 : w3.ownsRow w.heap.size 5 1 v' ((ls.take (k + 1)).flatMap encM).length (((ls.take (k + 1)).flatMap encM).map (Value.int .u8)) := by
            rw [HNE.out, List.length_append, List.map_append]; exact hown'
          have HO3 := Sp.hid ho3
          have HB3 := Sp.hid hb3
          clear hown' hgrow hb3 ho3
          go_wp2
          go_roundw
          case rel => exact ⟨k + 1, by omega, by go_num, HAL.out, HO3.out, HB3.out⟩
          case measure => simp [intOf]; omega
    · obtain rfl : k = m := by omega
      have htk : ls.take k = ls := by rw [HM.out, List.take_length]
      rw [htk] at hall hown
      obtain ⟨a', cap', rfl, z1, z2, z3, z4, hsl⟩ := own_ints hown
      have HNIL := Sp.hid (own_nil hown)
      have HSL := Sp.hid hsl
      have HB := Sp.hid hb
      clear z1 z3 z4 hsl hb htk hown
      go_wp2
      go_ret2
      exact ⟨HB.out, .inl ⟨hall, a', cap', rfl, z2, HSL.out, HNIL.out⟩⟩

end Go.Proofs.YtbhdkionphemdaaDoor
