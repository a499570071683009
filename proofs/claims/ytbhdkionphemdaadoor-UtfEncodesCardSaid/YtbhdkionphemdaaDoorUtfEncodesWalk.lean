/- UtfEncodes returns true: its walk. Conditions: the argument reads as numbers; the table of spans as laid. -/
import Derived.Test.YtbhdkionphemdaaDoorUtfOpen
namespace Go.Proofs.YtbhdkionphemdaaDoor
open Go.RowKit Go.Sp Go.Maps

set_option maxRecDepth 100000 in
set_option maxHeartbeats 4000000 in
theorem encodes_walk (a0 : Option Addr) (c0 : Nat) (ls : List Int) (w : World) (h0 : Sl (Shape.int .i32) (· < w.heap.size) w a0 ls)
    (b0 : ∀ x ∈ ls, -2147483648 ≤ x ∧ x ≤ 2147483647) (k0 : ls.length ≤ c0) (n0 : a0 = none → c0 = 0)
    (hl0 : ls.length ≤ 9223372036854775807) (hsp : SpansAt w) :
    Calls Tryd.prog 3 #[.slice a0 ls.length c0] w (IsBool true w) := by
  have H0 := Sp.hid h0
  have HSP := Sp.hid hsp
  have B0 := Sp.hid b0
  clear h0 b0 n0 hsp
  by_cases hn4 : (100 : Int) < ls.length
  · go_enter Tryd.func3, Tryd.ntmps3
    go_wp2_with (go_at_call 7; refine (awake_any _ HSP.out).mono ?_; rintro e w2 ⟨rfl, hb2⟩; have HB2 := Sp.hid hb2; clear hb2)
    go_ret
    exact ⟨rfl, HB2.out⟩
  have HE := Sp.hid (encode_any _ a0 c0 ls w H0.out (fun k hk => hk) (by omega) HSP.out)
  go_enter Tryd.func3, Tryd.ntmps3
  go_wp2_with fail
  refine HE.out.mono ?_
  rintro e w1 ⟨hb1, h⟩
  have hs1 := hb1.size
  obtain ⟨m, hm⟩ : ∃ m, m = ls.length := ⟨_, rfl⟩
  have HM := Sp.hid hm
  rw [← hm] at hn4 k0 hl0 ⊢
  clear hm
  rcases h with ⟨hall, a', c', rfl, hc, hsl⟩ | ⟨hall, rfl⟩
  · obtain ⟨L, hL⟩ : ∃ L, L = (ls.flatMap encM).length := ⟨_, rfl⟩
    have hL4 : L ≤ 400 := by have := enc_len_le ls; rw [hL]; have := HM.out; omega
    have hcL : L ≤ c' := by rw [hL]; exact hc
    have HL := Sp.hid hL
    rw [← hL]
    have HSL := Sp.hid hsl
    have HALL := Sp.hid hall
    have HB1 := Sp.hid hb1
    clear hL hc hsl hall hb1 HE
    go_wp2
    go_loopw [5, 6] (fun v i wr => ∃ k : Nat, k ≤ m ∧ i = .int .i64 k ∧ wr.ownsRow w1.heap.size 5 1 v ((ls.take k).flatMap encM).length (((ls.take k).flatMap encM).map (Value.int .u8)) ∧ Below w1.heap.size w1 wr) (fun _ i _ => m - (intOf i).toNat)
    case atStart => exact ⟨0, by omega, rfl, World.ownsRow_nil _ _ _ _, Below.refl _ _⟩
    case round =>
      obtain ⟨k, hk, rfl, hown, hb⟩ := hrel
      have hsw := hb.size
      by_cases hlt : k < m
      · have hkl : k < ls.length := by rw [← HM.out]; exact hlt
        obtain ⟨b, o, rfl, hfb, e0⟩ := ((H0.out.below (fun _ h => h) HB1.out).below (fun _ h => by omega) hb).int_cell k hkl
        have hne := enc_next hkl
        have hcr : isChar ls[k] = true := List.all_eq_true.1 HALL.out _ (List.getElem_mem hkl)
        obtain ⟨r, hr⟩ : ∃ r, r = ls[k] := ⟨_, rfl⟩
        rw [← hr] at hne hcr e0
        obtain ⟨r0, r1⟩ := isChar_bounds hcr
        have hle := enc_len_le (ls.take k)
        have htk : (ls.take k).length ≤ 100 := by rw [List.length_take]; omega
        have hle2 := encM_length r
        have hle3 : sizeOf_ r ≤ 4 := by unfold sizeOf_; split; decide; split; decide; split <;> decide
        have hel : (encM r).length ≤ 4 := by omega
        obtain ⟨out, hout⟩ : ∃ out, out = (ls.take k).flatMap encM := ⟨_, rfl⟩
        rw [← hout] at hown hne hle
        have hol : out.length ≤ 400 := by omega
        have e0' : wr.cell? ⟨b, o + k, none⟩ = some (.int .i32 r) := by simpa using e0
        obtain ⟨v0, rfl⟩ : ∃ v0 : Value, v0 = u5 := ⟨_, rfl⟩
        have HI := Sp.hid (refIs_any r wr)
        rw [hcr] at HI
        have HR := Sp.hid (refBytes_any r wr r0 r1)
        have HNE := Sp.hid hne
        have HO := Sp.hid hown
        have HB := Sp.hid hb
        clear hr hout hne hown hb hcr hle htk hle2 hle3 e0
        go_wp2_with fail
        refine HI.out.mono ?_
        rintro e w2 ⟨rfl, rfl⟩
        go_wp2_with fail
        refine HR.out.mono ?_
        rintro e w3 ⟨cc, rfl, hcc, hsl3, hb3⟩
        have hs3 := hb3.size
        have HO3 := Sp.hid (ownsRow_below1 HO.out hb3)
        have HB3 := Sp.hid (HB.out.trans (hb3.mono hsw))
        have HS3 := Sp.hid hsl3
        clear hsl3 hb3 HO HB HR HI
        go_wp2_with (at_builtin; refine wpList_append_bytes rfl _ _ rfl w1.heap.size v0 out.length out rfl HO3.out _ _ cc (encM r) rfl (fun h => by cases h) HS3.out (by omega) (by omega) ?_)
        intro v' w4 ho4 hg4 hs4
        have hb4 : Below w1.heap.size w1 w4 := HB3.out.grown hg4 (by omega) (fun j hj => (HO3.out.lt j hj).1)
        have ho4' : w4.ownsRow w1.heap.size 5 1 v' ((ls.take (k + 1)).flatMap encM).length (((ls.take (k + 1)).flatMap encM).map (Value.int .u8)) := by
          rw [HNE.out, List.length_append]; simpa using ho4
        have HO4 := Sp.hid ho4'
        have HB4 := Sp.hid hb4
        clear ho4 ho4' hg4 hb4
        go_wp2
        go_roundw
        case rel => exact ⟨k + 1, by omega, by go_num, HO4.out, HB4.out⟩
        case measure => simp [intOf]; omega
      · obtain rfl : k = m := by omega
        have htk : ls.take k = ls := by rw [HM.out, List.take_length]
        rw [htk, ← HL.out] at hown
        obtain ⟨ya, yc, rfl, z1, z2, z3, z4, hsy⟩ := own_ints hown
        clear z1 z2 z3 z4 htk hown
        have hw := HB1.out.trans (hb.mono hs1)
        have hcl := HSL.out.below (fun k hk => hk.2) hb
        have hby := lawBytes_any _ _ a' ya c' yc (ls.flatMap encM) (ls.flatMap encM) wr hcl hsy (fun k hk => by omega) (fun k hk => hk.2) (by rw [← HL.out]; omega) (by rw [← HL.out]; omega)
        rw [← HL.out, decide_eq_true rfl] at hby
        have HBY := Sp.hid hby
        have HW := Sp.hid hw
        have HSP2 := Sp.hid (HSP.out.below hw (Nat.le_refl _))
        clear hb hw hcl hby hsy
        go_wp2_with fail
        refine HBY.out.mono ?_
        rintro e w3 ⟨rfl, hb3⟩
        have HB3 := Sp.hid (HW.out.trans (hb3.mono HW.out.size))
        have HSP3 := Sp.hid (HSP.out.below HB3.out (Nat.le_refl _))
        clear hb3
        go_wp2_with (go_at_call 7; refine (awake_any _ HSP3.out).mono ?_; rintro e w4 ⟨rfl, hb4⟩; have HB4 := Sp.hid hb4; clear hb4)
        go_ret
        exact ⟨rfl, HB3.out.trans (HB4.out.mono HB3.out.size)⟩
  · have HALL := Sp.hid hall
    have HB1 := Sp.hid hb1
    clear hall hb1 HE
    go_wp2
    go_loopw [5, 6] (fun v i wr => ∃ k : Nat, k ≤ m ∧ i = .int .i64 k ∧ (ls.take k).all isChar = true ∧ wr.ownsRow w1.heap.size 5 1 v ((ls.take k).flatMap encM).length (((ls.take k).flatMap encM).map (Value.int .u8)) ∧ Below w1.heap.size w1 wr) (fun _ i _ => m - (intOf i).toNat)
    case atStart => exact ⟨0, by omega, rfl, rfl, World.ownsRow_nil _ _ _ _, Below.refl _ _⟩
    case round =>
      obtain ⟨k, hk, rfl, hta, hown, hb⟩ := hrel
      have hsw := hb.size
      by_cases hlt : k < m
      · have hkl : k < ls.length := by rw [← HM.out]; exact hlt
        obtain ⟨b, o, rfl, hfb, e0⟩ := ((H0.out.below (fun _ h => h) HB1.out).below (fun _ h => by omega) hb).int_cell k hkl
        have hne := enc_next hkl
        obtain ⟨r, hr⟩ : ∃ r, r = ls[k] := ⟨_, rfl⟩
        have hrb := B0.out r (by rw [hr]; exact List.getElem_mem _)
        have hal : (ls.take (k + 1)).all isChar = isChar r := by rw [List.take_succ_eq_append_getElem hkl, List.all_append, hta, hr]; simp
        rw [← hr] at hne e0
        have hle := enc_len_le (ls.take k)
        have htk : (ls.take k).length ≤ 100 := by rw [List.length_take]; omega
        have hle2 := encM_length r
        have hle3 : sizeOf_ r ≤ 4 := by unfold sizeOf_; split; decide; split; decide; split <;> decide
        have hel : (encM r).length ≤ 4 := by omega
        obtain ⟨out, hout⟩ : ∃ out, out = (ls.take k).flatMap encM := ⟨_, rfl⟩
        rw [← hout] at hown hne hle
        have hol : out.length ≤ 400 := by omega
        have e0' : wr.cell? ⟨b, o + k, none⟩ = some (.int .i32 r) := by simpa using e0
        obtain ⟨v0, rfl⟩ : ∃ v0 : Value, v0 = u5 := ⟨_, rfl⟩
        have HI := Sp.hid (refIs_any r wr)
        have HNE := Sp.hid hne
        have HO := Sp.hid hown
        have HB := Sp.hid hb
        have HAL := Sp.hid hal
        obtain ⟨r0, r1⟩ := hrb
        clear hr hout hne hown hb hle htk hle2 hle3 e0 hta hal
        cases hic : isChar r
        · rw [hic] at HI
          have hw := HB1.out.trans (HB.out.mono hs1)
          have HW := Sp.hid hw
          have HSP3 := Sp.hid (HSP.out.below hw (Nat.le_refl _))
          clear hic hw
          go_wp2_with fail
          refine HI.out.mono ?_
          rintro e w2 ⟨rfl, rfl⟩
          go_wp2_with (go_at_call 7; refine (awake_any _ HSP3.out).mono ?_; rintro e w4 ⟨rfl, hb4⟩; have HB4 := Sp.hid hb4; clear hb4)
          go_ret
          exact ⟨rfl, HW.out.trans (HB4.out.mono HW.out.size)⟩
        · rw [hic] at HI HAL
          obtain ⟨q0, q1⟩ := isChar_bounds hic
          have HR := Sp.hid (refBytes_any r wr q0 q1)
          clear hic
          go_wp2_with fail
          refine HI.out.mono ?_
          rintro e w2 ⟨rfl, rfl⟩
          go_wp2_with fail
          refine HR.out.mono ?_
          rintro e w3 ⟨cc, rfl, hcc, hsl3, hb3⟩
          have hs3 := hb3.size
          have HO3 := Sp.hid (ownsRow_below1 HO.out hb3)
          have HB3 := Sp.hid (HB.out.trans (hb3.mono hsw))
          have HS3 := Sp.hid hsl3
          clear hsl3 hb3 HO HB HR HI
          go_wp2_with (at_builtin; refine wpList_append_bytes rfl _ _ rfl w1.heap.size v0 out.length out rfl HO3.out _ _ cc (encM r) rfl (fun h => by cases h) HS3.out (by omega) (by omega) ?_)
          intro v' w4 ho4 hg4 hs4
          have hb4 : Below w1.heap.size w1 w4 := HB3.out.grown hg4 (by omega) (fun j hj => (HO3.out.lt j hj).1)
          have ho4' : w4.ownsRow w1.heap.size 5 1 v' ((ls.take (k + 1)).flatMap encM).length (((ls.take (k + 1)).flatMap encM).map (Value.int .u8)) := by
            rw [HNE.out, List.length_append]; simpa using ho4
          have HO4 := Sp.hid ho4'
          have HB4 := Sp.hid hb4
          clear ho4 ho4' hg4 hb4
          go_wp2
          go_roundw
          case rel => exact ⟨k + 1, by omega, by go_num, HAL.out, HO4.out, HB4.out⟩
          case measure => simp [intOf]; omega
      · exfalso
        obtain rfl : k = m := by omega
        rw [HM.out, List.take_length, HALL.out] at hta
        cases hta

end Go.Proofs.YtbhdkionphemdaaDoor
