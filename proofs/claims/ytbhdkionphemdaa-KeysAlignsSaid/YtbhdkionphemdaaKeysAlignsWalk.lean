/- KeysAligns returns true: its walk. Conditions: the arguments read as entries. -/
import Derived.Test.YtbhdkionphemdaaKeysRefAlign
import Derived.Test.YtbhdkionphemdaaKeysUniq
import Derived.Test.YtbhdkionphemdaaKeysOnceWalk
namespace Go.Proofs.Ytbhdkionphemdaa
open Go.RowKit Go.Sp Go.Maps

theorem uniq_ref (b c : Bool) (es : List Ent) (hb : b = true ↔ Uniq es) (hc : c = true ↔ Uniq es) : b = c := by
  rw [Bool.eq_iff_iff, hb, hc]

set_option maxRecDepth 100000 in
set_option maxHeartbeats 4000000 in
theorem aligns_walk (va sa : Option Addr) (vc sc : Nat) (view source : List Ent) (w : World) (hv : Sl entS (· < w.heap.size) w va view) (hs : Sl entS (· < w.heap.size) w sa source)
    (hvl : view.length ≤ 9223372036854775807) (hsl : source.length ≤ 9223372036854775807) :
    Calls Try.prog 7 #[.slice va view.length vc, .slice sa source.length sc] w (IsBool true w) := by
  have HV := Sp.hid hv
  have HS := Sp.hid hs
  clear hv hs
  obtain ⟨j0, hj0, hy0, hy1, hy2⟩ := info_parts infoInt
  by_cases hn4 : (40 : Int) < view.length
  · go_enter Try.func7, Try.ntmps7
    go_wp2_with (go_at_call 9; refine (awake_any _).mono ?_; rintro e w2 ⟨rfl, hb2⟩; have HB2 := Sp.hid hb2; clear hb2)
    go_ret
    exact ⟨rfl, HB2.out⟩
  by_cases hm4 : (40 : Int) < source.length
  · go_enter Try.func7, Try.ntmps7
    go_wp2_with (go_at_call 9; refine (awake_any _).mono ?_; rintro e w2 ⟨rfl, hb2⟩; have HB2 := Sp.hid hb2; clear hb2)
    go_ret
    exact ⟨rfl, HB2.out⟩
  have HP1 := Sp.hid (plain_any va vc view w HV.out (by omega))
  go_enter Try.func7, Try.ntmps7
  go_wp2_with fail
  refine HP1.out.mono ?_
  rintro e w1 ⟨pa, pc, rfl, hpc, hps, hb1⟩
  have hs1 := hb1.size
  have HP2 := Sp.hid (plain_any sa sc source w1 ((HS.out.below (fun _ h => h) hb1).mono (fun k hk => by omega)) (by omega))
  have HPS := Sp.hid hps
  have HB1 := Sp.hid hb1
  clear hps hb1 HP1
  go_wp2_with fail
  refine HP2.out.mono ?_
  rintro e w2 ⟨qa, qc, rfl, hqc, hqs, hb2⟩
  have hs2 := hb2.size
  have HR := Sp.hid (refAlign_any _ _ pa qa pc qc view source w2 (HPS.out.below (fun k hk => hk.2) hb2) hqs (fun k hk => by omega) (fun k hk => hk.2) (by omega) (by omega))
  have HB2 := Sp.hid (HB1.out.trans (hb2.mono hs1))
  clear hqs hb2 HP2 HB1 HPS
  go_wp2_with fail
  refine HR.out.mono ?_
  rintro e w3 ⟨xa, xc, rfl, hxs, hb3⟩
  have hs3 := hb3.size
  obtain ⟨took, htk⟩ : ∃ took, took = tookM view source := ⟨_, rfl⟩
  rw [show alignM (source.map Ent.lk) (List.range source.length) (view.map Ent.lk) = took from htk.symm] at hxs
  have htl : took.length = view.length := by rw [htk, took_length]
  have hxl : (took.map encO).length = view.length := by rw [List.length_map]; exact htl
  have HX := Sp.hid hxs
  have HTK := Sp.hid htk
  have HTL := Sp.hid htl
  have HXL := Sp.hid hxl
  have HB3 := Sp.hid (HB2.out.trans (hb3.mono (by omega)))
  clear hxs htk htl hxl hb3 HR HB2
  go_wp2
  go_loopw [6, 7] (fun v i wr => ∃ k : Nat, k ≤ source.length ∧ i = .int .i64 k ∧ wr.ownsRow w3.heap.size 3 1 v (leftTo took k).length (((leftTo took k).map Int.ofNat).map (Value.int .i64)) ∧ Below w3.heap.size w3 wr) (fun _ i _ => source.length - (intOf i).toNat)
  case atStart => exact ⟨0, by omega, rfl, World.ownsRow_nil _ _ _ _, Below.refl _ _⟩
  case round =>
    obtain ⟨k, hk, rfl, hown, hb⟩ := hrel
    have HO3 := Sp.hid hown
    have HB4 := Sp.hid hb
    have hsz4 := hb.size
    clear hown hb
    by_cases hlk : k < source.length
    · have hls := leftTo_succ took k
      have HLS := Sp.hid hls
      have hll : (leftTo took k).length ≤ k := by unfold leftTo; exact Nat.le_trans (List.length_filter_le _ _) (by simp)
      clear hls
      go_wp2
      go_loop [8, 9] (fun f t => ∃ n : Nat, n ≤ view.length ∧ t = .int .i64 n ∧ f = .bool (!(took.take n).contains (some k))) (fun _ t => view.length - (intOf t).toNat)
      case atStart => exact ⟨0, by omega, rfl, rfl⟩
      case round =>
        obtain ⟨n, hn, rfl, rfl⟩ := hrel
        by_cases hnk : n < view.length
        · have hnt : n < took.length := by rw [HTL.out]; exact hnk
          obtain ⟨bo, oo, rfl, fo, eo⟩ := HX.out.int_cell n (by rw [HXL.out]; exact hnk)
          rw [← HB4.out.cell (p := ⟨bo, _, none⟩) (by show bo < _; omega)] at eo
          have eo' : wr.cell? ⟨bo, oo + n, none⟩ = some (.int .i64 (encO took[n])) := by simpa using eo
          have hcn := cont_next (took := took) (t := n) (j := k) hnt
          have hen := encO_ne (o := took[n]) (j := k)
          obtain ⟨e, he⟩ : ∃ e, e = encO took[n] := ⟨_, rfl⟩
          rw [← he] at eo' hen
          have hbool : ∃ b, b = (took.take n).contains (some k) := ⟨_, rfl⟩
          obtain ⟨b, hbb⟩ := hbool
          rw [← hbb] at hcn ⊢
          have hdec : ∃ d, d = decide (took[n] = some k) := ⟨_, rfl⟩
          obtain ⟨d, hdd⟩ := hdec
          rw [← hdd] at hcn hen
          have HCC := Sp.hid hcn
          clear hcn hbb hdd he eo
          cases b <;> cases d
          all_goals
            go_wp2
            go_round
            case rel => exact ⟨n + 1, by omega, by go_num, by rw [HCC.out]; rfl⟩
            case measure => simp [intOf]; omega
        · obtain rfl : n = view.length := by omega
          have htt : took.take view.length = took := by rw [← HTL.out, List.take_length]
          have hcc : ∃ c, c = took.contains (some k) := ⟨_, rfl⟩
          rw [htt]
          clear htt
          cases hc : took.contains (some k)
          · have hnx : leftTo took (k + 1) = leftTo took k ++ [k] := by rw [HLS.out, hc]; rfl
            have HNX := Sp.hid hnx
            clear hnx hc hcc
            go_wp2_with (at_builtin; refine wpList_append_own _ rfl _ _ 28 rfl w3.heap.size 3 j0 (.int .i64 0) 1 8 Try.underlying28 hj0 hy0 hy1 hy2 rfl (by decide) _ _ _ rfl (HO3.out.alloc _) ⟨wr.heap.size, 0, none⟩ 1 1 [.int .i64 (k : Nat)] rfl rfl (cell_one_new _ _ _) (by intro u hu; simp at hu; subst hu; rfl) (by unfold maxLen; omega) (by omega) (by simp; omega) ?_)
            intro v' w4 hown' hgrow _
            have hb4 : Below w3.heap.size w3 w4 := (HB4.out.alloc HB4.out.size _).grown hgrow (by simp; omega) (fun j hj => (HO3.out.lt j hj).1)
            have ho4 : w4.ownsRow w3.heap.size 3 1 v' (leftTo took (k + 1)).length (((leftTo took (k + 1)).map Int.ofNat).map (Value.int .i64)) := by rw [HNX.out]; simpa using hown'
            have HO4 := Sp.hid ho4
            have HB5 := Sp.hid hb4
            clear hown' hgrow hb4 ho4
            go_wp2
            go_roundw
            case rel => exact ⟨k + 1, by omega, by go_num, HO4.out, HB5.out⟩
            case measure => simp [intOf]; omega
          · have hnx : leftTo took (k + 1) = leftTo took k := by rw [HLS.out, hc]; simp
            have HNX := Sp.hid hnx
            clear hnx hc hcc
            go_wp2
            go_roundw
            case rel => exact ⟨k + 1, by omega, by go_num, by rw [HNX.out]; exact HO3.out, HB4.out⟩
            case measure => simp [intOf]; omega
    · obtain rfl : k = source.length := by omega
      obtain ⟨la, lc, rfl, z1, z2, z3, z4, hlsl⟩ := own_ints HO3.out
      clear z1 z2 z3 z4
      have hbw : Below w.heap.size w wr := HB3.out.trans (HB4.out.mono (by omega))
      have HLSL := Sp.hid hlsl
      have HBW := Sp.hid hbw
      have hsw := hbw.size
      have hx4 := HX.out.below (fun k hk => hk.2) HB4.out
      have HX4 := Sp.hid hx4
      have HU := Sp.hid (unique_any va vc view wr ((HV.out.below (fun _ h => h) hbw).mono (fun k hk => by omega)) (by omega))
      clear hlsl hbw hx4 HO3 HB4 HB3 HX
      go_wp2_with fail
      refine HU.out.mono ?_
      rintro e w5 ⟨bu, hbu, rfl, hb5⟩
      obtain ⟨ev, hev⟩ : ∃ ev : Int, ev = if bu then 0 else 23 := ⟨_, rfl⟩
      rw [← hev]
      have HEV := Sp.hid hev
      clear hev
      have hs5 := hb5.size
      have HBU := Sp.hid hbu
      have hw5 : Below w.heap.size w w5 := HBW.out.trans (hb5.mono hsw)
      have HA := Sp.hid (Align_any va sa vc sc view source w5 ((HV.out.below (fun _ h => h) hw5).mono (fun k hk => by omega)) ((HS.out.below (fun _ h => h) hw5).mono (fun k hk => by omega)) (by omega) (by omega))
      have hx5 := HX4.out.below (fun k hk => by omega) hb5
      have hl5 := HLSL.out.below (fun k hk => by omega) hb5
      have HX5 := Sp.hid hx5
      have HL5 := Sp.hid hl5
      have HW5 := Sp.hid hw5
      clear hbu hw5 hx5 hl5 hb5 HX4 HLSL HBW HU
      go_wp2_with fail
      refine HA.out.mono ?_
      rintro e w6 ⟨ya, yc, rfl, hyc, hys, hb6⟩
      have hs6 := hb6.size
      rw [show alignM (source.map Ent.lk) (List.range source.length) (view.map Ent.lk) = took from HTK.out.symm] at hys
      have hx6 := HX5.out.below (fun k hk => by omega) hb6
      have hl6 := HL5.out.below (fun k hk => by omega) hb6
      have hi := ints_any _ _ ya xa yc xc (took.map encO) (took.map encO) w6 hys hx6 (fun k hk => hk.2) (fun k hk => by omega) (by rw [HXL.out]; omega) (by rw [HXL.out]; omega)
      rw [HXL.out, decide_eq_true rfl] at hi
      have HI := Sp.hid hi
      have HL6 := Sp.hid hl6
      have HW6 := Sp.hid (HW5.out.trans (hb6.mono (by have := HW5.out.size; omega)))
      clear hys hx6 hl6 hb6 hi HA HX5 HL5
      go_wp2_with fail
      refine HI.out.mono ?_
      rintro e w7 ⟨rfl, hb7⟩
      have hs7 := hb7.size
      have hw7 := HW6.out.trans (hb7.mono HW6.out.size)
      have hsw7 := hw7.size
      have hl7 := HL6.out.below (fun k hk => by omega) hb7
      have HLF := Sp.hid (Left_any va sa vc sc view source w7 ((HV.out.below (fun _ h => h) hw7).mono (fun k hk => by omega)) ((HS.out.below (fun _ h => h) hw7).mono (fun k hk => by omega)) (by omega) (by omega))
      have HL7 := Sp.hid hl7
      have HW7 := Sp.hid hw7
      clear hb7 hw7 hl7 HI HL6 HW6 HW5
      go_wp2_with fail
      refine HLF.out.mono ?_
      rintro e w8 ⟨ka, kc, rfl, hks, hb8⟩
      rw [show alignM (source.map Ent.lk) (List.range source.length) (view.map Ent.lk) = took from HTK.out.symm] at hks ⊢
      have hs8 := hb8.size
      have hl8 := HL7.out.below (fun k hk => by omega) hb8
      have hllen : ((leftTo took source.length).map Int.ofNat).length = (leftTo took source.length).length := by simp
      have hlb : (leftTo took source.length).length ≤ source.length := by unfold leftTo; exact Nat.le_trans (List.length_filter_le _ _) (by simp)
      have hi := ints_any _ _ ka la kc lc ((leftTo took source.length).map Int.ofNat) ((leftTo took source.length).map Int.ofNat) w8 hks hl8 (fun k hk => hk.2) (fun k hk => by omega) (by rw [hllen]; omega) (by rw [hllen]; omega)
      rw [hllen, decide_eq_true rfl] at hi
      have HI := Sp.hid hi
      have HW8 := Sp.hid (HW7.out.trans (hb8.mono hsw7))
      clear hks hl8 hllen hi hb8 HLF HL7 HW7
      go_wp2_with fail
      refine HI.out.mono ?_
      rintro e w9 ⟨rfl, hb9⟩
      have hs9 := hb9.size
      have hw9 := HW8.out.trans (hb9.mono HW8.out.size)
      have hsw9 := hw9.size
      have HPL := Sp.hid (plain_any va vc view w9 ((HV.out.below (fun _ h => h) hw9).mono (fun k hk => by omega)) (by omega))
      have HW9 := Sp.hid hw9
      clear hb9 hw9 HI HW8
      go_wp2_with fail
      refine HPL.out.mono ?_
      rintro e wa ⟨ma, mc, rfl, hmc, hms, hba⟩
      have HRU := Sp.hid (refUnique_any _ ma mc view wa hms (fun k hk => hk.2) (by omega))
      have hsa := hba.size
      have HWA := Sp.hid (HW9.out.trans (hba.mono hsw9))
      clear hms hba HPL HW9
      go_wp2_with fail
      refine HRU.out.mono ?_
      rintro e wb ⟨bc, hbc, rfl, hbb⟩
      obtain rfl := uniq_ref bu bc view HBU.out hbc
      have hwb := HWA.out.trans (hbb.mono HWA.out.size)
      have HWB := Sp.hid hwb
      clear hbc hbb hwb HRU HWA
      have hev := HEV.out
      clear HEV
      cases bu
      · rw [if_neg (by decide)] at hev
        subst hev
        go_wp2_with (go_at_call 9; refine (awake_any _).mono ?_; rintro e wc ⟨rfl, hbc⟩; have HBC := Sp.hid hbc; clear hbc)
        go_ret
        exact ⟨rfl, HWB.out.trans (HBC.out.mono HWB.out.size)⟩
      · rw [if_pos rfl] at hev
        subst hev
        go_wp2_with (go_at_call 9; refine (awake_any _).mono ?_; rintro e wc ⟨rfl, hbc⟩; have HBC := Sp.hid hbc; clear hbc)
        go_ret
        exact ⟨rfl, HWB.out.trans (HBC.out.mono HWB.out.size)⟩

end Go.Proofs.Ytbhdkionphemdaa
