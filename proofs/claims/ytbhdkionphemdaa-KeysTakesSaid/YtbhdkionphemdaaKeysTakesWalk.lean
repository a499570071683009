/- KeysTakes returns true: its walk. Conditions: the arguments read as entries. -/
import Derived.Test.YtbhdkionphemdaaKeysRefAlign
import Derived.Test.YtbhdkionphemdaaKeysTakesPlain
namespace Go.Proofs.Ytbhdkionphemdaa
open Go.RowKit Go.Sp Go.Maps

set_option maxRecDepth 100000 in
set_option maxHeartbeats 4000000 in
theorem takes_walk (va sa : Option Addr) (vc sc : Nat) (view source : List Ent) (w : World) (hv : Sl entS (· < w.heap.size) w va view) (hs : Sl entS (· < w.heap.size) w sa source)
    (hvl : view.length ≤ 9223372036854775807) (hsl : source.length ≤ 9223372036854775807) :
    Calls Try.prog 4 #[.slice va view.length vc, .slice sa source.length sc] w (IsBool true w) := by
  have HV := Sp.hid hv
  have HS := Sp.hid hs
  clear hv hs
  obtain ⟨j0, hj0, hy0, hy1, hy2⟩ := info_parts infoEnt
  by_cases hn4 : (40 : Int) < view.length
  · go_enter Try.func4, Try.ntmps4
    go_wp2_with (go_at_call 9; refine (awake_any _).mono ?_; rintro e w2 ⟨rfl, hb2⟩; have HB2 := Sp.hid hb2; clear hb2)
    go_ret
    exact ⟨rfl, HB2.out⟩
  by_cases hm4 : (40 : Int) < source.length
  · go_enter Try.func4, Try.ntmps4
    go_wp2_with (go_at_call 9; refine (awake_any _).mono ?_; rintro e w2 ⟨rfl, hb2⟩; have HB2 := Sp.hid hb2; clear hb2)
    go_ret
    exact ⟨rfl, HB2.out⟩
  have HN := Sp.hid (new_any sa sc source w HS.out (by omega))
  go_enter Try.func4, Try.ntmps4
  go_wp2_with fail
  refine HN.out.mono ?_
  rintro e w1 ⟨rfl, hd1, hb1⟩
  have hs1 := hb1.size
  have hT1 : w.heap.size + 1 < w1.heap.size := by obtain ⟨_, _, _, h, _⟩ := hd1; exact h
  obtain ⟨T, hT⟩ : ∃ T, T = w1.heap.size := ⟨_, rfl⟩
  rw [← hT] at hd1
  have HT := Sp.hid hT
  have hTle : T ≤ w1.heap.size := by omega
  have hTle' : w1.heap.size ≤ T := by omega
  clear hT
  have HD1 := Sp.hid hd1
  have HB1 := Sp.hid hb1
  clear hd1 hb1 HN
  go_wp2_with fail
  refine (take_nil _ _ _ _).mono ?_
  rintro e w2 ⟨rfl, hb2⟩
  have hs2 := hb2.size
  have HD2 := Sp.hid (HD1.out.later (fun k _ hk => hb2.block k (by omega)) hs2)
  have HB2 := Sp.hid (HB1.out.trans (hb2.mono hs1))
  clear hb2 HB1 HD1
  go_wp2_with fail
  refine (len_nil _).mono ?_
  rintro e w2' ⟨rfl, rfl⟩
  have HP1 := Sp.hid (plain_any va vc view w2 ((HV.out.below (fun _ h => h) HB2.out).mono (fun k hk => by omega)) (by omega))
  go_wp2_with fail
  refine HP1.out.mono ?_
  rintro e w3 ⟨pa, pc, rfl, hpc, hps, hb3⟩
  have hs3 := hb3.size
  have hb23 := HB2.out.trans (hb3.mono (by omega))
  have HP2 := Sp.hid (plain_any sa sc source w3 ((HS.out.below (fun _ h => h) hb23).mono (fun k hk => by omega)) (by omega))
  have HPS := Sp.hid hps
  have HB3 := Sp.hid hb23
  have HD3 := Sp.hid (HD2.out.later (fun k _ hk => hb3.block k (by omega)) hs3)
  clear hps hb3 hb23 HP1 HD2 HB2
  go_wp2_with fail
  refine HP2.out.mono ?_
  rintro e w4 ⟨qa, qc, rfl, hqc, hqs, hb4⟩
  have hs4 := hb4.size
  have HR := Sp.hid (refAlign_any _ _ pa qa pc qc view source w4 (HPS.out.below (fun k hk => hk.2) hb4) hqs (fun k hk => by omega) (fun k hk => hk.2) (by omega) (by omega))
  have HB4 := Sp.hid (HB3.out.trans (hb4.mono (by omega)))
  have HD4 := Sp.hid (HD3.out.later (fun k _ hk => hb4.block k (by omega)) hs4)
  clear hqs hb4 HP2 HB3 HPS HD3
  go_wp2_with fail
  refine HR.out.mono ?_
  rintro e w5 ⟨xa, xc, rfl, hxs, hb5⟩
  have hs5 := hb5.size
  obtain ⟨took, htk⟩ : ∃ took, took = tookM view source := ⟨_, rfl⟩
  rw [show alignM (source.map Ent.lk) (List.range source.length) (view.map Ent.lk) = took from htk.symm] at hxs
  have htl : took.length = view.length := by rw [htk, took_length]
  have hxl : (took.map encO).length = view.length := by rw [List.length_map]; exact htl
  have hta : ∀ k (hk : k < view.length) (hk2 : k < took.length), took[k] = takeM (source.map Ent.lk) (leftM (source.map Ent.lk) (List.range source.length) ((view.map Ent.lk).take k)) view[k].lk := fun k hk hk2 => by
    subst htk
    have := took_at (src := source.map Ent.lk) (ks := view.map Ent.lk) (rem := List.range source.length) (k := k) (by simpa using hk) (by simpa using hk2)
    simpa using this
  have HX := Sp.hid hxs
  have HTK := Sp.hid htk
  have HTL := Sp.hid htl
  have HXL := Sp.hid hxl
  have HTA := Sp.hid hta
  have HB5 := Sp.hid (HB4.out.trans (hb5.mono (by omega)))
  have HD5 := Sp.hid (HD4.out.later (fun k _ hk => hb5.block k (by omega)) hs5)
  clear hxs htk htl hxl hb5 HR HB4 hta HD4
  go_wp2
  go_loopw [10, 11] (fun l i wr => ∃ k : Nat, k ≤ view.length ∧ i = .int .i64 k ∧ ∃ n : Nat, n ≤ source.length ∧ l = .int .i64 n ∧ n = (leftM (source.map Ent.lk) (List.range source.length) ((view.map Ent.lk).take k)).length ∧
      DictIs w.heap.size (w.heap.size + 1) T wr (source.map Ent.lk) (leftM (source.map Ent.lk) (List.range source.length) ((view.map Ent.lk).take k)) ∧ Only2 w.heap.size (w.heap.size + 1) w5 wr) (fun _ i _ => view.length - (intOf i).toNat)
  case atStart => exact ⟨0, by omega, rfl, source.length, Nat.le_refl _, rfl, by simp [leftM], by simpa [leftM] using HD5.out, Only2.of_below (Below.refl _ _)⟩
  case round =>
    obtain ⟨k, hk, rfl, n, hn, rfl, hnl, hd, ho⟩ := hrel
    have hsr := ho.size
    by_cases hlt : k < view.length
    · have hkt : k < took.length := by rw [HTL.out]; exact hlt
      obtain ⟨b, o, rfl, hblt, hsz, e1, e2, e3⟩ := ent_cells HV.out k hlt
      have hblk : ∀ j, j < w.heap.size → wr.heap[j]? = w.heap[j]? := fun j hj => by rw [ho.block j (by omega) (by omega) (by omega)]; exact HB5.out.block j hj
      have c1 : wr.cell? ⟨b, o + k * 3, none⟩ = some (.int .i64 view[k].pl) := by rw [World.cell?_of_block (a := ⟨b, _, none⟩) (hblk b hblt)]; exact e1
      have c2 : wr.cell? ⟨b, o + k * 3 + 1, none⟩ = some (.bool view[k].has) := by rw [World.cell?_of_block (a := ⟨b, _, none⟩) (hblk b hblt)]; exact e2
      have c3 : wr.cell? ⟨b, o + k * 3 + 2, none⟩ = some (.string view[k].key) := by rw [World.cell?_of_block (a := ⟨b, _, none⟩) (hblk b hblt)]; exact e3
      have hTK := HTA.out k hlt hkt
      have hnx := left_next (src := source.map Ent.lk) (ks := view.map Ent.lk) (n := source.length) (k := k) (by simpa using hlt)
      rw [List.getElem_map] at hnx
      obtain ⟨xb, xo, rfl, hxf, ex⟩ := HX.out.int_cell k (by rw [HXL.out]; exact hlt)
      rw [List.getElem_map] at ex
      obtain ⟨en, hen⟩ : ∃ en, en = view[k] := ⟨_, rfl⟩
      rw [← hen] at c1 c2 c3 hsz hTK hnx
      obtain ⟨rem, hrem⟩ : ∃ rem, rem = leftM (source.map Ent.lk) (List.range source.length) ((view.map Ent.lk).take k) := ⟨_, rfl⟩
      rw [← hrem] at hnx hTK hd hnl
      have hT2 := take_any w.heap.size (w.heap.size + 1) T (source.map Ent.lk) rem en.pl en.has en.key _ hd hsz
      rw [show Ent.lk ⟨en.pl, en.has, en.key⟩ = en.lk from rfl, ← hTK] at hT2
      have hex : ∀ w2, Only2 w.heap.size (w.heap.size + 1) wr w2 → w2.cell? ⟨xb, xo + k, none⟩ = some (.int .i64 (encO took[k])) := fun w2 ho2 => by
        have hh : w2.heap[xb]? = w5.heap[xb]? := by rw [ho2.block xb (by omega) (by omega) (by omega), ho.block xb (by omega) (by omega) (by omega)]
        rw [World.cell?_of_block (a := ⟨xb, _, none⟩) hh]; exact ex
      have HT2 := Sp.hid hT2
      have HEX := Sp.hid hex
      have HNX := Sp.hid hnx
      have HNL := Sp.hid hnl
      have HO := Sp.hid ho
      obtain ⟨tk, htk⟩ : ∃ tk, tk = took[k] := ⟨_, rfl⟩
      rw [← htk] at HT2 HEX hTK
      have hremlen : rem.length ≤ source.length := by rw [← hnl]; exact hn
      clear hd ho hblk e1 e2 e3 hnx hen hrem ex hT2 hex hnl htk
      cases tk with
      | none =>
        have hrn := rest_none hTK.symm
        rw [hrn] at HT2 HNX
        clear hrn hTK
        go_wp2_with fail
        refine HT2.out.mono ?_
        rintro e w6 ⟨rfl, hd6, ho6⟩
        have hex := HEX.out w6 ho6
        simp only [encO] at hex
        have hsz6 := ho6.size
        have HL := Sp.hid (len_any _ _ _ _ _ w6 hd6)
        have HO6 := Sp.hid ho6
        have HD6 := Sp.hid hd6
        rw [← HNL.out] at HL
        clear hd6 ho6 HEX
        simp only [Option.isSome_none, Option.getD_none]
        go_wp2_with fail
        refine HL.out.mono ?_
        rintro e w7 ⟨rfl, rfl⟩
        go_wp2
        go_roundw
        case rel => exact ⟨k + 1, by omega, by go_num, n, hn, rfl, by rw [HNX.out]; exact HNL.out, by rw [HNX.out]; exact HD6.out, HO.out.trans HO6.out⟩
        case measure => simp [intOf]; omega
      | some p =>
        have hrl := rest_length hTK.symm
        have hplt : p < (source.map Ent.lk).length := take_lt hTK.symm
        obtain ⟨rem2, hrem2⟩ : ∃ rem2, rem2 = restM (source.map Ent.lk) rem en.lk := ⟨_, rfl⟩
        rw [show restM (source.map Ent.lk) rem (Ent.lk ⟨en.pl, en.has, en.key⟩) = rem2 from hrem2.symm] at HT2
        rw [← hrem2] at HNX hrl
        rw [List.length_map] at hplt
        clear hrem2 hTK
        obtain ⟨n2, hn2⟩ : ∃ n2, n2 = rem2.length := ⟨_, rfl⟩
        rw [← hn2, ← HNL.out] at hrl
        have hrl' : n - 1 = n2 := by omega
        have hn1 : 1 ≤ n := by omega
        have hrlI : (n : Int) - 1 = n2 := by omega
        have hbq : ((n2 : Int) != (n : Int) - 1) = false := by rw [hrlI]; simp
        have HRL := Sp.hid hrlI
        have HN2 := Sp.hid hn2
        clear hrl hrl' hrlI hn2
        go_wp2_with fail
        refine HT2.out.mono ?_
        rintro e w6 ⟨rfl, hd6, ho6⟩
        have hex := HEX.out w6 ho6
        simp only [encO] at hex
        have hsz6 := ho6.size
        have HL := Sp.hid (len_any _ _ _ _ _ w6 hd6)
        have HO6 := Sp.hid ho6
        have HD6 := Sp.hid hd6
        rw [← HN2.out] at HL
        clear hd6 ho6 HEX
        simp only [Option.isSome_some, Option.getD_some]
        go_wp2_with fail
        refine HL.out.mono ?_
        rintro e w7 ⟨rfl, rfl⟩
        go_wp2
        go_roundw
        case rel => exact ⟨k + 1, by omega, by go_num, n2, by have := HRL.out; omega, congrArg (Value.int .i64) HRL.out, by rw [HNX.out]; exact HN2.out, by rw [HNX.out]; exact HD6.out, HO.out.trans HO6.out⟩
        case measure => simp [intOf]; omega
    · obtain rfl : k = view.length := by omega
      have hbw : Below w.heap.size w5 wr := ho.below (by omega) (by omega)
      have HBW := Sp.hid (HB5.out.trans hbw)
      clear hd ho hbw hnl HX HD5 HB5
      go_wp2_with (go_loud (at_make); refine wpList_make_full _ rfl _ _ 22 rfl wr.heap.size 27 j0 (.agg #[.int .i64 0, .bool false, .string ⟨#[]⟩]) 3 Try.underlying22 hj0 hy0 hy1 .i64 .i64 _ _ view.length rfl rfl rfl rfl ?c1 ?c2 (Nat.le_refl _) ?c3)
      case c1 => rw [hy2]; omega
      case c2 => unfold maxLen; omega
      case c3 =>
      intro w6 hown hg
      have hmb := made_blank view.length
      rw [show Value.cells (.agg #[.int .i64 0, .bool false, .string ⟨#[]⟩]) = #[.int .i64 0, .bool false, .string ⟨#[]⟩] from rfl] at hmb
      rw [hmb] at hown
      clear hmb
      have hsz6 := hg.size
      have hb6 : Below wr.heap.size wr w6 := (Below.refl _ _).grown hg (Nat.le_refl _) (fun j hj => by cases hj)
      obtain ⟨ba, bc, hbv, z1, z2, hsb⟩ := own_ents (es := List.replicate view.length blankE) (fun x hx => by rw [(List.mem_replicate.1 hx).2]; decide) hown
      obtain ⟨rfl, _, rfl⟩ := (by simpa using hbv : some (⟨wr.heap.size, 0, none⟩ : Addr) = ba ∧ True ∧ view.length = bc)
      have hsw := HBW.out.size
      have HA := Sp.hid (Align_any _ _ view.length view.length (List.replicate view.length blankE) (List.replicate view.length blankE) w6 (hsb.mono fun _ h => h.2) (hsb.mono fun _ h => h.2) (by simp; omega) (by simp; omega))
      rw [align_blanks, List.length_replicate] at HA
      have HB6 := Sp.hid (HBW.out.trans (hb6.mono hsw))
      clear z1 z2 hbv hsb hown hg hb6 HBW
      go_wp2_with fail
      refine HA.out.mono ?_
      rintro e w7 ⟨ya, yc, rfl, hyc, hys, hb7⟩
      have hs7 := hb7.size
      have hsw6 := HB6.out.size
      have HY := Sp.hid hys
      have HB7 := Sp.hid (HB6.out.trans (hb7.mono (by omega)))
      clear hys hb7 HA HB6
      go_wp2
      go_loop [16] (fun i => ∃ k : Nat, k ≤ view.length ∧ i = .int .i64 k) (fun i => view.length - (intOf i).toNat)
      case atStart => exact ⟨0, by omega, rfl⟩
      case round =>
        obtain ⟨k, hk, rfl⟩ := hrel
        by_cases hlt : k < view.length
        · obtain ⟨b, o, rfl, hf, ey⟩ := HY.out.int_cell k (by simpa using hlt)
          rw [List.getElem_map, List.getElem_range] at ey
          have ey' : w7.cell? ⟨b, o + k, none⟩ = some (.int .i64 (k : Nat)) := ey
          clear ey
          go_wp2
          go_round
          case rel => exact ⟨k + 1, by omega, by go_num⟩
          case measure => simp [intOf]; omega
        · obtain rfl : k = view.length := by omega
          go_wp2_with (go_at_call 9; refine (awake_any _).mono ?_; rintro e w2 ⟨rfl, hb2⟩; have HB2 := Sp.hid hb2; clear hb2)
          go_ret
          exact ⟨rfl, HB7.out.trans (HB2.out.mono HB7.out.size)⟩

end Go.Proofs.Ytbhdkionphemdaa
