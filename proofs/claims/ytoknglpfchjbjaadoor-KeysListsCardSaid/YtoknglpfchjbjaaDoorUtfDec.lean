/- utf.Decode: what it returns at a place of a row of bytes. Conditions: the place is in the row. -/
import Derived.Test.YtoknglpfchjbjaaDoorUtfPlain
import Derived.OwnWalk
namespace Go.Proofs.YtoknglpfchjbjaaDoor
open Go.RowKit Go.Sp

def decV (bs : List Int) : Value := match decM bs with
  | none => .tuple #[.int .i32 0, .int .i64 0, .int .i64 10]
  | some (r, n) => .tuple #[.int .i32 r, .int .i64 (n : Nat), .int .i64 0]

theorem decM_none {c : Int} {t : List Int} (h : ¬ ((beginOf c).1 ≠ 0 ∧ (beginOf c).1 ≤ t.length + 1 ∧ (t.take ((beginOf c).1 - 1)).all isCont = true ∧ sizeOf_ (foldC (beginOf c).2 (t.take ((beginOf c).1 - 1))) = (beginOf c).1 ∧ isChar (foldC (beginOf c).2 (t.take ((beginOf c).1 - 1))) = true)) :
    decV (c :: t) = .tuple #[.int .i32 0, .int .i64 0, .int .i64 10] := by
  simp only [decV, decM]
  rw [if_neg h]
theorem decM_some {c : Int} {t : List Int} (h : (beginOf c).1 ≠ 0 ∧ (beginOf c).1 ≤ t.length + 1 ∧ (t.take ((beginOf c).1 - 1)).all isCont = true ∧ sizeOf_ (foldC (beginOf c).2 (t.take ((beginOf c).1 - 1))) = (beginOf c).1 ∧ isChar (foldC (beginOf c).2 (t.take ((beginOf c).1 - 1))) = true) :
    decV (c :: t) = .tuple #[.int .i32 (foldC (beginOf c).2 (t.take ((beginOf c).1 - 1))), .int .i64 ((beginOf c).1 : Nat), .int .i64 0] := by
  simp only [decV, decM]
  rw [if_pos h]

theorem begin_bounds {c : Int} (h0 : 0 ≤ c) : (beginOf c).1 ≤ 4 ∧ 0 ≤ (beginOf c).2 ∧ (beginOf c).2 < 128 := by
  unfold beginOf
  split
  · exact ⟨by show (1 : Nat) ≤ 4; decide, h0, by assumption⟩
  split
  · exact ⟨by decide, by decide, by decide⟩
  split
  · dsimp only; omega
  split
  · dsimp only; omega
  split
  · dsimp only; omega
  · exact ⟨by decide, by decide, by decide⟩

theorem foldC_snoc (r : Int) (cs : List Int) (c : Int) : foldC r (cs ++ [c]) = foldC r cs * 64 + (c - 128) := by unfold foldC; rw [List.foldl_append]; rfl

theorem or6 (r c : Int) (h0 : 0 ≤ r) (h1 : r < 524288) (c0 : 128 ≤ c) (c1 : c ≤ 191) : bits .or .i32 (r * 64) (c - 128) = r * 64 + (c - 128) :=
  bits_join .i32 31 (by decide) wraps_i32 6 (r * 64) (c - 128) (by omega) (by omega) (by omega) (by omega) (by omega) (by omega)

set_option maxHeartbeats 2000000 in
theorem decode_any (F : Nat → Prop) (a : Option Addr) (cap k : Nat) (bs : List Int) (w : World) (hbs : Sl (Shape.int .u8) F w a bs) (hbd : ∀ x ∈ bs, 0 ≤ x ∧ x ≤ 255) (hk : k < bs.length) (hcap : bs.length ≤ cap) (hlen : bs.length ≤ 9223372036854775807) (hsp : SpansAt w) :
    Calls Tryd.prog 80 #[.slice a bs.length cap, .int .i64 k] w fun e w' => e = .returned (decV (bs.drop k)) ∧ Below w.heap.size w w' := by
  obtain ⟨b, o, rfl, hf, e0⟩ := hbs.int_cell k hk
  obtain ⟨c, hc⟩ : ∃ c, c = bs[k] := ⟨_, rfl⟩
  obtain ⟨t, ht⟩ : ∃ t, t = bs.drop (k + 1) := ⟨_, rfl⟩
  have htl : t.length + (k + 1) = bs.length := by rw [ht, List.length_drop]; omega
  rw [← hc] at e0
  have hdrop : bs.drop k = c :: t := by rw [ht, hc]; exact List.drop_eq_getElem_cons hk
  rw [hdrop]
  have hcb := hbd c (by rw [hc]; exact List.getElem_mem _)
  have htb : ∀ j (hj : j < t.length), w.cell? ⟨b, o + (k + 1) + j, none⟩ = some (.int .u8 t[j]) ∧ 0 ≤ t[j] ∧ t[j] ≤ 255 := fun j hj => by
    have h1 : k + 1 + j < bs.length := by omega
    have ht' : t[j] = bs[k + 1 + j] := by simp [ht]
    obtain ⟨b', o', hb', _, e1⟩ := hbs.int_cell (k + 1 + j) h1
    cases hb'
    refine ⟨?_, ?_⟩
    · rw [ht', ← e1]; congr 2; omega
    · rw [ht']; exact hbd _ (List.getElem_mem _)
  have hbn := begin_bounds hcb.1
  obtain ⟨n, hn⟩ : ∃ n, n = (beginOf c).1 := ⟨_, rfl⟩
  obtain ⟨r0, hr0⟩ : ∃ r0, r0 = (beginOf c).2 := ⟨_, rfl⟩
  have hbeg := begin_any c w hcb.1 hcb.2
  have hN : ∀ h : ¬ (n ≠ 0 ∧ n ≤ t.length + 1 ∧ (t.take (n - 1)).all isCont = true ∧ sizeOf_ (foldC r0 (t.take (n - 1))) = n ∧ isChar (foldC r0 (t.take (n - 1))) = true), decV (c :: t) = .tuple #[.int .i32 0, .int .i64 0, .int .i64 10] := by
    rw [hn, hr0]; exact decM_none
  have hS : ∀ h : (n ≠ 0 ∧ n ≤ t.length + 1 ∧ (t.take (n - 1)).all isCont = true ∧ sizeOf_ (foldC r0 (t.take (n - 1))) = n ∧ isChar (foldC r0 (t.take (n - 1))) = true), decV (c :: t) = .tuple #[.int .i32 (foldC r0 (t.take (n - 1))), .int .i64 (n : Nat), .int .i64 0] := by
    rw [hn, hr0]; exact decM_some
  rw [← hn, ← hr0] at hbeg hbn
  obtain ⟨V, hV⟩ : ∃ V, V = decV (c :: t) := ⟨_, rfl⟩
  rw [← hV] at hN hS ⊢
  have HN := Sp.hid hN
  have HS := Sp.hid hS
  have HBEG := Sp.hid hbeg
  have HTB := Sp.hid htb
  have HSP := Sp.hid hsp
  have htl1 : t.length + 1 ≤ bs.length - k := by omega
  have htl2 : bs.length - k ≤ t.length + 1 := by omega
  obtain ⟨m, hm⟩ : ∃ m, m = bs.length := ⟨_, rfl⟩
  rw [← hm] at htl htl1 htl2 hk hcap hlen ⊢
  have e0' : w.cell? ⟨b, o + k, none⟩ = some (.int .u8 c) := by simpa using e0
  clear hN hS hbeg htb hsp hV hn hr0 hdrop ht hc hbs hbd e0 htl hm
  have hc1 := hcb.1
  have hc2 := hcb.2
  have hn4 := hbn.1
  have hr1 := hbn.2.1
  have hr2 := hbn.2.2
  clear hcb hbn
  go_enter Tryd.func80, Tryd.ntmps80
  go_wp2_with fail
  refine HBEG.out.mono ?_
  rintro e w1 ⟨rfl, rfl⟩
  by_cases h0 : n = 0
  · subst h0
    have hv := HN.out (by simp)
    have HV := Sp.hid hv
    clear hv HN HS
    go_wp2
    go_ret3
    exact ⟨by rw [HV.out]; rfl, Below.refl _ _⟩
  by_cases h1 : (m : Int) - k < n
  · have hv := HN.out (by omega)
    have HV := Sp.hid hv
    clear hv HN HS
    have h0' : (n : Int) ≠ 0 := by omega
    have hd0 : ((n : Int) == 0) = false := by simpa using h0
    go_wp2
    go_ret3
    exact ⟨by rw [HV.out]; rfl, Below.refl _ _⟩
  have h0' : 0 < n := by omega
  have hd0 : ((n : Int) == 0) = false := by simpa using h0
  by_cases hce : cap = k + 1
  · obtain rfl : n = 1 := by omega
    go_wp2
    go_loop [8, 45] (fun r i => ∃ j : Nat, j ≤ 1 - 1 ∧ i = .int .i64 j ∧ r = .int .i32 (foldC r0 (t.take j)) ∧ (t.take j).all isCont = true ∧ 0 ≤ foldC r0 (t.take j) ∧ foldC r0 (t.take j) < 128 * 64 ^ j) (fun _ i => 1 - 1 - (intOf i).toNat)
    case atStart => exact ⟨0, by omega, rfl, rfl, rfl, hr1, by simpa [foldC] using hr2⟩
    case round =>
      obtain ⟨j, hj, rfl, rfl, hall, hp, hq⟩ := hrel
      by_cases hlt : j < 1 - 1
      · exact absurd hlt (by omega)
      · obtain rfl : j = 1 - 1 := by omega
        obtain ⟨r, hr⟩ : ∃ r, r = foldC r0 (t.take (1 - 1)) := ⟨_, rfl⟩
        rw [← hr] at hp HN HS ⊢
        have hsz := size_any r w
        have HSZ := Sp.hid hsz
        have HIS := Sp.hid (is_any r w HSP.out)
        obtain ⟨z, hz⟩ : ∃ z, z = sizeOf_ r := ⟨_, rfl⟩
        rw [← hz] at HSZ HN HS
        obtain ⟨ic, hic⟩ : ∃ ic, ic = isChar r := ⟨_, rfl⟩
        rw [← hic] at HIS HN HS
        have HALL := Sp.hid hall
        clear hsz hz hic hr hall hq
        by_cases hzn : z = 1
        · subst hzn
          cases ic
          · have hv := HN.out (by simp)
            have HV := Sp.hid hv
            clear hv HN HS
            go_wp2_with fail
            refine HSZ.out.mono ?_
            rintro e w2 ⟨rfl, rfl⟩
            go_wp2_with fail
            refine HIS.out.mono ?_
            rintro e w3 ⟨rfl, hb3⟩
            have HB3 := Sp.hid hb3
            clear hb3
            go_wp2
            go_ret3
            exact ⟨by rw [HV.out]; rfl, HB3.out⟩
          · have hv := HS.out ⟨h0, by omega, HALL.out, rfl, rfl⟩
            have HV := Sp.hid hv
            clear hv HN HS
            go_wp2_with fail
            refine HSZ.out.mono ?_
            rintro e w2 ⟨rfl, rfl⟩
            go_wp2_with fail
            refine HIS.out.mono ?_
            rintro e w3 ⟨rfl, hb3⟩
            have HB3 := Sp.hid hb3
            clear hb3
            go_wp2
            go_ret3
            exact ⟨by rw [HV.out]; rfl, HB3.out⟩
        · have hv := HN.out (fun h => hzn h.2.2.2.1)
          have HV := Sp.hid hv
          have hzb : ((z : Int) != (1 : Int)) = true := by simp; omega
          clear hv HN HS
          go_wp2_with fail
          refine HSZ.out.mono ?_
          rintro e w2 ⟨rfl, rfl⟩
          go_wp2
          go_ret3
          exact ⟨by rw [HV.out]; rfl, Below.refl _ _⟩
  go_wp2
  go_loop [8, 45] (fun r i => ∃ j : Nat, j ≤ n - 1 ∧ i = .int .i64 j ∧ r = .int .i32 (foldC r0 (t.take j)) ∧ (t.take j).all isCont = true ∧ 0 ≤ foldC r0 (t.take j) ∧ foldC r0 (t.take j) < 128 * 64 ^ j) (fun _ i => n - 1 - (intOf i).toNat)
  case atStart => exact ⟨0, by omega, rfl, rfl, rfl, hr1, by simpa [foldC] using hr2⟩
  case round =>
    obtain ⟨j, hj, rfl, rfl, hall, hp, hq⟩ := hrel
    by_cases hlt : j < n - 1
    · have hjt : j < t.length := by omega
      obtain ⟨et, hx0, hx1⟩ := HTB.out j hjt
      have htk := List.take_succ_eq_append_getElem hjt
      obtain ⟨x, hx⟩ : ∃ x, x = t[j] := ⟨_, rfl⟩
      rw [← hx] at et hx0 hx1 htk
      obtain ⟨r, hr⟩ : ∃ r, r = foldC r0 (t.take j) := ⟨_, rfl⟩
      have hfs : foldC r0 (t.take (j + 1)) = r * 64 + (x - 128) := by rw [htk, foldC_snoc, hr]
      rw [← hr] at hp hq ⊢
      have hcx : isCont x = false → (t.take (n - 1)).all isCont = false := fun hcx => by
        rw [← Bool.not_eq_true, List.all_eq_true]
        intro h
        have := h x (by rw [hx]; exact List.mem_of_getElem? (i := j) (by rw [List.getElem?_take]; simp [hlt, hjt]))
        rw [hcx] at this; cases this
      have hal2 : isCont x = true → (t.take (j + 1)).all isCont = true := fun hcx => by rw [htk, List.all_append, hall]; simp [hcx]
      have HCX := Sp.hid hcx
      have HAL2 := Sp.hid hal2
      have HFS := Sp.hid hfs
      have HQ := Sp.hid hq
      clear hx hr hcx hal2 hfs htk hall hq
      by_cases x1 : x < 128
      · have hv := HN.out (fun h => by have := HCX.out (by unfold isCont; simp; omega); rw [h.2.2.1] at this; cases this)
        have HV := Sp.hid hv
        clear hv HN HS
        go_wp2
        go_ret3
        exact ⟨by rw [HV.out]; rfl, Below.refl _ _⟩
      by_cases x2 : 191 < x
      · have hv := HN.out (fun h => by have := HCX.out (by unfold isCont; simp; omega); rw [h.2.2.1] at this; cases this)
        have HV := Sp.hid hv
        clear hv HN HS
        go_wp2
        go_ret3
        exact ⟨by rw [HV.out]; rfl, Below.refl _ _⟩
      have hj2 : j ≤ 2 := by omega
      have hr3 : r < 524288 := by
        have := HQ.out
        have : j = 0 ∨ j = 1 ∨ j = 2 := by omega
        rcases this with rfl | rfl | rfl <;> simp at * <;> omega
      have hor := or6 r x hp hr3 (by omega) (by omega)
      have HOR := Sp.hid hor
      clear hor
      go_wp2
      go_round
      case rel =>
        have hcx : isCont x = true := by unfold isCont; simp; omega
        have hq2 := HQ.out
        have : (64 : Int) ^ (j + 1) = 64 ^ j * 64 := Int.pow_succ ..
        refine ⟨j + 1, by omega, by go_num, by rw [HFS.out], HAL2.out hcx, by rw [HFS.out]; omega, ?_⟩
        rw [HFS.out]; omega
      case measure => simp [intOf]; omega
    · obtain rfl : j = n - 1 := by omega
      obtain ⟨r, hr⟩ : ∃ r, r = foldC r0 (t.take (n - 1)) := ⟨_, rfl⟩
      rw [← hr] at hp HN HS ⊢
      have hsz := size_any r w
      have HSZ := Sp.hid hsz
      have HIS := Sp.hid (is_any r w HSP.out)
      obtain ⟨z, hz⟩ : ∃ z, z = sizeOf_ r := ⟨_, rfl⟩
      rw [← hz] at HSZ HN HS
      obtain ⟨ic, hic⟩ : ∃ ic, ic = isChar r := ⟨_, rfl⟩
      rw [← hic] at HIS HN HS
      have HALL := Sp.hid hall
      clear hsz hz hic hr hall hq
      by_cases hzn : z = n
      · subst hzn
        cases ic
        · have hv := HN.out (by simp)
          have HV := Sp.hid hv
          clear hv HN HS
          go_wp2_with fail
          refine HSZ.out.mono ?_
          rintro e w2 ⟨rfl, rfl⟩
          go_wp2_with fail
          refine HIS.out.mono ?_
          rintro e w3 ⟨rfl, hb3⟩
          have HB3 := Sp.hid hb3
          clear hb3
          go_wp2
          go_ret3
          exact ⟨by rw [HV.out]; rfl, HB3.out⟩
        · have hv := HS.out ⟨h0, by omega, HALL.out, rfl, rfl⟩
          have HV := Sp.hid hv
          clear hv HN HS
          go_wp2_with fail
          refine HSZ.out.mono ?_
          rintro e w2 ⟨rfl, rfl⟩
          go_wp2_with fail
          refine HIS.out.mono ?_
          rintro e w3 ⟨rfl, hb3⟩
          have HB3 := Sp.hid hb3
          clear hb3
          go_wp2
          go_ret3
          exact ⟨by rw [HV.out]; rfl, HB3.out⟩
      · have hv := HN.out (fun h => hzn h.2.2.2.1)
        have HV := Sp.hid hv
        have hzb : ((z : Int) != (n : Int)) = true := by simp; omega
        clear hv HN HS
        go_wp2_with fail
        refine HSZ.out.mono ?_
        rintro e w2 ⟨rfl, rfl⟩
        go_wp2
        go_ret3
        exact ⟨by rw [HV.out]; rfl, Below.refl _ _⟩

end Go.Proofs.YtoknglpfchjbjaaDoor
