/- KeysOnce returns true: its walk. Conditions: the arguments read as entries. -/
import Derived.Test.YtbhdkionphemdaaKeysAwake
import Derived.Test.YtbhdkionphemdaaKeysPlainB
import Derived.Test.YtbhdkionphemdaaKeysOwn
namespace Go.Proofs.Ytbhdkionphemdaa
open Go.RowKit Go.Sp Go.Maps

abbrev tookM (view source : List Ent) : List (Option Nat) := alignM (source.map Ent.lk) (List.range source.length) (view.map Ent.lk)

theorem took_length (view source : List Ent) : (tookM view source).length = view.length := by simp [tookM, alignM_length]
theorem took_lt {view source : List Ent} {k p : Nat} (h : (tookM view source)[k]? = some (some p)) : p < source.length := by
  have := (align_some h).1
  simpa using this
theorem took_match {view source : List Ent} {k p : Nat} (h : (tookM view source)[k]? = some (some p)) (hk : k < view.length) (hp : p < source.length) : entMatch source[p] view[k] = true := by
  obtain ⟨_, l, h1, h2⟩ := align_some h
  rw [entMatch_iff]
  simp only [List.getElem?_map, List.getElem?_eq_getElem hk, List.getElem?_eq_getElem hp, Option.map_some, Option.some.injEq] at h1 h2
  rw [h1, h2]
theorem took_once {view source : List Ent} {k p : Nat} (h : (tookM view source)[k]? = some (some p)) : ((tookM view source).take k).contains (some p) = false := by
  rw [Bool.eq_false_iff]
  intro hc
  rw [List.contains_iff_mem] at hc
  obtain ⟨i, hi, he⟩ := List.getElem_of_mem hc
  rw [List.getElem_take] at he
  have hik : i < k := by simp at hi; omega
  have hil : i < (tookM view source).length := by simp at hi; omega
  exact align_once List.nodup_range (by rw [List.getElem?_eq_getElem hil, he]) hik h
theorem took_count (view source : List Ent) : ((tookM view source).filter Option.isSome).length + (leftTo (tookM view source) source.length).length = source.length := by
  have := align_count (src := source.map Ent.lk) (ks := view.map Ent.lk) (rem := List.range source.length)
  rw [leftTo_eq] at this
  simpa using this
theorem left_lt {view source : List Ent} {q : Nat} (h : q ∈ leftTo (tookM view source) source.length) : q < source.length := by
  have := (List.mem_filter.1 h).1
  simpa using this
theorem left_none {view source : List Ent} {k q : Nat} (h : (tookM view source)[k]? = some none) (hq : q ∈ leftTo (tookM view source) source.length) (hk : k < view.length) (hql : q < source.length) : entMatch source[q] view[k] = false := by
  rw [← leftTo_eq] at hq
  have h1 := align_none h (k := view[k].lk) (by simp [hk]) q hq
  rw [Bool.eq_false_iff]
  intro hm
  rw [entMatch_iff] at hm
  apply h1
  simp [hql, hm]

theorem some_next {took : List (Option Nat)} {k : Nat} (hk : k < took.length) {p : Nat} (h : took[k] = some p) : ((took.take (k + 1)).filter Option.isSome).length = ((took.take k).filter Option.isSome).length + 1 := by
  rw [List.take_succ_eq_append_getElem hk, List.filter_append, h]
  simp
theorem none_next {took : List (Option Nat)} {k : Nat} (hk : k < took.length) (h : took[k] = none) : ((took.take (k + 1)).filter Option.isSome).length = ((took.take k).filter Option.isSome).length := by
  rw [List.take_succ_eq_append_getElem hk, List.filter_append, h]
  simp

theorem marks_alloc (w : World) : (w.alloc (.cells (Array.replicate 40 (Value.bool false)) 40)).ownsRow w.heap.size 40 1 (.slice (some ⟨w.heap.size, 0, none⟩) 40 40) 40 (marks [] 40) :=
  ⟨by simp [marks], .inr ⟨w.heap.size, 40, Array.replicate 40 (Value.bool false), rfl, Nat.le_refl _, heap_alloc_new _ _, Nat.le_refl _, by decide, by simp, by rfl⟩⟩
theorem ownsRow_below {w w' : World} {base B : Nat} {e : TypeId} {size : Nat} {v : Value} {n : Nat} {xs : List Value} (h : w.ownsRow base e size v n xs) (hb : Below B w w') (hB : ∀ g, v.ownBlock = some g → g < B) : w'.ownsRow base e size v n xs := by
  refine ⟨h.1, ?_⟩
  rcases h.2 with hn | ⟨g, cap, cur, hv, hba, hg, rest⟩
  · exact .inl hn
  · exact .inr ⟨g, cap, cur, hv, hba, by rw [hb.block g (hB g (by rw [hv]; rfl))]; exact hg, rest⟩

set_option maxRecDepth 100000 in
set_option maxHeartbeats 2000000 in
theorem once_walk (va sa : Option Addr) (vc sc : Nat) (view source : List Ent) (w : World) (hv : Sl entS (· < w.heap.size) w va view) (hs : Sl entS (· < w.heap.size) w sa source)
    (hvl : view.length ≤ 9223372036854775807) (hsl : source.length ≤ 9223372036854775807) :
    Calls Try.prog 5 #[.slice va view.length vc, .slice sa source.length sc] w (IsBool true w) := by
  have HV := Sp.hid hv
  have HS := Sp.hid hs
  clear hv hs
  by_cases hn4 : (40 : Int) < view.length
  · go_enter Try.func5, Try.ntmps5
    go_wp2_with (go_at_call 9; refine (awake_any _).mono ?_; rintro e w2 ⟨rfl, hb2⟩; have HB2 := Sp.hid hb2; clear hb2)
    go_ret
    exact ⟨rfl, HB2.out⟩
  by_cases hm4 : (40 : Int) < source.length
  · go_enter Try.func5, Try.ntmps5
    go_wp2_with (go_at_call 9; refine (awake_any _).mono ?_; rintro e w2 ⟨rfl, hb2⟩; have HB2 := Sp.hid hb2; clear hb2)
    go_ret
    exact ⟨rfl, HB2.out⟩
  have HA := Sp.hid (Align_any va sa vc sc view source w HV.out HS.out (by omega) (by omega))
  go_enter Try.func5, Try.ntmps5
  go_wp2_with fail
  refine HA.out.mono ?_
  rintro e w1 ⟨xa, xc, rfl, hxc, hxs, hb1⟩
  have hs1 := hb1.size
  have HL := Sp.hid (Left_any va sa vc sc view source w1 ((HV.out.below (fun _ h => h) hb1).mono (fun k hk => by omega)) ((HS.out.below (fun _ h => h) hb1).mono (fun k hk => by omega)) (by omega) (by omega))
  have HX := Sp.hid hxs
  have HB1 := Sp.hid hb1
  clear hxs hb1 HA
  go_wp2_with fail
  refine HL.out.mono ?_
  rintro e w2 ⟨ya, yc, rfl, hys, hb2⟩
  have hs2 := hb2.size
  obtain ⟨took, htk⟩ : ∃ took, took = tookM view source := ⟨_, rfl⟩
  have hx2 := HX.out.below (fun k hk => hk.2) hb2
  rw [show alignM (source.map Ent.lk) (List.range source.length) (view.map Ent.lk) = took from htk.symm] at hys hx2
  obtain ⟨left, hlf⟩ : ∃ left, left = leftTo took source.length := ⟨_, rfl⟩
  rw [show alignM (source.map Ent.lk) (List.range source.length) (view.map Ent.lk) = took from htk.symm, ← hlf]
  rw [← hlf] at hys
  have hv2 : Sl entS (· < w.heap.size) w2 va view := (HV.out.below (fun _ h => h) HB1.out).below (fun _ h => by omega) hb2
  have hs2' : Sl entS (· < w.heap.size) w2 sa source := (HS.out.below (fun _ h => h) HB1.out).below (fun _ h => by omega) hb2
  have htl : took.length = view.length := by rw [htk, took_length]
  have hlc : left.length ≤ source.length := by have := took_count view source; rw [← htk, ← hlf] at this; omega
  have hcnt := took_count view source
  rw [← htk, ← hlf] at hcnt
  have hb12 : Below w.heap.size w w2 := HB1.out.trans (hb2.mono hs1)
  have HCNT := Sp.hid hcnt
  have HTL := Sp.hid htl
  have HTK := Sp.hid htk
  have HLF := Sp.hid hlf
  have HV2 := Sp.hid hv2
  have HS2 := Sp.hid hs2'
  have HY := Sp.hid hys
  have HX2 := Sp.hid hx2
  have HB := Sp.hid hb12
  clear htk hlf hv2 hs2' hys hx2 hb2 HL HX HB1 hb12 htl hcnt HV HS
  have hxl : (took.map encO).length = view.length := by rw [List.length_map]; exact HTL.out
  have HXL := Sp.hid hxl
  clear hxl
  have hrow := marks_alloc w2
  have HROW := Sp.hid hrow
  clear hrow
  go_wp2
  go_loopw [8, 9] (fun n i wr => ∃ k : Nat, k ≤ view.length ∧ i = .int .i64 k ∧ n = .int .i64 ((took.take k).filter Option.isSome).length ∧ wr.ownsRow w2.heap.size 40 1 (.slice (some ⟨w2.heap.size, 0, none⟩) 40 40) 40 (marks (took.take k) 40) ∧ Below w2.heap.size w2 wr) (fun _ i _ => view.length - (intOf i).toNat)
  case atStart => exact ⟨0, by omega, rfl, rfl, HROW.out, (Below.refl _ _).alloc (Nat.le_refl _) _⟩
  case round =>
    obtain ⟨k, hk, rfl, rfl, hown, hb⟩ := hrel
    have HOWN := Sp.hid hown
    have HBW := Sp.hid hb
    have hszw := hb.size
    have hblt : w2.heap.size < wr.heap.size := (hown.lt w2.heap.size rfl).2
    clear hown hb HROW
    by_cases hlt : k < view.length
    · have hlt2 : k < took.length := by rw [HTL.out]; exact hlt
      obtain ⟨bx, ox, rfl, fx, ex⟩ := HX2.out.int_cell k (by simpa using hlt2)
      have cx : wr.cell? ⟨bx, ox + k, none⟩ = some (.int .i64 (encO took[k])) := by rw [HBW.out.cell (p := ⟨bx, _, none⟩) (by show bx < _; omega)]; simpa using ex
      obtain ⟨bv, ov, rfl, hbv, hvsz, v1, v2, v3⟩ := ent_cells HV2.out k hlt
      obtain ⟨ev, hev⟩ : ∃ ev, ev = view[k] := ⟨_, rfl⟩
      rw [← hev] at v1 v2 v3 hvsz
      have cv2 : wr.cell? ⟨bv, ov + k * 3 + 1, none⟩ = some (.bool ev.has) := by rw [HBW.out.cell (p := ⟨bv, _, none⟩) (by show bv < _; omega)]; exact v2
      have cv3 : wr.cell? ⟨bv, ov + k * 3 + 2, none⟩ = some (.string ev.key) := by rw [HBW.out.cell (p := ⟨bv, _, none⟩) (by show bv < _; omega)]; exact v3
      have HEV := Sp.hid hev
      clear ex v1 v2 v3 hev
      cases hp : took[k] with
      | none =>
        have hpk : (tookM view source)[k]? = some none := by rw [← HTK.out, List.getElem?_eq_getElem hlt2, hp]
        have hnn := none_next hlt2 hp
        rw [hp] at cx
        simp only [encO] at cx
        have HPK := Sp.hid hpk
        have HNN := Sp.hid hnn
        have HP := Sp.hid hp
        clear hpk hnn hp
        obtain ⟨wo, rfl⟩ : ∃ wo : World, wo = wr := ⟨_, rfl⟩
        go_wp2
        go_loopw [10] (fun j wr => ∃ q : Nat, q ≤ left.length ∧ j = .int .i64 q ∧ Below wo.heap.size wo wr) (fun j _ => left.length - (intOf j).toNat)
        case atStart => exact ⟨0, by omega, rfl, Below.refl _ _⟩
        case round =>
          obtain ⟨q, hq, rfl, hb3⟩ := hrel
          have hsz3 := hb3.size
          by_cases hql : q < left.length
          · obtain ⟨by_, oy, rfl, fy, ey⟩ := HY.out.int_cell q (by simpa using hql)
            obtain ⟨p, hpq⟩ : ∃ p, p = left[q] := ⟨_, rfl⟩
            have hpm : p ∈ leftTo (tookM view source) source.length := by rw [← HTK.out, ← HLF.out, hpq]; exact List.getElem_mem _
            have hps : p < source.length := left_lt hpm
            have hmm : entMatch source[p] ev = false := by rw [HEV.out]; exact left_none HPK.out hpm hlt hps
            have cy : wr.cell? ⟨by_, oy + q, none⟩ = some (.int .i64 (p : Nat)) := by rw [hb3.cell (p := ⟨by_, _, none⟩) (by show by_ < _; omega), HBW.out.cell (p := ⟨by_, _, none⟩) (by show by_ < _; omega)]; rw [hpq]; simpa using ey
            obtain ⟨bs, os, rfl, hbs, hssz, s1, s2, s3⟩ := ent_cells HS2.out p hps
            obtain ⟨es, hes⟩ : ∃ es, es = source[p] := ⟨_, rfl⟩
            rw [← hes] at s1 s2 s3 hssz hmm
            have hcs : ∀ o, wr.cell? ⟨bs, o, none⟩ = w2.cell? ⟨bs, o, none⟩ := fun o => by rw [hb3.cell (p := ⟨bs, _, none⟩) (by show bs < _; omega), HBW.out.cell (p := ⟨bs, _, none⟩) (by show bs < _; omega)]
            rw [← hcs] at s1 s2 s3
            have dv2 : wr.cell? ⟨bv, ov + k * 3 + 1, none⟩ = some (.bool ev.has) := by rw [hb3.cell (p := ⟨bv, _, none⟩) (by show bv < _; omega)]; exact cv2
            have dv3 : wr.cell? ⟨bv, ov + k * 3 + 2, none⟩ = some (.string ev.key) := by rw [hb3.cell (p := ⟨bv, _, none⟩) (by show bv < _; omega)]; exact cv3
            have hbvw : bv < wr.heap.size := by omega
            have HB3 := Sp.hid hb3
            unfold entMatch at hmm
            have HMM := Sp.hid hmm
            clear hpq hpm hes hcs ey hb3 hmm
            have hkv : ((k : Int) < (view.length : Int)) := by omega
            cases hh1 : es.has <;> cases hh2 : ev.has
            all_goals
              rw [hh1] at s2
              rw [hh2] at dv2
              have hmm := HMM.out
              rw [hh1, hh2] at hmm
              have H1 := Sp.hid hh1
              have H2 := Sp.hid hh2
              clear hh1 hh2 HMM
            · exact absurd hmm (by simp)
            · clear hmm
              go_wp2_with fail
              go_quiet (fail)
              go_wp2
              go_roundw
              case rel => exact ⟨q + 1, by omega, by go_num, below_drewN (HB3.out.alloc HB3.out.size _) _⟩
              case measure => simp [intOf]; omega
            · clear hmm
              go_wp2_with fail
              go_quiet (fail)
              go_wp2
              go_roundw
              case rel => exact ⟨q + 1, by omega, by go_num, below_drewN (HB3.out.alloc HB3.out.size _) _⟩
              case measure => simp [intOf]; omega
            · have hkey : (es.key.toList == ev.key.toList) = false := by simpa using hmm
              clear hmm
              go_wp2_with fail
              go_quiet (fail)
              go_wp2
              go_roundw
              case rel => exact ⟨q + 1, by omega, by go_num, below_drewN (HB3.out.alloc HB3.out.size _) _⟩
              case measure => simp [intOf]; omega
          · obtain rfl : q = left.length := by omega
            have HB3 := Sp.hid hb3
            clear hb3
            go_wp2
            go_roundw
            case rel => exact ⟨k + 1, by omega, by go_num, by rw [HNN.out], by rw [List.take_succ_eq_append_getElem hlt2, HP.out, marks_none]; exact ownsRow_below HOWN.out HB3.out (fun g hg => by cases hg; exact hblt), HBW.out.trans (HB3.out.mono hszw)⟩
            case measure => simp [intOf]; omega
      | some p =>
        have hpk : (tookM view source)[k]? = some (some p) := by rw [← HTK.out, List.getElem?_eq_getElem hlt2, hp]
        have hps : p < source.length := took_lt hpk
        have hsn := some_next hlt2 hp
        have hmm : entMatch source[p] ev = true := by rw [HEV.out]; exact took_match hpk hlt hps
        have hon : (took.take k).contains (some p) = false := by rw [HTK.out]; exact took_once hpk
        rw [hp] at cx
        simp only [encO] at cx
        have ct : wr.cell? ⟨w2.heap.size, p, none⟩ = some (.bool false) := by rw [HOWN.out.cellAt p (by omega), marks_get _ _ _ (by omega), hon]
        have ft : wr.frozen? ⟨w2.heap.size, p, none⟩ = false := HOWN.out.frozenAt p
        obtain ⟨bs, os, rfl, hbs, hssz, s1, s2, s3⟩ := ent_cells HS2.out p hps
        obtain ⟨es, hes⟩ : ∃ es, es = source[p] := ⟨_, rfl⟩
        rw [← hes] at s1 s2 s3 hssz hmm
        have hcs : ∀ o, wr.cell? ⟨bs, o, none⟩ = w2.cell? ⟨bs, o, none⟩ := fun o => by rw [HBW.out.cell (p := ⟨bs, _, none⟩) (by show bs < _; omega)]
        rw [← hcs] at s1 s2 s3
        have hnx : marks (took.take (k + 1)) 40 = (marks (took.take k) 40).set p (.bool true) := by rw [List.take_succ_eq_append_getElem hlt2, hp, marks_some _ _ _ (by omega)]
        have hcn : ((took.take (k + 1)).filter Option.isSome).length ≤ k + 1 := Nat.le_trans (List.length_filter_le _ _) (by simp; omega)
        unfold entMatch at hmm
        have HPK := Sp.hid hpk
        have HSN := Sp.hid hsn
        have HP := Sp.hid hp
        have HMM := Sp.hid hmm
        have HNX := Sp.hid hnx
        clear hpk hsn hp hon hes hcs hmm hnx
        have hcb : ((took.take k).filter Option.isSome).length + 1 ≤ k + 1 := by rw [HSN.out] at hcn; exact hcn
        obtain ⟨cnt, hcnt⟩ : ∃ cnt, cnt = ((took.take k).filter Option.isSome).length := ⟨_, rfl⟩
        rw [← hcnt] at hcb HSN ⊢
        clear hcnt hcn
        have hpi : ((p : Int) < (source.length : Int)) := by omega
        have hbxw : bx < wr.heap.size := by omega
        have hbvw : bv < wr.heap.size := by omega
        have hkv : ((k : Int) < (view.length : Int)) := by omega
        cases hh1 : es.has <;> cases hh2 : ev.has
        all_goals
          rw [hh1] at s2
          rw [hh2] at cv2
          have hmm := HMM.out
          rw [hh1, hh2] at hmm
          have H1 := Sp.hid hh1
          have H2 := Sp.hid hh2
          clear hh1 hh2 HMM
        · clear hmm
          go_wp2_with fail
          go_quiet (fail)
          go_wp2
          go_roundw
          case rel => exact ⟨k + 1, by omega, by go_num, by rw [HSN.out]; go_num, by rw [HNX.out]; exact ((ownsRow_below HOWN.out (below_drewN ((Below.refl _ _).alloc (Nat.le_refl _) _) _) (fun g hg => by cases hg; exact hblt)).stored p (.bool true)).1, (below_drewN (HBW.out.alloc HBW.out.size _) _).setCell (Nat.le_refl _) _⟩
          case measure => simp [intOf]; omega
        · exact absurd hmm (by simp)
        · exact absurd hmm (by simp)
        · have hkey : (es.key.toList == ev.key.toList) = true := by simpa using hmm
          clear hmm
          go_wp2_with fail
          go_quiet (fail)
          go_wp2
          go_roundw
          case rel => exact ⟨k + 1, by omega, by go_num, by rw [HSN.out]; go_num, by rw [HNX.out]; exact ((ownsRow_below HOWN.out (below_drewN ((Below.refl _ _).alloc (Nat.le_refl _) _) _) (fun g hg => by cases hg; exact hblt)).stored p (.bool true)).1, (below_drewN (HBW.out.alloc HBW.out.size _) _).setCell (Nat.le_refl _) _⟩
          case measure => simp [intOf]; omega
    · obtain rfl : k = view.length := by omega
      have hcn : ((took.take view.length).filter Option.isSome).length + left.length = source.length := by rw [← HTL.out, List.take_length]; exact HCNT.out
      obtain ⟨cnt, hcnt⟩ : ∃ cnt, cnt = ((took.take view.length).filter Option.isSome).length := ⟨_, rfl⟩
      rw [← hcnt] at hcn ⊢
      have hsum : ((cnt : Int) + (left.length : Int) == (source.length : Int)) = true := by rw [beq_iff_eq]; omega
      have hc1 : cnt ≤ 40 := by omega
      have HCN := Sp.hid hcn
      clear hcnt hcn
      go_wp2_with (go_at_call 9; refine (awake_any _).mono ?_; rintro e w7 ⟨rfl, hb7⟩; have HB7 := Sp.hid hb7; clear hb7)
      go_ret
      exact ⟨rfl, (HB.out.trans (HBW.out.mono (by omega))).trans (HB7.out.mono (by omega))⟩

end Go.Proofs.Ytbhdkionphemdaa
