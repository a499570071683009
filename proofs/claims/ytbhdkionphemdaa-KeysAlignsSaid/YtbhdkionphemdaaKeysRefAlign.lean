/- The document's answer over keys: Align: what the call returns. Conditions: at most 1000 entries. -/
import Derived.Test.YtbhdkionphemdaaKeysRef
import Derived.Test.YtbhdkionphemdaaKeysPlainB
namespace Go.Proofs.Ytbhdkionphemdaa
open Go.RowKit Go.Sp Go.Maps

/-- The first place below j that is free and matches. -/
def firstTo (src : List Lk) (took : List (Option Nat)) (key : Lk) (j : Nat) : Option Nat := (List.range j).find? fun q => !took.contains (some q) && decide (src[q]? = some key)

theorem firstTo_succ (src : List Lk) (took : List (Option Nat)) (key : Lk) (j : Nat) : firstTo src took key (j + 1) = (firstTo src took key j).or (if !took.contains (some j) && decide (src[j]? = some key) then some j else none) := by
  unfold firstTo
  rw [List.range_succ, List.find?_append]
  congr 1
  rw [List.find?_cons]
  cases h : (!took.contains (some j) && decide (src[j]? = some key)) <;> simp
theorem firstTo_more (src : List Lk) (took : List (Option Nat)) (key : Lk) {q : Nat} : ∀ (d j : Nat), firstTo src took key j = some q → firstTo src took key (j + d) = some q
  | 0, _, h => h
  | d + 1, j, h => by rw [show j + (d + 1) = j + d + 1 from rfl, firstTo_succ, firstTo_more src took key d j h]; rfl
theorem firstTo_to {src : List Lk} {took : List (Option Nat)} {key : Lk} {q j m : Nat} (h : firstTo src took key j = some q) (hj : j ≤ m) : firstTo src took key m = some q := by
  have := firstTo_more src took key (m - j) j h
  rwa [show j + (m - j) = m from by omega] at this
theorem firstTo_lt {src : List Lk} {took : List (Option Nat)} {key : Lk} {q j : Nat} (h : firstTo src took key j = some q) : q < j := by
  have := List.mem_of_find?_eq_some h
  simpa using this

theorem alignM_take (src : List Lk) : ∀ (ks : List Lk) (rem : List Nat) (k : Nat), (alignM src rem ks).take k = alignM src rem (ks.take k)
  | [], _, k => by cases k <;> rfl
  | _ :: _, _, 0 => rfl
  | x :: ks, rem, k + 1 => by simp only [alignM, List.take_succ_cons, alignM_take src ks]
theorem alignM_get (src : List Lk) : ∀ (ks : List Lk) (rem : List Nat) (k : Nat), (alignM src rem ks)[k]? = (ks[k]?).map fun key => takeM src (leftM src rem (ks.take k)) key
  | [], _, k => by simp [alignM]
  | x :: ks, rem, 0 => by simp [alignM, leftM]
  | x :: ks, rem, k + 1 => by
    simp only [alignM, List.getElem?_cons_succ, List.take_succ_cons, leftM]
    exact alignM_get src ks _ k

theorem first_all (src ks : List Lk) (m k : Nat) (hk : k < ks.length) (hk2 : k < (alignM src (List.range m) ks).length) : (alignM src (List.range m) ks)[k] = firstTo src ((alignM src (List.range m) ks).take k) ks[k] m := by
  have h := alignM_get src ks (List.range m) k
  rw [List.getElem?_eq_getElem hk2, List.getElem?_eq_getElem hk, Option.map_some, Option.some.injEq] at h
  rw [h, alignM_take]
  unfold takeM firstTo
  rw [leftM_eq List.nodup_range, List.find?_filter]
  congr 1
  funext a
  simp

theorem cont_next {took : List (Option Nat)} {t j : Nat} (ht : t < took.length) : (took.take (t + 1)).contains (some j) = ((took.take t).contains (some j) || decide (took[t] = some j)) := by
  rw [List.take_succ_eq_append_getElem ht, Bool.eq_iff_iff]
  simp only [List.contains_iff_mem, List.mem_append, List.mem_singleton, Bool.or_eq_true, decide_eq_true_eq]
  exact or_congr Iff.rfl eq_comm

theorem encO_ne {o : Option Nat} {j : Nat} : (encO o != (j : Int)) = !decide (o = some j) := by
  cases o with
  | none => simp [encO]
  | some q => by_cases h : q = j <;> simp [encO, h]; omega

set_option maxRecDepth 100000 in
set_option maxHeartbeats 2000000 in
theorem refAlign_any (F G : Nat → Prop) (va sa : Option Addr) (vc sc : Nat) (view source : List Ent) (w : World) (hv : Sl refS F w va view) (hs : Sl refS G w sa source) (hF : ∀ k, F k → k < w.heap.size) (hG : ∀ k, G k → k < w.heap.size) (hvl : view.length ≤ 1000) (hsl : source.length ≤ 1000) :
    Calls Try.prog 14 #[.slice va view.length vc, .slice sa source.length sc] w fun e w' => ∃ a cap, e = .returned (.slice a view.length cap) ∧
      Sl (Shape.int .i64) (fun b => w.heap.size ≤ b ∧ b < w'.heap.size) w' a ((alignM (source.map Ent.lk) (List.range source.length) (view.map Ent.lk)).map encO) ∧ Below w.heap.size w w' := by
  obtain ⟨j0, hj0, hy0, hy1, hy2⟩ := info_parts infoInt
  obtain ⟨took, htk⟩ : ∃ took, took = alignM (source.map Ent.lk) (List.range source.length) (view.map Ent.lk) := ⟨_, rfl⟩
  rw [← htk]
  have htl : took.length = view.length := by rw [htk, alignM_length]; simp
  have hfirst : ∀ k (hk : k < view.length) (hk2 : k < took.length), took[k] = firstTo (source.map Ent.lk) (took.take k) view[k].lk source.length := fun k hk hk2 => by
    subst htk
    have := first_all (source.map Ent.lk) (view.map Ent.lk) source.length k (by simpa using hk) hk2
    simpa using this
  have HTL := Sp.hid htl
  have HFI := Sp.hid hfirst
  have HV := Sp.hid hv
  have HS := Sp.hid hs
  have HF := Sp.hid hF
  have HGG := Sp.hid hG
  clear htk htl hfirst hv hs hF hG
  go_enter Try.func14, Try.ntmps14
  go_wp2
  go_loopw [5, 6] (fun v i wr => ∃ k : Nat, k ≤ view.length ∧ i = .int .i64 k ∧ wr.ownsRow w.heap.size 3 1 v k (((took.take k).map encO).map (Value.int .i64)) ∧ Below w.heap.size w wr) (fun _ i _ => view.length - (intOf i).toNat)
  case atStart => exact ⟨0, by omega, rfl, World.ownsRow_nil _ _ _ _, Below.refl _ _⟩
  case round =>
    obtain ⟨wo, rfl⟩ : ∃ wo : World, wo = wr := ⟨_, rfl⟩
    obtain ⟨k, hk, rfl, hown, hb⟩ := hrel
    have hszw := hb.size
    have HB := Sp.hid hb
    by_cases hlt : k < view.length
    · have hlt2 : k < took.length := by rw [HTL.out]; exact hlt
      have HO := Sp.hid hown
      obtain ⟨oa, oc, rfl, z1, z2, z3, z4, hosl⟩ := own_ints hown
      clear z1 z2 z3 z4
      have HOS := Sp.hid hosl
      obtain ⟨key, hkey⟩ : ∃ key, key = view[k].lk := ⟨_, rfl⟩
      have HKEY := Sp.hid hkey
      have htl1 : ((took.take k).map encO).length = k := by simp; omega
      have HTL1 := Sp.hid htl1
      clear hown hb hosl hkey htl1
      go_wp2
      go_loopw [7, 8] (fun a i wr => ∃ j : Nat, j ≤ source.length ∧ i = .int .i64 j ∧ a = .int .i64 (encO (firstTo (source.map Ent.lk) (took.take k) key j)) ∧ Below wo.heap.size wo wr) (fun _ i _ => source.length - (intOf i).toNat)
      case atStart => exact ⟨0, by omega, rfl, rfl, Below.refl _ _⟩
      case round =>
        obtain ⟨j, hj, rfl, rfl, hb2⟩ := hrel
        have HB2 := Sp.hid hb2
        have hsz2 := hb2.size
        clear hb2
        have how : wr.ownsRow w.heap.size 3 1 (.slice oa k oc) k (((took.take k).map encO).map (Value.int .i64)) := HO.out.kept (grown_below HB2.out) (by cases (Value.slice oa k oc).ownBlock <;> simp)
        have HOW := Sp.hid how
        clear how
        cases hf : firstTo (source.map Ent.lk) (took.take k) key j with
        | some q =>
          have hqj := firstTo_lt hf
          have hall := firstTo_to hf hj
          have hnext : (took.take (k + 1)).map encO = (took.take k).map encO ++ [((q : Nat) : Int)] := by
            rw [List.take_succ_eq_append_getElem hlt2, List.map_append, HFI.out k hlt hlt2, ← HKEY.out, hall]; rfl
          have HNX := Sp.hid hnext
          simp only [encO]
          clear hf hall hnext
          by_cases hj2 : j < source.length
          · go_wp2_with (at_builtin; refine wpList_append_own _ rfl _ _ 28 rfl w.heap.size 3 j0 (.int .i64 0) 1 8 Try.underlying28 hj0 hy0 hy1 hy2 rfl (by decide) _ _ _ rfl (HOW.out.alloc _) ⟨wr.heap.size, 0, none⟩ 1 1 [.int .i64 (q : Nat)] rfl rfl (cell_one_new _ _ _) (by intro u hu; simp at hu; subst hu; rfl) (by unfold maxLen; omega) (by omega) (by simp; omega) ?_)
            intro v' w4 hown' hgrow _
            have hb4 : Below w.heap.size w w4 := ((HB.out.trans (HB2.out.mono hszw)).alloc (by omega) _).grown hgrow (by simp; omega) (fun j hj => (HO.out.lt j hj).1)
            have ho4 : w4.ownsRow w.heap.size 3 1 v' (k + 1) (((took.take (k + 1)).map encO).map (Value.int .i64)) := by rw [HNX.out]; simpa using hown'
            have HO4 := Sp.hid ho4
            have HB4 := Sp.hid hb4
            clear hown' hgrow hb4 ho4
            go_wp2
            go_roundw
            case rel => exact ⟨k + 1, by omega, by go_num, HO4.out, HB4.out⟩
            case measure => simp [intOf]; omega
          · go_wp2_with (at_builtin; refine wpList_append_own _ rfl _ _ 28 rfl w.heap.size 3 j0 (.int .i64 0) 1 8 Try.underlying28 hj0 hy0 hy1 hy2 rfl (by decide) _ _ _ rfl (HOW.out.alloc _) ⟨wr.heap.size, 0, none⟩ 1 1 [.int .i64 (q : Nat)] rfl rfl (cell_one_new _ _ _) (by intro u hu; simp at hu; subst hu; rfl) (by unfold maxLen; omega) (by omega) (by simp; omega) ?_)
            intro v' w4 hown' hgrow _
            have hb4 : Below w.heap.size w w4 := ((HB.out.trans (HB2.out.mono hszw)).alloc (by omega) _).grown hgrow (by simp; omega) (fun j hj => (HO.out.lt j hj).1)
            have ho4 : w4.ownsRow w.heap.size 3 1 v' (k + 1) (((took.take (k + 1)).map encO).map (Value.int .i64)) := by rw [HNX.out]; simpa using hown'
            have HO4 := Sp.hid ho4
            have HB4 := Sp.hid hb4
            clear hown' hgrow hb4 ho4
            go_wp2
            go_roundw
            case rel => exact ⟨k + 1, by omega, by go_num, HO4.out, HB4.out⟩
            case measure => simp [intOf]; omega
        | none =>
          simp only [encO]
          by_cases hj2 : j < source.length
          · obtain ⟨mt, hmt⟩ : ∃ mt, mt = entMatch view[k] source[j] := ⟨_, rfl⟩
            have hsucc : firstTo (source.map Ent.lk) (took.take k) key (j + 1) = if (!(took.take k).contains (some j) && mt) = true then some j else none := by
              rw [firstTo_succ, hf, Option.none_or, hmt, HKEY.out]
              have : decide ((source.map Ent.lk)[j]? = some view[k].lk) = entMatch view[k] source[j] := by
                rw [Bool.eq_iff_iff, entMatch_iff]
                simp [List.getElem?_eq_getElem hj2, eq_comm]
              rw [this]
            have HSU := Sp.hid hsucc
            have HMT := Sp.hid hmt
            clear hf hsucc hmt
            obtain ⟨bv, ov, rfl, fv, vsz, v1, v2⟩ := ref_cells HV.out k hlt
            obtain ⟨bs, os, rfl, fs, ssz, s1, s2⟩ := ref_cells HS.out j hj2
            have hfv := HF.out _ fv
            have hfs := HGG.out _ fs
            have hwr : Below w.heap.size w wr := HB.out.trans (HB2.out.mono hszw)
            rw [← hwr.cell (p := ⟨bv, _, none⟩) hfv] at v1 v2
            rw [← hwr.cell (p := ⟨bs, _, none⟩) hfs] at s1 s2
            clear hwr
            obtain ⟨ev, hev⟩ : ∃ ev, ev = view[k] := ⟨_, rfl⟩
            obtain ⟨es, hes⟩ : ∃ es, es = source[j] := ⟨_, rfl⟩
            rw [← hev] at v1 v2
            rw [← hes] at s1 s2
            have HEV := Sp.hid hev
            have HES := Sp.hid hes
            clear hev hes vsz ssz
            go_wp2
            go_loop [9, 10] (fun f t => ∃ n : Nat, n ≤ k ∧ t = .int .i64 n ∧ f = .bool (!(took.take n).contains (some j))) (fun _ t => k - (intOf t).toNat)
            case atStart => exact ⟨0, by omega, rfl, rfl⟩
            case round =>
              obtain ⟨n, hn, rfl, rfl⟩ := hrel
              by_cases hnk : n < k
              · have hnt : n < took.length := by omega
                obtain ⟨bo, oo, rfl, fo, eo⟩ := HOS.out.int_cell n (by rw [HTL1.out]; exact hnk)
                rw [← HB2.out.cell (p := ⟨bo, _, none⟩) (by show bo < _; omega)] at eo
                have eo' : wr.cell? ⟨bo, oo + n, none⟩ = some (.int .i64 (encO took[n])) := by simpa using eo
                have hcn := cont_next (took := took) (t := n) (j := j) hnt
                have hen := encO_ne (o := took[n]) (j := j)
                obtain ⟨e, he⟩ : ∃ e, e = encO took[n] := ⟨_, rfl⟩
                rw [← he] at eo' hen
                have HCN := Sp.hid hcn
                have hbool : ∃ b, b = (took.take n).contains (some j) := ⟨_, rfl⟩
                obtain ⟨b, hbb⟩ := hbool
                rw [← hbb] at hcn ⊢
                have hdec : ∃ d, d = decide (took[n] = some j) := ⟨_, rfl⟩
                obtain ⟨d, hdd⟩ := hdec
                rw [← hdd] at hcn hen
                have HCC := Sp.hid hcn
                clear hcn hbb hdd he eo HCN
                cases b <;> cases d
                all_goals
                  go_wp2
                  go_round
                  case rel => exact ⟨n + 1, by omega, by go_num, by rw [HCC.out]; rfl⟩
                  case measure => simp [intOf]; omega
              · obtain rfl : n = k := by omega
                cases hc : (took.take n).contains (some j)
                · have HC := Sp.hid hc
                  clear hc
                  go_wp2
                  refine wp_region_facts (by kernel_rfl) [some 42, some 43, some 44, some 45, some 46, some 47, some 48, some 49, some 50, some 51, some 52, some 53]
                    [fun v _ => v = .bool true, fun v _ => v = .bool true, fun v _ => v = .slice (some ⟨bv, ov, none⟩) view.length vc, fun v _ => v = .int .i64 n, fun v _ => v = .pointer (some ⟨bv, ov + n * 2, none⟩), fun v _ => v = .agg #[.bool ev.has, .string ev.key],
                      fun v _ => v = .slice (some ⟨bs, os, none⟩) source.length sc, fun v _ => v = .int .i64 j, fun v _ => v = .pointer (some ⟨bs, os + j * 2, none⟩), fun v _ => v = .agg #[.bool es.has, .string es.key], fun v _ => v = .bool mt, fun v _ => v = .bool mt]
                    (fun w' => Below wr.heap.size wr w') (fun _ w w' => Below w.heap.size w w') rfl (by kernel_rfl) (by kernel_rfl) (by kernel_rfl) ?fr ?hfr ?G0 ?GR ?FR ?step ?fin
                  case hfr => intro u; simp only [Sp.fillFrom, Sp.idx_cons, Sp.idx_nil, Option.some.injEq, reduceCtorEq, reduceIte, Nat.reduceEqDiff, Nat.reduceAdd, Option.map_some, Option.map_none]; exact rfl
                  case G0 => exact (Below.refl _ _).drew
                  case GR => exact fun _ _ _ hG hR => hG.trans (hR.mono hG.size)
                  case FR => repeat (first | exact trivial | refine ⟨fun _ _ _ _ _ _ _ h => h, ?_⟩)
                  case step =>
                    refine ⟨?_, ?_, ?_, ?_, ?_, ?_, ?_, ?_, ?_, ?_, ?_, ?_, trivial⟩
                    all_goals
                      intro u w1 hG hD; simp only [Sp.DepsHold, Sp.factAt, Region.binds, List.getElem?_cons_zero, List.getElem?_cons_succ, List.getElem?_nil, Option.getD_some, Option.getD_none, and_true, true_and, true_implies, implies_true] at hD; dsimp only; generalize u 0 = u0 at *; generalize u 1 = u1 at *; generalize u 2 = u2 at *; generalize u 3 = u3 at *; generalize u 4 = u4 at *; generalize u 5 = u5 at *; generalize u 6 = u6 at *; generalize u 7 = u7 at *; generalize u 8 = u8 at *; generalize u 9 = u9 at *; generalize u 10 = u10 at *; generalize u 11 = u11 at *; clear u
                      have c1 : w1.cell? ⟨bv, ov + n * 2, none⟩ = some (.bool ev.has) := by rw [hG.cell (p := ⟨bv, _, none⟩) (by show bv < _; omega)]; exact v1
                      have c2 : w1.cell? ⟨bv, ov + n * 2 + 1, none⟩ = some (.string ev.key) := by rw [hG.cell (p := ⟨bv, _, none⟩) (by show bv < _; omega)]; exact v2
                      have c3 : w1.cell? ⟨bs, os + j * 2, none⟩ = some (.bool es.has) := by rw [hG.cell (p := ⟨bs, _, none⟩) (by show bs < _; omega)]; exact s1
                      have c4 : w1.cell? ⟨bs, os + j * 2 + 1, none⟩ = some (.string es.key) := by rw [hG.cell (p := ⟨bs, _, none⟩) (by show bs < _; omega)]; exact s2
                      have HG := Sp.hid hG
                      clear hG
                      first
                        | obtain ⟨rfl, rfl, rfl, _⟩ := hD
                        | obtain ⟨rfl, rfl, rfl⟩ := hD
                        | obtain ⟨rfl, rfl⟩ := hD
                        | obtain rfl := hD
                        | skip
                    all_goals first | (go_wp2; exact ⟨Below.refl _ _, _, rfl, rfl⟩) | skip
                    · go_wp2_with (go_at_call 22; refine (match_any ev es w1).mono ?_; rintro e w2 ⟨rfl, hb3⟩)
                      exact ⟨hb3, _, rfl, by show Value.bool (entMatch ev es) = Value.bool mt; rw [HMT.out, HEV.out, HES.out]⟩
                  case fin =>
                    intro u w1 hG hF; simp only [Sp.AllF, and_true] at hF; (try dsimp only); generalize u 0 = u0 at *; generalize u 1 = u1 at *; generalize u 2 = u2 at *; generalize u 3 = u3 at *; generalize u 4 = u4 at *; generalize u 5 = u5 at *; generalize u 6 = u6 at *; generalize u 7 = u7 at *; generalize u 8 = u8 at *; generalize u 9 = u9 at *; generalize u 10 = u10 at *; generalize u 11 = u11 at *; clear u
                    obtain ⟨rfl, rfl, rfl, rfl, rfl, rfl, rfl, rfl, rfl, rfl, rfl, rfl⟩ := hF
                    have hb3 : Below wo.heap.size wo w1 := HB2.out.trans (hG.mono hsz2)
                    have HB3 := Sp.hid hb3
                    clear hG hb3
                    cases mt
                    · go_wp2
                      go_roundw
                      case rel => exact ⟨j + 1, by omega, by go_num, by rw [HSU.out, HC.out]; rfl, HB3.out⟩
                      case measure => simp [intOf]; omega
                    · go_wp2
                      go_roundw
                      case rel => exact ⟨j + 1, by omega, by go_num, by rw [HSU.out, HC.out]; rfl, HB3.out⟩
                      case measure => simp [intOf]; omega
                · have HC := Sp.hid hc
                  clear hc
                  go_wp2_with fail
                  go_quiet (fail)
                  go_wp2
                  go_roundw
                  case rel => exact ⟨j + 1, by omega, by go_num, by rw [HSU.out, HC.out]; rfl, below_drewN HB2.out _⟩
                  case measure => simp [intOf]; omega
          · obtain rfl : j = source.length := by omega
            have hnext : (took.take (k + 1)).map encO = (took.take k).map encO ++ [(-1 : Int)] := by
              rw [List.take_succ_eq_append_getElem hlt2, List.map_append, HFI.out k hlt hlt2, ← HKEY.out, hf]; rfl
            have HNX := Sp.hid hnext
            clear hf hnext
            go_wp2_with (at_builtin; refine wpList_append_own _ rfl _ _ 28 rfl w.heap.size 3 j0 (.int .i64 0) 1 8 Try.underlying28 hj0 hy0 hy1 hy2 rfl (by decide) _ _ _ rfl (HOW.out.alloc _) ⟨wr.heap.size, 0, none⟩ 1 1 [.int .i64 (-1)] rfl rfl (cell_one_new _ _ _) (by intro u hu; simp at hu; subst hu; rfl) (by unfold maxLen; omega) (by omega) (by simp; omega) ?_)
            intro v' w4 hown' hgrow _
            have hb4 : Below w.heap.size w w4 := ((HB.out.trans (HB2.out.mono hszw)).alloc (by omega) _).grown hgrow (by simp; omega) (fun j hj => (HO.out.lt j hj).1)
            have ho4 : w4.ownsRow w.heap.size 3 1 v' (k + 1) (((took.take (k + 1)).map encO).map (Value.int .i64)) := by rw [HNX.out]; simpa using hown'
            have HO4 := Sp.hid ho4
            have HB4 := Sp.hid hb4
            clear hown' hgrow hb4 ho4
            go_wp2
            go_roundw
            case rel => exact ⟨k + 1, by omega, by go_num, HO4.out, HB4.out⟩
            case measure => simp [intOf]; omega
    · obtain rfl : k = view.length := by omega
      rw [← HTL.out, List.take_length, HTL.out] at hown
      obtain ⟨a, cap, rfl, z1, z2, z3, z4, hosl⟩ := own_ints hown
      clear z1 z2 z3 z4
      have HOS := Sp.hid hosl
      clear hown hosl hb
      go_wp2
      go_ret
      exact ⟨a, cap, rfl, HOS.out, HB.out⟩

end Go.Proofs.Ytbhdkionphemdaa
