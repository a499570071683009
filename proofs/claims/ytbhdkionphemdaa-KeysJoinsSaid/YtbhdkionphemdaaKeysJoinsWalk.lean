/- KeysJoins returns true: its walk. Conditions: the arguments read as entries. -/
import Derived.Test.YtbhdkionphemdaaKeysJoinsPlain
import Derived.Test.YtbhdkionphemdaaKeysAppend
namespace Go.Proofs.Ytbhdkionphemdaa
open Go.RowKit Go.Sp Go.Maps

theorem keys_small {F : Nat → Prop} {w : World} {a : Option Addr} {es : List Ent} (h : Sl entS F w a es) : ∀ x ∈ es, x.key.size ≤ maxLen := fun x hx => by
  obtain ⟨i, hi, rfl⟩ := List.getElem_of_mem hx
  obtain ⟨_, _, _, _, h3, _⟩ := ent_cells h i hi
  exact h3
theorem pick_small {source : List Ent} {left : List Nat} (hlt : ∀ p ∈ left, p < source.length) (h : ∀ x ∈ source, x.key.size ≤ maxLen) : ∀ x ∈ pickE source left, x.key.size ≤ maxLen := fun x hx => by
  obtain ⟨p, hp, rfl⟩ := List.mem_map.1 hx
  have := hlt p hp
  simp only [List.getD, List.getElem?_eq_getElem this, Option.getD_some]
  exact h _ (List.getElem_mem _)

theorem sl_take {α : Type} {S : Shape α} {F : Nat → Prop} {w : World} {a : Option Addr} {xs : List α} (h : Sl S F w a xs) (n : Nat) : Sl S F w a (xs.take n) := fun i hi => by
  have hi' : i < xs.length := by simp at hi; omega
  obtain ⟨b, o, vs, h1, h2, h3, h4⟩ := h i hi'
  exact ⟨b, o, vs, h1, h2, by rw [List.getElem_take]; exact h3, h4⟩

theorem pick_next (source : List Ent) {left : List Nat} {k : Nat} (hk : k < left.length) (hp : left[k] < source.length) : (pickE source (left.take (k + 1))).flatMap entCells = (pickE source (left.take k)).flatMap entCells ++ [.int .i64 source[left[k]].pl, .bool source[left[k]].has, .string source[left[k]].key] := by
  rw [List.take_succ_eq_append_getElem hk]
  unfold pickE
  rw [List.map_append, List.flatMap_append]
  congr 1
  simp [List.getD, List.getElem?_eq_getElem hp, entCells]

theorem all_at {v0 v1 source both : List Ent} {left : List Nat} (h : tookM both source = tookM v0 source ++ (tookM v1 (pickE source left)).map fun o => o.map fun q => left.getD q 0) (k : Nat) (hk : k < v1.length) (hk2 : v0.length + k < ((tookM both source).map encO).length) (hk3 : k < ((tookM v1 (pickE source left)).map encO).length) :
    (((tookM both source).map encO)[v0.length + k] = -1 ∧ ((tookM v1 (pickE source left)).map encO)[k] = -1) ∨ ∃ q, ∃ hq : q < left.length, ((tookM both source).map encO)[v0.length + k] = (left[q] : Nat) ∧ ((tookM v1 (pickE source left)).map encO)[k] = (q : Nat) := by
  have hl0 : (tookM v0 source).length = v0.length := took_length _ _
  have hl1 : (tookM v1 (pickE source left)).length = v1.length := took_length _ _
  have e1 : (tookM both source)[v0.length + k]? = (tookM v1 (pickE source left))[k]?.map fun o => o.map fun q => left.getD q 0 := by
    rw [h, List.getElem?_append_right (by omega), hl0, Nat.add_sub_cancel_left, List.getElem?_map]
  have hk4 : v0.length + k < (tookM both source).length := by simpa using hk2
  have hk5 : k < (tookM v1 (pickE source left)).length := by omega
  rw [List.getElem?_eq_getElem hk4, List.getElem?_eq_getElem hk5, Option.map_some, Option.some.injEq] at e1
  rw [List.getElem_map, List.getElem_map, e1]
  cases ht : (tookM v1 (pickE source left))[k] with
  | none => exact .inl ⟨rfl, rfl⟩
  | some q =>
    have hq : q < left.length := by
      have := took_lt (view := v1) (source := pickE source left) (k := k) (p := q) (by rw [List.getElem?_eq_getElem hk5, ht])
      rwa [pickE_length] at this
    exact .inr ⟨q, hq, by simp [encO, List.getD, List.getElem?_eq_getElem hq], rfl⟩

set_option maxRecDepth 100000 in
set_option maxHeartbeats 2000000 in
theorem joins_walk (a0 a1 sa : Option Addr) (c0 c1 sc : Nat) (v0 v1 source : List Ent) (w : World) (h0 : Sl entS (· < w.heap.size) w a0 v0) (h1 : Sl entS (· < w.heap.size) w a1 v1) (hs : Sl entS (· < w.heap.size) w sa source)
    (n0 : a0 = none → c0 = 0) (n1 : a1 = none → c1 = 0)
    (hvl : v0.length ≤ 9223372036854775807) (hvl1 : v1.length ≤ 9223372036854775807) (hsl : source.length ≤ 9223372036854775807) :
    Calls Try.prog 6 #[.agg #[.slice a0 v0.length c0, .slice a1 v1.length c1], .slice sa source.length sc] w (IsBool true w) := by
  have H0 := Sp.hid h0
  have H1 := Sp.hid h1
  have HS := Sp.hid hs
  have N0 := Sp.hid n0
  have N1 := Sp.hid n1
  clear h0 h1 hs n0 n1
  by_cases hn4 : (20 : Int) < v0.length
  · go_enter Try.func6, Try.ntmps6
    go_wp2_with (go_at_call 9; refine (awake_any _).mono ?_; rintro e w2 ⟨rfl, hb2⟩; have HB2 := Sp.hid hb2; clear hb2)
    go_ret
    exact ⟨rfl, ((Below.refl _ _).alloc (Nat.le_refl _) _).trans (HB2.out.mono (by simp))⟩
  by_cases hm4 : (20 : Int) < v1.length
  · go_enter Try.func6, Try.ntmps6
    go_wp2_with (go_at_call 9; refine (awake_any _).mono ?_; rintro e w2 ⟨rfl, hb2⟩; have HB2 := Sp.hid hb2; clear hb2)
    go_ret
    exact ⟨rfl, ((Below.refl _ _).alloc (Nat.le_refl _) _).trans (HB2.out.mono (by simp))⟩
  by_cases hs4 : (20 : Int) < source.length
  · go_enter Try.func6, Try.ntmps6
    go_wp2_with (go_at_call 9; refine (awake_any _).mono ?_; rintro e w2 ⟨rfl, hb2⟩; have HB2 := Sp.hid hb2; clear hb2)
    go_ret
    exact ⟨rfl, ((Below.refl _ _).alloc (Nat.le_refl _) _).trans (HB2.out.mono (by simp))⟩
  obtain ⟨W, hW⟩ : ∃ W, W = w.alloc (.cells #[.slice a0 v0.length c0, .slice a1 v1.length c1] 41) := ⟨_, rfl⟩
  have hWs : w.heap.size + 1 ≤ W.heap.size := by rw [hW]; simp
  have hbW : Below w.heap.size w W := by rw [hW]; exact (Below.refl _ _).alloc (Nat.le_refl _) _
  have q0 : W.cell? ⟨w.heap.size, 0, none⟩ = some (.slice a0 v0.length c0) := by rw [hW]; simp
  have q1 : W.cell? ⟨w.heap.size, 1, none⟩ = some (.slice a1 v1.length c1) := by rw [hW]; simp
  have hh0 : Sl entS (· < W.heap.size) W a0 v0 := (H0.out.below (fun _ h => h) hbW).mono (fun k hk => by omega)
  have hh1 : Sl entS (· < W.heap.size) W a1 v1 := (H1.out.below (fun _ h => h) hbW).mono (fun k hk => by omega)
  have hhs : Sl entS (· < W.heap.size) W sa source := (HS.out.below (fun _ h => h) hbW).mono (fun k hk => by omega)
  have K0 := Sp.hid hh0
  have K1 := Sp.hid hh1
  have KS := Sp.hid hhs
  have HBW := Sp.hid hbW
  have KE0 := Sp.hid (keys_small H0.out)
  have KE1 := Sp.hid (keys_small H1.out)
  have KES := Sp.hid (keys_small HS.out)
  clear hh0 hh1 hhs hbW H0 H1 HS
  go_enter Try.func6, Try.ntmps6
  have HW := Sp.hid hW
  clear hW
  go_wp2_with (at_builtin; go_loud (rw [← HW.out]; refine wpList_append_ents rfl _ _ rfl W.heap.size _ 0 [] rfl (World.ownsRow_nil _ _ _ _) _ a0 c0 v0 rfl N0.out K0.out (by omega) (Nat.le_refl _) ?_))
  clear HW
  intro x1 w1 ho1 hg1 hsz1
  have hb1 : Below W.heap.size W w1 := (Below.refl _ _).grown hg1 (Nat.le_refl _) (fun j hj => by cases hj)
  have p1 : w1.cell? ⟨w.heap.size, 1, none⟩ = some (.slice a1 v1.length c1) := by rw [hb1.cell (p := ⟨w.heap.size, 1, none⟩) (by show w.heap.size < _; omega)]; exact q1
  have p0 : w1.cell? ⟨w.heap.size, 0, none⟩ = some (.slice a0 v0.length c0) := by rw [hb1.cell (p := ⟨w.heap.size, 0, none⟩) (by show w.heap.size < _; omega)]; exact q0
  have K1b := Sp.hid (K1.out.below (fun _ h => h) hb1)
  have HO1 := Sp.hid ho1
  have HB1 := Sp.hid hb1
  clear ho1 hg1 hb1 q0 q1
  go_wp2_with (at_builtin; go_loud (refine wpList_append_ents rfl _ _ rfl W.heap.size x1 v0.length v0 rfl HO1.out _ a1 c1 v1 rfl N1.out K1b.out (by omega) hsz1 ?_))
  intro x2 w2 ho2 hg2 hsz2
  have hb2 : Below W.heap.size W w2 := HB1.out.grown hg2 (by omega) (fun j hj => (HO1.out.lt j hj).1)
  rw [← List.flatMap_append] at ho2
  have hkb : ∀ x ∈ v0 ++ v1, x.key.size ≤ maxLen := fun x hx => (List.mem_append.1 hx).elim (KE0.out x) (KE1.out x)
  obtain ⟨both, hboth⟩ : ∃ both, both = v0 ++ v1 := ⟨_, rfl⟩
  rw [← hboth] at ho2 hkb
  have hblen : both.length = v0.length + v1.length := by rw [hboth, List.length_append]
  rw [← hblen] at ho2
  obtain ⟨ba, bc, rfl, hbl, hbc, hbs⟩ := own_ents hkb ho2
  have hble : both.length ≤ 40 := by omega
  clear hkb hbl
  have hcell : ∀ (w' : World), Below W.heap.size W w' → w'.cell? ⟨w.heap.size, 0, none⟩ = some (.slice a0 v0.length c0) ∧ w'.cell? ⟨w.heap.size, 1, none⟩ = some (.slice a1 v1.length c1) := fun w' h => by
    have e0 := h.cell (p := ⟨w.heap.size, 0, none⟩) (by show w.heap.size < _; omega)
    have e1 := h.cell (p := ⟨w.heap.size, 1, none⟩) (by show w.heap.size < _; omega)
    have f0 := HB1.out.cell (p := ⟨w.heap.size, 0, none⟩) (by show w.heap.size < _; omega)
    have f1 := HB1.out.cell (p := ⟨w.heap.size, 1, none⟩) (by show w.heap.size < _; omega)
    exact ⟨by rw [e0, ← f0]; exact p0, by rw [e1, ← f1]; exact p1⟩
  have HCELL := Sp.hid hcell
  clear p0 p1 hcell
  have hk0 : Sl entS (· < W.heap.size) w2 a0 v0 := K0.out.below (fun _ h => h) hb2
  have hk1 : Sl entS (· < W.heap.size) w2 a1 v1 := K1.out.below (fun _ h => h) hb2
  have hks : Sl entS (· < W.heap.size) w2 sa source := KS.out.below (fun _ h => h) hb2
  have hs2 := hb2.size
  have HA1 := Sp.hid (Align_any ba sa bc sc both source w2 (hbs.mono (fun k hk => hk.2)) (hks.mono (fun k hk => by omega)) (by omega) (by omega))
  have L0 := Sp.hid hk0
  have L1 := Sp.hid hk1
  have LS := Sp.hid hks
  have HB2 := Sp.hid hb2
  have HBL := Sp.hid hblen
  have HBT := Sp.hid hboth
  clear hk0 hk1 hks hb2 K0 K1 KS K1b HO1 HB1 hbs ho2 hg2 hblen hboth
  go_wp2_with fail
  refine HA1.out.mono ?_
  rintro e w3 ⟨xa, xc, rfl, hxc, hxs, hb3⟩
  have hs3 := hb3.size
  have q3 := HCELL.out w3 (HB2.out.trans (hb3.mono hs2))
  obtain ⟨q30, q31⟩ := q3
  have HA2 := Sp.hid (Align_any a0 sa c0 sc v0 source w3 ((L0.out.below (fun _ h => by omega) hb3).mono (fun k hk => by omega)) ((LS.out.below (fun _ h => by omega) hb3).mono (fun k hk => by omega)) (by omega) (by omega))
  have HX := Sp.hid hxs
  have HB3 := Sp.hid hb3
  clear hxs hb3 HA1
  go_wp2_with fail
  refine HA2.out.mono ?_
  rintro e w4 ⟨ya, yc, rfl, hyc, hys, hb4⟩
  have hs4' := hb4.size
  have q4 := HCELL.out w4 ((HB2.out.trans (HB3.out.mono hs2)).trans (hb4.mono (by omega)))
  obtain ⟨q40, q41⟩ := q4
  have hl4 := (L0.out.below (fun _ h => by omega) HB3.out).below (fun _ h => by omega) hb4
  have hls4 := (LS.out.below (fun _ h => by omega) HB3.out).below (fun _ h => by omega) hb4
  have HA3 := Sp.hid (Left_any a0 sa c0 sc v0 source w4 (hl4.mono (fun k hk => by omega)) (hls4.mono (fun k hk => by omega)) (by omega) (by omega))
  have HY := Sp.hid hys
  have HB4 := Sp.hid hb4
  clear hys hb4 HA2 q30 q31 hl4 hls4
  go_wp2_with fail
  refine HA3.out.mono ?_
  rintro e w5 ⟨za, zc, rfl, hzs, hb5⟩
  have hs5 := hb5.size
  obtain ⟨left, hlf⟩ : ∃ left, left = leftTo (tookM v0 source) source.length := ⟨_, rfl⟩
  rw [show leftTo (alignM (source.map Ent.lk) (List.range source.length) (v0.map Ent.lk)) source.length = left from hlf.symm] at hzs ⊢
  have hw5 : Below W.heap.size W w5 := ((HB2.out.trans (HB3.out.mono hs2)).trans (HB4.out.mono (by omega))).trans (hb5.mono (by omega))
  obtain ⟨q50, q51⟩ := HCELL.out w5 hw5
  have hll : left.length ≤ source.length := by have := took_count v0 source; rw [← hlf] at this; omega
  have hlt : ∀ p ∈ left, p < source.length := fun p hp => by rw [hlf] at hp; exact left_lt hp
  have hx5 := (HX.out.below (fun k hk => hk.2) HB4.out).below (fun k hk => by omega) hb5
  have hy5 := HY.out.below (fun k hk => hk.2) hb5
  have hs5s := ((LS.out.below (fun _ h => by omega) HB3.out).below (fun _ h => by omega) HB4.out).below (fun _ h => by omega) hb5
  have hv5 := ((L1.out.below (fun _ h => by omega) HB3.out).below (fun _ h => by omega) HB4.out).below (fun _ h => by omega) hb5
  have hpl := joins_plain v0 v1 source left hlf
  rw [← HBT.out] at hpl
  have HPL := Sp.hid hpl
  have HLT := Sp.hid hlt
  have HX5 := Sp.hid hx5
  have HY5 := Sp.hid hy5
  have HS5 := Sp.hid hs5s
  have HV5 := Sp.hid hv5
  have HZ := Sp.hid hzs
  have HW5 := Sp.hid hw5
  have hxl : ((tookM both source).map encO).length = both.length := by rw [List.length_map, took_length]
  have hyl : ((tookM v0 source).map encO).length = v0.length := by rw [List.length_map, took_length]
  have HXL := Sp.hid hxl
  have HYL := Sp.hid hyl
  clear hpl hlf hlt hx5 hy5 hs5s hv5 hzs hw5 hb5 HA3 HX HY HB2 HB3 HB4 L0 L1 LS q40 q41 hxl hyl
  obtain ⟨i0, hi0, hz0, hz1, hz2⟩ := info_parts infoEnt
  go_wp2
  go_loopw [9, 10] (fun v i wr => ∃ k : Nat, k ≤ left.length ∧ i = .int .i64 k ∧ wr.ownsRow w5.heap.size 27 3 v k ((pickE source (left.take k)).flatMap entCells) ∧ Below w5.heap.size w5 wr) (fun _ i _ => left.length - (intOf i).toNat)
  case atStart => exact ⟨0, by omega, rfl, World.ownsRow_nil _ _ _ _, Below.refl _ _⟩
  case round =>
    obtain ⟨k, hk, rfl, hown, hb⟩ := hrel
    have HO := Sp.hid hown
    have HB := Sp.hid hb
    have hszw := hb.size
    clear hown hb
    by_cases hlt : k < left.length
    · obtain ⟨bz, oz, rfl, fz, ez⟩ := HZ.out.int_cell k (by simpa using hlt)
      have hps : left[k] < source.length := HLT.out _ (List.getElem_mem hlt)
      have hpn := pick_next source hlt hps
      obtain ⟨p, hp⟩ : ∃ p, p = left[k] := ⟨_, rfl⟩
      have cz : wr.cell? ⟨bz, oz + k, none⟩ = some (.int .i64 (p : Nat)) := by rw [HB.out.cell (p := ⟨bz, _, none⟩) (by show bz < _; omega), hp]; simpa using ez
      obtain ⟨bs, os, rfl, hbs, hssz, s1, s2, s3⟩ := ent_cells HS5.out left[k] hps
      obtain ⟨en, hen⟩ : ∃ en, en = source[left[k]] := ⟨_, rfl⟩
      rw [← hen] at s1 s2 s3 hssz hpn
      rw [← hp] at s1 s2 s3 hps
      have hcs : ∀ o, wr.cell? ⟨bs, o, none⟩ = w5.cell? ⟨bs, o, none⟩ := fun o => by rw [HB.out.cell (p := ⟨bs, _, none⟩) (by show bs < _; omega)]
      rw [← hcs] at s1 s2 s3
      have HPN := Sp.hid hpn
      have hpi : ((p : Int) < (source.length : Int)) := by omega
      clear hp hen hcs ez hpn
      go_wp2_with (at_builtin; refine wpList_append_own _ rfl _ _ 22 rfl w5.heap.size 27 i0 _ 3 32 Try.underlying22 hi0 hz0 hz1 hz2 rfl (by decide) _ _ _ rfl (HO.out.alloc _) ⟨wr.heap.size, 0, none⟩ 1 1 [.int .i64 en.pl, .bool en.has, .string en.key] rfl rfl ?c1 ?c2 ?c3 ?c4 ?c5 ?c6)
      case c1 => exact news3 _ _ _ _ _
      case c2 => intro u hu; simp at hu; rcases hu with rfl | rfl | rfl <;> rfl
      case c3 => unfold maxLen; omega
      case c4 => omega
      case c5 => simp; omega
      case c6 =>
        intro v' w3 hown' hgrow _
        rw [← HPN.out] at hown'
        have hb3 : Below w5.heap.size w5 w3 := (HB.out.alloc HB.out.size _).grown hgrow (by simp; omega) (fun j hj => (HO.out.lt j hj).1)
        have HO3 := Sp.hid hown'
        have HB3 := Sp.hid hb3
        clear hown' hgrow hb3
        go_wp2
        go_roundw
        case rel => exact ⟨k + 1, by omega, by go_num, HO3.out, HB3.out⟩
        case measure => simp [intOf]; omega
    · obtain rfl : k = left.length := by omega
      have hown := HO.out
      rw [List.take_length] at hown
      obtain ⟨ra, rc, rfl, hq1, hrc, hrs⟩ := own_ents (pick_small HLT.out KES.out) hown
      clear hq1
      obtain ⟨rest, hrest⟩ : ∃ rest, rest = pickE source left := ⟨_, rfl⟩
      have hrl : rest.length = left.length := by rw [hrest, pickE_length]
      rw [← hrest] at hrs
      obtain ⟨q60, q61⟩ := HCELL.out wr (HW5.out.trans (HB.out.mono (by have := HW5.out.size; omega)))
      have hW5 := HW5.out.size
      have hv6 := HV5.out.below (fun k hk => by omega) HB.out
      have ha4 := Align_any a1 ra c1 rc v1 rest wr (hv6.mono (fun k hk => by omega)) (hrs.mono (fun k hk => hk.2)) (by omega) (by omega)
      rw [hrl] at ha4
      have HA4 := Sp.hid ha4
      have HR := Sp.hid hrest
      have HRL := Sp.hid hrl
      have hx6 := HX5.out.below (fun k hk => by omega) HB.out
      have hy6 := HY5.out.below (fun k hk => by omega) HB.out
      have hz6 := HZ.out.below (fun k hk => by omega) HB.out
      have HX6 := Sp.hid hx6
      have HY6 := Sp.hid hy6
      have HZ6 := Sp.hid hz6
      have HW6 := Sp.hid (HW5.out.trans (HB.out.mono hW5))
      clear hown hrest hrl ha4 hx6 hy6 hz6 hrs hv6 HX5 HY5 HZ HW5 HB HO
      go_wp2_with fail
      refine HA4.out.mono ?_
      rintro e w7 ⟨ua, uc, rfl, huc, hus, hb7⟩
      have hs7 := hb7.size
      have hwr := HW6.out.size
      obtain ⟨q70, q71⟩ := HCELL.out w7 (HW6.out.trans (hb7.mono hwr))
      have hx7 := HX6.out.below (fun k hk => by omega) hb7
      have hy7 := HY6.out.below (fun k hk => by omega) hb7
      have hz7 := HZ6.out.below (fun k hk => by omega) hb7
      have HX7 := Sp.hid hx7
      have HY7 := Sp.hid hy7
      have HZ7 := Sp.hid hz7
      have HU := Sp.hid hus
      have HW7 := Sp.hid (HW6.out.trans (hb7.mono hwr))
      clear hx7 hy7 hz7 hus hb7 HX6 HY6 HZ6 HW6 HA4 q60 q61
      have hpre : ((tookM v0 source).map encO) = ((tookM both source).map encO).take v0.length := by
        rw [HPL.out, List.map_append, List.take_append_of_le_length (by rw [HYL.out]; exact Nat.le_refl _), ← HYL.out, List.take_length]
      have htl : (((tookM both source).map encO).take v0.length).length = v0.length := by have hbl := HBL.out; rw [List.length_take, HXL.out]; omega
      have hi := ints_any _ _ ya xa yc xc ((tookM v0 source).map encO) (((tookM both source).map encO).take v0.length) w7 HY7.out (sl_take HX7.out v0.length) (fun k hk => by omega) (fun k hk => by omega) (by rw [HYL.out]; omega) (by rw [htl]; omega)
      rw [htl, HYL.out, decide_eq_true hpre] at hi
      have HI := Sp.hid hi
      clear hi hpre htl
      have hxc0 : v0.length ≤ xc := by have := HBL.out; omega
      go_wp2_with fail
      refine HI.out.mono ?_
      rintro e w8 ⟨rfl, hb8⟩
      have hx8 := HX7.out.below (fun k hk => by omega) hb8
      have hz8 := HZ7.out.below (fun k hk => by omega) hb8
      have hu8 := HU.out.below (fun k hk => by omega) hb8
      have hw8 := HW7.out.trans (hb8.mono HW7.out.size)
      have hs8 := hb8.size
      have HX8 := Sp.hid hx8
      have HZ8 := Sp.hid hz8
      have HU8 := Sp.hid hu8
      have HW8 := Sp.hid hw8
      have hul : ((tookM v1 (pickE source left)).map encO).length = v1.length := by rw [List.length_map, took_length]
      have HUL := Sp.hid hul
      clear hb8 hx8 hz8 hu8 hw8 hul HX7 HY7 HZ7 HU HW7 HI
      go_wp2
      go_loop [12] (fun i => ∃ k : Nat, k ≤ v1.length ∧ i = .int .i64 k) (fun i => v1.length - (intOf i).toNat)
      case atStart => exact ⟨0, by omega, rfl⟩
      case round =>
        obtain ⟨k, hk, rfl⟩ := hrel
        by_cases hlk : k < v1.length
        · have hbx : v0.length + k < ((tookM both source).map encO).length := by rw [HXL.out, HBL.out]; omega
          have hux : k < ((tookM v1 (pickE source left)).map encO).length := by rw [HUL.out]; exact hlk
          have hbb : v0.length + k < both.length := by rw [HBL.out]; omega
          obtain ⟨b1, o1, rfl, f1, e1⟩ := HX8.out.int_cell (v0.length + k) hbx
          have hu9 : Sl (Shape.int .i64) (fun b => wr.heap.size ≤ b ∧ b < w7.heap.size) w8 ua ((tookM v1 (pickE source left)).map encO) := by have h := HU8.out; rw [HR.out] at h; unfold tookM; rw [pickE_length]; exact h
          obtain ⟨b2, o2, rfl, f2, e2⟩ := hu9.int_cell k hux
          clear hu9
          rcases all_at HPL.out k hlk hbx hux with ⟨h1, h2⟩ | ⟨q, hq, h1, h2⟩
          · rw [h1] at e1
            rw [h2] at e2
            clear h1 h2
            go_wp2
            go_round
            case rel => exact ⟨k + 1, by omega, by go_num⟩
            case measure => simp [intOf]; omega
          · rw [h1] at e1
            rw [h2] at e2
            obtain ⟨b3, o3, rfl, f3, e3⟩ := HZ8.out.int_cell q (by simpa using hq)
            obtain ⟨p, hp⟩ : ∃ p, p = left[q] := ⟨_, rfl⟩
            rw [← hp] at e1
            have e3' : w8.cell? ⟨b3, o3 + q, none⟩ = some (.int .i64 (p : Nat)) := by rw [hp]; simpa using e3
            clear h1 h2 e3 hp
            go_wp2
            go_round
            case rel => exact ⟨k + 1, by omega, by go_num⟩
            case measure => simp [intOf]; omega
        · obtain rfl : k = v1.length := by omega
          go_wp2_with (go_at_call 9; refine (awake_any _).mono ?_; rintro e w9 ⟨rfl, hb9⟩; have HB9 := Sp.hid hb9; clear hb9)
          go_ret
          exact ⟨rfl, (HBW.out.trans (HW8.out.mono (by omega))).trans (HB9.out.mono (by have := HW8.out.size; omega))⟩

end Go.Proofs.Ytbhdkionphemdaa
