/- KeysTurns returns true: its walk. Conditions: the arguments read as entries. -/
import Derived.Test.YtbhdkionphemdaaKeysAwake
import Derived.Test.YtbhdkionphemdaaKeysPlain
import Derived.Test.YtbhdkionphemdaaKeysOwn
namespace Go.Proofs.Ytbhdkionphemdaa
open Go.RowKit Go.Sp Go.Maps

set_option maxRecDepth 100000 in
set_option maxHeartbeats 2000000 in
theorem turns_walk (va sa : Option Addr) (vc sc : Nat) (view source : List Ent) (a0 b0 : Int) (w : World) (hv : Sl entS (· < w.heap.size) w va view) (hs : Sl entS (· < w.heap.size) w sa source)
    (hvl : view.length ≤ 9223372036854775807) (hsl : source.length ≤ 9223372036854775807) (ha1 : -9223372036854775808 ≤ a0) (ha2 : a0 ≤ 9223372036854775807) (hb1 : -9223372036854775808 ≤ b0) (hb2 : b0 ≤ 9223372036854775807) :
    Calls Try.prog 3 #[.slice va view.length vc, .slice sa source.length sc, .agg #[.int .i64 a0, .int .i64 b0]] w (IsBool true w) := by
  have HV := Sp.hid hv
  have HS := Sp.hid hs
  clear hv hs
  by_cases hn0 : view.length = 0
  · have h0 : ((view.length : Int) == 0) = true := by rw [hn0]; rfl
    have HN := Sp.hid hn0
    clear hn0
    go_enter Try.func3, Try.ntmps3
    go_wp2_with (go_at_call 9; refine (awake_any _).mono ?_; rintro e w2 ⟨rfl, hb2⟩; have HB2 := Sp.hid hb2; clear hb2)
    go_ret
    exact ⟨rfl, ((Below.refl _ _).alloc (Nat.le_refl _) _).trans (HB2.out.mono (by simp))⟩
  have h0 : ((view.length : Int) == 0) = false := by rw [beq_eq_false_iff_ne]; omega
  by_cases hm0 : source.length = 0
  · have h1 : ((source.length : Int) == 0) = true := by rw [hm0]; rfl
    have HM := Sp.hid hm0
    clear hm0
    go_enter Try.func3, Try.ntmps3
    go_wp2_with (go_at_call 9; refine (awake_any _).mono ?_; rintro e w2 ⟨rfl, hb2⟩; have HB2 := Sp.hid hb2; clear hb2)
    go_ret
    exact ⟨rfl, ((Below.refl _ _).alloc (Nat.le_refl _) _).trans (HB2.out.mono (by simp))⟩
  have h1 : ((source.length : Int) == 0) = false := by rw [beq_eq_false_iff_ne]; omega
  by_cases hn4 : (40 : Int) < view.length
  · go_enter Try.func3, Try.ntmps3
    go_wp2_with (go_at_call 9; refine (awake_any _).mono ?_; rintro e w2 ⟨rfl, hb2⟩; have HB2 := Sp.hid hb2; clear hb2)
    go_ret
    exact ⟨rfl, ((Below.refl _ _).alloc (Nat.le_refl _) _).trans (HB2.out.mono (by simp))⟩
  by_cases hm4 : (40 : Int) < source.length
  · go_enter Try.func3, Try.ntmps3
    go_wp2_with (go_at_call 9; refine (awake_any _).mono ?_; rintro e w2 ⟨rfl, hb2⟩; have HB2 := Sp.hid hb2; clear hb2)
    go_ret
    exact ⟨rfl, ((Below.refl _ _).alloc (Nat.le_refl _) _).trans (HB2.out.mono (by simp))⟩
  have HV2 : Hid (Sl entS (fun k => k < w.heap.size) (w.alloc (.cells #[.int .i64 a0, .int .i64 b0] 23)) va view) := Sp.hid (HV.out.below (fun _ h => h) ((Below.refl _ _).alloc (Nat.le_refl _) _))
  have HS2 : Hid (Sl entS (fun k => k < w.heap.size) (w.alloc (.cells #[.int .i64 a0, .int .i64 b0] 23)) sa source) := Sp.hid (HS.out.below (fun _ h => h) ((Below.refl _ _).alloc (Nat.le_refl _) _))
  go_enter Try.func3, Try.ntmps3
  go_wp2_with fail
  refine (apart_any _ _ view _ (HV2.out.mono (fun k hk => by simp; omega)) (by omega)).mono ?_
  rintro e w1 ⟨bv, hbv, rfl, hbw1⟩
  have HBV := Sp.hid hbv
  have HB1 := Sp.hid hbw1
  clear hbv hbw1
  cases bv
  · go_wp2_with (go_at_call 9; refine (awake_any _).mono ?_; rintro e w2 ⟨rfl, hb2⟩; have HB2 := Sp.hid hb2; clear hb2)
    go_ret
    exact ⟨rfl, (((Below.refl _ _).alloc (Nat.le_refl _) _).trans (HB1.out.mono (by simp))).trans (HB2.out.mono (by have := HB1.out.size; simp at this; omega))⟩
  have HS3 : Hid (Sl entS (fun k => k < w.heap.size) w1 sa source) := Sp.hid (HS2.out.below (fun k h => by simp; omega) HB1.out)
  go_wp2_with fail
  refine (apart_any _ _ source _ (HS3.out.mono (fun k hk => by have := HB1.out.size; simp at this; omega)) (by omega)).mono ?_
  rintro e w2 ⟨bs, hbs, rfl, hbw2⟩
  have HBS := Sp.hid hbs
  have HB2 := Sp.hid hbw2
  clear hbs hbw2
  cases bs
  · go_wp2_with (go_at_call 9; refine (awake_any _).mono ?_; rintro e w3 ⟨rfl, hb3⟩; have HB3 := Sp.hid hb3; clear hb3)
    go_ret
    exact ⟨rfl, ((((Below.refl _ _).alloc (Nat.le_refl _) _).trans (HB1.out.mono (by simp))).trans (HB2.out.mono (by have := HB1.out.size; simp at this; omega))).trans (HB3.out.mono (by have := HB1.out.size; have := HB2.out.size; simp at *; omega))⟩
  have ca : w2.cell? ⟨w.heap.size, 0, none⟩ = some (.int .i64 a0) := by
    rw [HB2.out.cell (p := ⟨w.heap.size, 0, none⟩) (by have := HB1.out.size; simp at this; show w.heap.size < _; omega), HB1.out.cell (p := ⟨w.heap.size, 0, none⟩) (by show w.heap.size < _; simp)]; simp
  have cb : w2.cell? ⟨w.heap.size, 1, none⟩ = some (.int .i64 b0) := by
    rw [HB2.out.cell (p := ⟨w.heap.size, 1, none⟩) (by have := HB1.out.size; simp at this; show w.heap.size < _; omega), HB1.out.cell (p := ⟨w.heap.size, 1, none⟩) (by show w.heap.size < _; simp)]; simp
  have hn : 0 < view.length := by omega
  have hm : 0 < source.length := by omega
  have hn40 : view.length ≤ 40 := by omega
  have hm40 : source.length ≤ 40 := by omega
  obtain ⟨A, hA, hAe⟩ := turn_num a0 view.length hn (by omega)
  obtain ⟨B, hB, hBe⟩ := turn_num b0 source.length hm (by omega)
  have HAe := Sp.hid hAe
  have HBe := Sp.hid hBe
  have hbw : Below w.heap.size w w2 := (((Below.refl _ _).alloc (Nat.le_refl _) _).trans (HB1.out.mono (by simp))).trans (HB2.out.mono (by have := HB1.out.size; simp at this; omega))
  have HBW := Sp.hid hbw
  have hbs : w.heap.size < w2.heap.size := by have := HB1.out.size; have := HB2.out.size; simp at *; omega
  have hapv : Apart view := by simpa using HBV.out
  have haps : Apart source := by simpa using HBS.out
  have HAV := Sp.hid hapv
  have HAS := Sp.hid haps
  have hkv : ∀ x ∈ view, x.key.size ≤ maxLen := fun x hx => by
    obtain ⟨i, hi, rfl⟩ := List.getElem_of_mem hx
    obtain ⟨_, _, _, _, h, _⟩ := ent_cells HV.out i hi
    exact h
  have hks : ∀ x ∈ source, x.key.size ≤ maxLen := fun x hx => by
    obtain ⟨i, hi, rfl⟩ := List.getElem_of_mem hx
    obtain ⟨_, _, _, _, h, _⟩ := ent_cells HS.out i hi
    exact h
  have HKV := Sp.hid hkv
  have HKS := Sp.hid hks
  obtain ⟨i0, hi0, hz0, hz1, hz2⟩ := info_parts infoEnt
  clear hAe hBe hbw hapv haps hkv hks HBV HBS HB1 HB2 HV2 HS2 HS3 h0 h1 hn0 hm0 hn4 hm4
  go_wp2
  rw [HAe.out, HBe.out]
  go_loopw [11, 13] (fun v i wr => ∃ k : Nat, k ≤ view.length ∧ i = .int .i64 k ∧ wr.ownsRow w2.heap.size 27 3 v k ((rotTo view A k).flatMap entCells) ∧ Below w2.heap.size w2 wr) (fun _ i _ => view.length - (intOf i).toNat)
  case atStart => exact ⟨0, by omega, rfl, World.ownsRow_nil _ _ _ _, Below.refl _ _⟩
  case round =>
    obtain ⟨k, hk, rfl, hown, hb⟩ := hrel
    have HO := Sp.hid hown
    have HB := Sp.hid hb
    clear hown hb
    by_cases hlt : k < view.length
    · have hmod : (A + k) % view.length < view.length := Nat.mod_lt _ hn
      obtain ⟨b, o, rfl, hblt, hsz, e1, e2, e3⟩ := ent_cells HV.out ((A + k) % view.length) hmod
      obtain ⟨en, hen⟩ : ∃ en, en = view[(A + k) % view.length] := ⟨_, rfl⟩
      rw [← hen] at e1 e2 e3 hsz
      have hw : ∀ o, wr.cell? ⟨b, o, none⟩ = w.cell? ⟨b, o, none⟩ := fun o => by
        rw [HB.out.cell (p := ⟨b, o, none⟩) (by show b < _; omega), HBW.out.cell (p := ⟨b, o, none⟩) hblt]
      have c1 : wr.cell? ⟨b, o + (A + k) % view.length * 3, none⟩ = some (.int .i64 en.pl) := by rw [hw]; exact e1
      have c2 : wr.cell? ⟨b, o + (A + k) % view.length * 3 + 1, none⟩ = some (.bool en.has) := by rw [hw]; exact e2
      have c3 : wr.cell? ⟨b, o + (A + k) % view.length * 3 + 2, none⟩ = some (.string en.key) := by rw [hw]; exact e3
      have hrs : (rotTo view A (k + 1)).flatMap entCells = (rotTo view A k).flatMap entCells ++ [.int .i64 en.pl, .bool en.has, .string en.key] := by
        rw [rotTo_succ, List.flatMap_append, hen]
        simp [List.getD, List.getElem?_eq_getElem hmod, entCells]
      have HR := Sp.hid hrs
      have hmi : ((A : Int) + (k : Int)) % (view.length : Int) < (view.length : Int) := Int.emod_lt_of_pos _ (by omega)
      have hmi0 : 0 ≤ ((A : Int) + (k : Int)) % (view.length : Int) := Int.emod_nonneg _ (by omega)
      clear hen hrs e1 e2 e3 hw
      go_wp2_with (at_builtin; refine wpList_append_own _ rfl _ _ 22 rfl w2.heap.size 27 i0 _ 3 32 Try.underlying22 hi0 hz0 hz1 hz2 rfl (by decide) _ _ _ rfl (HO.out.alloc _) ⟨wr.heap.size, 0, none⟩ 1 1 [.int .i64 en.pl, .bool en.has, .string en.key] rfl rfl ?c1 ?c2 ?c3 ?c4 ?c5 ?c6)
      case c1 => exact news3 _ _ _ _ _
      case c2 => intro u hu; simp at hu; rcases hu with rfl | rfl | rfl <;> rfl
      case c3 => unfold maxLen; omega
      case c4 => omega
      case c5 => have := HB.out.size; simp; omega
      case c6 =>
        intro v' w3 hown' hgrow _
        rw [← HR.out] at hown'
        have hb3 : Below w2.heap.size w2 w3 := (HB.out.alloc HB.out.size _).grown hgrow (by have := HB.out.size; simp; omega) (fun j hj => (HO.out.lt j hj).1)
        have HO3 := Sp.hid hown'
        have HB3 := Sp.hid hb3
        clear hown' hgrow hb3
        go_wp2
        go_roundw
        case rel => exact ⟨k + 1, by omega, by go_num, HO3.out, HB3.out⟩
        case measure => simp [intOf]; omega
    · obtain rfl : k = view.length := by omega
      have hrk : ∀ x ∈ rotTo view A view.length, x.key.size ≤ maxLen := fun x hx => by
        obtain ⟨i, hi, rfl⟩ := List.getElem_of_mem hx
        rw [rotTo_get _ _ _ _ hi hn]
        exact HKV.out _ (List.getElem_mem _)
      obtain ⟨ra, rc, rfl, hrl, hrl2, hrsl⟩ := own_ents hrk HO.out
      have HRV := Sp.hid hrsl
      obtain ⟨wo, rfl⟩ : ∃ wo : World, wo = wr := ⟨_, rfl⟩
      have hbo : Below w.heap.size w wo := HBW.out.trans (HB.out.mono (by omega))
      have hwo : w2.heap.size ≤ wo.heap.size := HB.out.size
      have HBO := Sp.hid hbo
      clear hrk hrl hrl2 hrsl HO HB hbo
      go_wp2
      go_loopw [12, 14] (fun v i wr => ∃ k : Nat, k ≤ source.length ∧ i = .int .i64 k ∧ wr.ownsRow wo.heap.size 27 3 v k ((rotTo source B k).flatMap entCells) ∧ Below wo.heap.size wo wr) (fun _ i _ => source.length - (intOf i).toNat)
      case atStart => exact ⟨0, by omega, rfl, World.ownsRow_nil _ _ _ _, Below.refl _ _⟩
      case round =>
        obtain ⟨k, hk, rfl, hown, hb⟩ := hrel
        have HO := Sp.hid hown
        have HB := Sp.hid hb
        clear hown hb
        by_cases hlt : k < source.length
        · have hmod : (B + k) % source.length < source.length := Nat.mod_lt _ hm
          obtain ⟨b, o, rfl, hblt, hsz, e1, e2, e3⟩ := ent_cells HS.out ((B + k) % source.length) hmod
          obtain ⟨en, hen⟩ : ∃ en, en = source[(B + k) % source.length] := ⟨_, rfl⟩
          rw [← hen] at e1 e2 e3 hsz
          have hw : ∀ o, wr.cell? ⟨b, o, none⟩ = w.cell? ⟨b, o, none⟩ := fun o => by
            rw [HB.out.cell (p := ⟨b, o, none⟩) (by show b < _; omega), HBO.out.cell (p := ⟨b, o, none⟩) hblt]
          have c1 : wr.cell? ⟨b, o + (B + k) % source.length * 3, none⟩ = some (.int .i64 en.pl) := by rw [hw]; exact e1
          have c2 : wr.cell? ⟨b, o + (B + k) % source.length * 3 + 1, none⟩ = some (.bool en.has) := by rw [hw]; exact e2
          have c3 : wr.cell? ⟨b, o + (B + k) % source.length * 3 + 2, none⟩ = some (.string en.key) := by rw [hw]; exact e3
          have hrs : (rotTo source B (k + 1)).flatMap entCells = (rotTo source B k).flatMap entCells ++ [.int .i64 en.pl, .bool en.has, .string en.key] := by
            rw [rotTo_succ, List.flatMap_append, hen]
            simp [List.getD, List.getElem?_eq_getElem hmod, entCells]
          have HR := Sp.hid hrs
          have hmi : ((B : Int) + (k : Int)) % (source.length : Int) < (source.length : Int) := Int.emod_lt_of_pos _ (by omega)
          have hmi0 : 0 ≤ ((B : Int) + (k : Int)) % (source.length : Int) := Int.emod_nonneg _ (by omega)
          clear hen hrs e1 e2 e3 hw
          go_wp2_with (at_builtin; refine wpList_append_own _ rfl _ _ 22 rfl wo.heap.size 27 i0 _ 3 32 Try.underlying22 hi0 hz0 hz1 hz2 rfl (by decide) _ _ _ rfl (HO.out.alloc _) ⟨wr.heap.size, 0, none⟩ 1 1 [.int .i64 en.pl, .bool en.has, .string en.key] rfl rfl ?d1 ?d2 ?d3 ?d4 ?d5 ?d6)
          case d1 => exact news3 _ _ _ _ _
          case d2 => intro u hu; simp at hu; rcases hu with rfl | rfl | rfl <;> rfl
          case d3 => unfold maxLen; omega
          case d4 => omega
          case d5 => have := HB.out.size; simp; omega
          case d6 =>
            intro v' w3 hown' hgrow _
            rw [← HR.out] at hown'
            have hb3 : Below wo.heap.size wo w3 := (HB.out.alloc HB.out.size _).grown hgrow (by have := HB.out.size; simp; omega) (fun j hj => (HO.out.lt j hj).1)
            have HO3 := Sp.hid hown'
            have HB3 := Sp.hid hb3
            clear hown' hgrow hb3
            go_wp2
            go_roundw
            case rel => exact ⟨k + 1, by omega, by go_num, HO3.out, HB3.out⟩
            case measure => simp [intOf]; omega
        · obtain rfl : k = source.length := by omega
          have hrk : ∀ x ∈ rotTo source B source.length, x.key.size ≤ maxLen := fun x hx => by
            obtain ⟨i, hi, rfl⟩ := List.getElem_of_mem hx
            rw [rotTo_get _ _ _ _ hi hm]
            exact HKS.out _ (List.getElem_mem _)
          obtain ⟨sra, src, rfl, hq1, hq2, hrsl⟩ := own_ents hrk HO.out
          have HRS := Sp.hid hrsl
          have hsr := HB.out.size
          have hb3 : Below w.heap.size w wr := HBO.out.trans (HB.out.mono (by omega))
          have HB3 := Sp.hid hb3
          have hv4 : Sl entS (· < wr.heap.size) wr va view := (HV.out.below (fun _ h => h) hb3).mono (fun k hk => by omega)
          have hs4 : Sl entS (· < wr.heap.size) wr sa source := (HS.out.below (fun _ h => h) hb3).mono (fun k hk => by omega)
          have HA1 := Sp.hid (Align_any va sa vc sc view source wr hv4 hs4 (by omega) (by omega))
          have hrv5 : Sl entS (fun b => w2.heap.size ≤ b ∧ b < wo.heap.size) wr ra (rotTo view A view.length) := HRV.out.below (fun k hk => hk.2) HB.out
          have HRV5 := Sp.hid hrv5
          clear hq1 hq2 hrk hrsl HO HB hb3 hv4 hs4 hrv5 HRV
          go_wp2_with fail
          refine HA1.out.mono ?_
          rintro e w5 ⟨xa, xc, rfl, hxc, hxs, hb5⟩
          have HX := Sp.hid hxs
          have HB5 := Sp.hid hb5
          have hs5 := hb5.size
          have hv6 : Sl entS (· < w5.heap.size) w5 ra (rotTo view A view.length) := (HRV5.out.below (fun k hk => by omega) hb5).mono (fun k hk => by omega)
          have hs6 : Sl entS (· < w5.heap.size) w5 sra (rotTo source B source.length) := (HRS.out.below (fun k hk => hk.2) hb5).mono (fun k hk => by omega)
          have hA2 := Align_any ra sra rc src _ _ w5 hv6 hs6 (by rw [rotTo_length]; omega) (by rw [rotTo_length]; omega)
          rw [rotTo_length, rotTo_length] at hA2
          have HA2 := Sp.hid hA2
          clear hxs hb5 hv6 hs6 hA2 HRV5 HRS HA1
          go_wp2_with fail
          refine HA2.out.mono ?_
          rintro e w6 ⟨ya, yc, rfl, hyc, hys, hb6⟩
          have HY := Sp.hid hys
          have HB6 := Sp.hid hb6
          have hs6 := hb6.size
          have hx7 := HX.out.below (fun k hk => hk.2) hb6
          have HX7 := Sp.hid hx7
          clear hys hb6 hx7 HA2 HX
          go_wp2
          have hlx : ((alignM (source.map Ent.lk) (List.range source.length) (view.map Ent.lk)).map encO).length = view.length := by simp [alignM_length]
          have hly : ((alignM ((rotTo source B source.length).map Ent.lk) (List.range source.length) ((rotTo view A view.length).map Ent.lk)).map encO).length = view.length := by simp [alignM_length, rotTo_length]
          have HLX := Sp.hid hlx
          have HLY := Sp.hid hly
          have hfin : Below w.heap.size w w6 := (HB3.out.trans (HB5.out.mono (by omega))).trans (HB6.out.mono (by omega))
          have HFIN := Sp.hid hfin
          clear hlx hly hfin HB3 HB5 HB6 HBO HBW
          go_loop [17] (fun i => ∃ k : Nat, k ≤ view.length ∧ i = .int .i64 k) (fun i => view.length - (intOf i).toNat)
          case atStart => exact ⟨0, by omega, rfl⟩
          case round =>
            obtain ⟨k, hk, rfl⟩ := hrel
            by_cases hlt : k < view.length
            · have hmod : (A + k) % view.length < view.length := Nat.mod_lt _ hn
              obtain ⟨P, Q, hX, hY, hPQ⟩ := turns_plain A B HAV.out HAS.out hn hm k hlt
              obtain ⟨b1, o1, rfl, f1, e1⟩ := HX7.out.int_cell ((A + k) % view.length) (by rw [HLX.out]; exact hmod)
              obtain ⟨b2, o2, rfl, f2, e2⟩ := HY.out.int_cell k (by rw [HLY.out]; exact hlt)
              rw [(List.getElem?_eq_some_iff.1 hX).2] at e1
              rw [(List.getElem?_eq_some_iff.1 hY).2] at e2
              have hmi : ((A : Int) + (k : Int)) % (view.length : Int) < (view.length : Int) := Int.emod_lt_of_pos _ (by omega)
              have hmi0 : 0 ≤ ((A : Int) + (k : Int)) % (view.length : Int) := Int.emod_nonneg _ (by omega)
              clear hX hY
              rcases hPQ with ⟨rfl, rfl⟩ | ⟨p, q, rfl, rfl, hp, hq, hpq⟩
              · simp only [encO] at e1 e2
                go_wp2
                go_round
                case rel => exact ⟨k + 1, by omega, by go_num⟩
                case measure => simp [intOf]; omega
              · simp only [encO] at e1 e2
                have hne : ((p : Int) != ((B : Int) + (q : Int)) % (source.length : Int)) = false := by
                  rw [bne_eq_false_iff_eq, hpq]; simp
                have HPQ := Sp.hid hpq
                clear hpq
                go_wp2
                go_round
                case rel => exact ⟨k + 1, by omega, by go_num⟩
                case measure => simp [intOf]; omega
            · obtain rfl : k = view.length := by omega
              go_wp2_with (go_at_call 9; refine (awake_any _).mono ?_; rintro e w7 ⟨rfl, hb7⟩; have HB7 := Sp.hid hb7; clear hb7)
              go_ret
              exact ⟨rfl, HFIN.out.trans (HB7.out.mono (by have := HFIN.out.size; omega))⟩

end Go.Proofs.Ytbhdkionphemdaa
