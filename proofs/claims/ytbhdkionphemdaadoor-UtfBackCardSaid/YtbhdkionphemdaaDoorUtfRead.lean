/- The document's Read: the character at the beginning of bytes, found by trying how many it may have. Conditions: at most 1000 bytes. -/
import Derived.Test.YtbhdkionphemdaaDoorUtfRef
namespace Go.Proofs.YtbhdkionphemdaaDoor
open Go.RowKit Go.Sp Go.Maps

def offOf : Nat → Int
  | 1 => 0
  | 2 => 192
  | 3 => 224
  | _ => 240

def readV (bs : List Int) : Value := match decM bs with
  | none => .tuple #[.int .i64 0, .int .i64 0]
  | some (r, n) => .tuple #[.int .i64 r, .int .i64 (n : Nat)]

/-- What a size's trial makes of the bytes, once j bytes behind the first are in. -/
def cand (c : Int) (t : List Int) (s j : Nat) : Int := foldC (c - offOf s) (t.take j)

theorem cand_dec {c : Int} {t : List Int} {r : Int} {n : Nat} (h : decM (c :: t) = some (r, n)) : cand c t n (n - 1) = r := by
  rw [decM] at h
  split at h
  · rename_i hc
    simp only [Option.some.injEq, Prod.mk.injEq] at h
    obtain ⟨h1, rfl⟩ := h
    rw [← h1]
    unfold cand
    rcases begin_cases c with ⟨_, hb⟩ | ⟨_, _, hb⟩ | ⟨_, _, hb⟩ | ⟨_, _, hb⟩ | hb
    · rw [hb]; simp [offOf]
    · rw [hb]; rfl
    · rw [hb]; rfl
    · rw [hb]; rfl
    · exact absurd hb hc.1
  · cases h

theorem dec_size {bs : List Int} {r : Int} {n : Nat} (h : decM bs = some (r, n)) : 1 ≤ n ∧ n ≤ 4 ∧ n ≤ bs.length := by
  obtain ⟨_, h2, h3, _⟩ := enc_dec h
  refine ⟨dec_pos h, ?_, h3⟩
  rw [h2]
  unfold sizeOf_; split; decide; split; decide; split <;> decide

theorem cand_next {c : Int} {t : List Int} {s j : Nat} (hj : j < t.length) : cand c t s (j + 1) = 64 * cand c t s j + t[j] - 128 := by
  unfold cand
  rw [List.take_succ_eq_append_getElem hj, foldC_snoc]
  omega

theorem cand_bound {c : Int} {t : List Int} {s : Nat} (hc : 0 ≤ c ∧ c ≤ 255) (ht : ∀ x ∈ t, 0 ≤ x ∧ x ≤ 255) : ∀ j, j ≤ t.length → -(1000 * 100 ^ j) ≤ cand c t s j ∧ cand c t s j ≤ 1000 * 100 ^ j
  | 0, _ => by
    have : 0 ≤ offOf s ∧ offOf s ≤ 240 := by unfold offOf; split <;> decide
    simp [cand, foldC]; omega
  | j + 1, hj => by
    obtain ⟨h1, h2⟩ := cand_bound (s := s) hc ht j (by omega)
    rw [cand_next (by omega)]
    have hx := ht t[j] (List.getElem_mem _)
    have h3 : (100 : Int) ^ (j + 1) = 100 ^ j * 100 := Int.pow_succ ..
    have h4 : (1 : Int) ≤ 100 ^ j := Int.le_of_lt_add_one (by have := Int.pow_pos (n := 100) (m := j) (by decide); omega)
    rw [h3]
    omega

theorem same_dec {bs : List Int} {v : Int} {s : Nat} (hv : isChar v = true) (he : encM v = bs.take s) (hs : s ≤ bs.length) : decM bs = some (v, s) := by
  have h := dec_enc v (bs.drop s) hv
  rw [he, List.take_append_drop] at h
  have hl : s = sizeOf_ v := by rw [← encM_length, he, List.length_take]; omega
  rw [h, ← hl]

set_option maxRecDepth 100000 in
set_option maxHeartbeats 4000000 in
theorem refRead_any (F : Nat → Prop) (a : Option Addr) (cap : Nat) (bs : List Int) (w : World) (hbs : Sl (Shape.int .u8) F w a bs) (hF : ∀ k, F k → k < w.heap.size) (hbd : ∀ x ∈ bs, 0 ≤ x ∧ x ≤ 255) (hlen : bs.length ≤ 1000) :
    Calls Tryd.prog 19 #[.slice a bs.length cap] w fun e w' => e = .returned (readV bs) ∧ Below w.heap.size w w' := by
  obtain ⟨V, hV⟩ : ∃ V, V = readV bs := ⟨_, rfl⟩
  rw [← hV]
  have hN : decM bs = none → V = .tuple #[.int .i64 0, .int .i64 0] := fun h => by rw [hV]; unfold readV; rw [h]
  have hS : ∀ r n, decM bs = some (r, n) → V = .tuple #[.int .i64 r, .int .i64 (n : Nat)] := fun r n h => by rw [hV]; unfold readV; rw [h]
  have HN := Sp.hid hN
  have HS := Sp.hid hS
  have HBS := Sp.hid hbs
  have HF := Sp.hid hF
  have HBD := Sp.hid hbd
  clear hV hN hS hbs hF hbd
  obtain ⟨m, hm⟩ : ∃ m, m = bs.length := ⟨_, rfl⟩
  have HM := Sp.hid hm
  rw [← hm] at hlen ⊢
  clear hm
  go_enter Tryd.func19, Tryd.ntmps19
  go_wp2
  go_loopw [4] (fun i wr => ∃ s : Nat, 1 ≤ s ∧ s ≤ 5 ∧ i = .int .i64 s ∧ (∀ r n, decM bs = some (r, n) → s ≤ n) ∧ Below w.heap.size w wr) (fun i _ => 5 - (intOf i).toNat)
  case atStart => exact ⟨1, by omega, by omega, rfl, fun r n h => (dec_size h).1, Below.refl _ _⟩
  case round =>
    obtain ⟨s, hs1, hs5, rfl, hno, hb⟩ := hrel
    obtain ⟨wo, rfl⟩ : ∃ wo : World, wo = wr := ⟨_, rfl⟩
    have hsw := hb.size
    have HNO := Sp.hid hno
    have HB := Sp.hid hb
    clear hno hb
    by_cases h4 : s ≤ 4
    · by_cases hsm : s ≤ m
      · have hml : bs.length = (bs.length - 1) + 1 := by have := HM.out; omega
        obtain ⟨c, t, hbt⟩ : ∃ c t, bs = c :: t := by
          cases bs with
          | nil => simp at hml
          | cons c t => exact ⟨c, t, rfl⟩
        have htl : t.length + 1 = m := by rw [HM.out, hbt]; rfl
        have hc := HBD.out c (by rw [hbt]; simp)
        have htb : ∀ x ∈ t, 0 ≤ x ∧ x ≤ 255 := fun x hx => HBD.out x (by rw [hbt]; simp [hx])
        have hcell : ∃ b o, a = some ⟨b, o, none⟩ ∧ F b ∧ ∀ i (hi : i < bs.length), w.cell? ⟨b, o + i, none⟩ = some (.int .u8 bs[i]) := by
          obtain ⟨b, o, ha, hfb, _⟩ := HBS.out.int_cell 0 (by omega)
          refine ⟨b, o, ha, hfb, fun i hi => ?_⟩
          obtain ⟨b', o', ha', _, e⟩ := HBS.out.int_cell i hi
          rw [ha] at ha'
          cases ha'
          exact e
        obtain ⟨b, o, rfl, hfb, hce⟩ := hcell
        have hbw := HF.out b hfb
        have hce' : ∀ (wr : World), Below w.heap.size w wr → ∀ i (hi : i < bs.length), wr.cell? ⟨b, o + i, none⟩ = some (.int .u8 bs[i]) := fun wr hx i hi => by rw [hx.cell (p := ⟨b, _, none⟩) hbw]; exact hce i hi
        have e0 : wo.cell? ⟨b, o, none⟩ = some (.int .u8 c) := by
          have := hce' wo HB.out 0 (by omega)
          simpa [hbt] using this
        have hcr : ∀ i (hi : i < t.length), wo.cell? ⟨b, o + (i + 1), none⟩ = some (.int .u8 t[i]) := fun i hi => by
          have := hce' wo HB.out (i + 1) (by rw [hbt]; simp; omega)
          simpa [hbt] using this
        have hbnd := fun j hj => cand_bound (s := s) hc htb j hj
        have hcd : ∀ r n, decM bs = some (r, n) → cand c t n (n - 1) = r := fun r n h => by rw [hbt] at h; exact cand_dec h
        have hc1 := hc.1
        have hc2 := hc.2
        have HCE := Sp.hid hce'
        have HCR := Sp.hid hcr
        have HBN := Sp.hid hbnd
        have HCD := Sp.hid hcd
        have HTB := Sp.hid htb
        have hm1 : 1 ≤ m := by omega
        clear hbt hc htb hce hce' hcr hbnd hcd hml
        have hs : s = 1 ∨ s = 2 ∨ s = 3 ∨ s = 4 := by omega
        rcases hs with rfl | rfl | rfl | rfl
        · have hoff : c - offOf 1 = c := by rw [show offOf 1 = 0 from rfl]; omega
          have HOFF := Sp.hid hoff
          clear hoff
          go_wp2
          go_loop [5, 6] (fun v i => ∃ j : Nat, j ≤ 1 - 1 ∧ i = .int .i64 ((j : Int) + 1) ∧ v = .int .i64 (cand c t 1 j)) (fun _ i => 1 - (intOf i).toNat)
          case atStart => exact ⟨0, by omega, rfl, by unfold cand; rw [HOFF.out]; rfl⟩
          case round =>
            obtain ⟨j, hj, rfl, rfl⟩ := hrel
            by_cases hjs : j < 1 - 1
            · exact absurd hjs (by omega)
            · obtain rfl : j = 1 - 1 := by omega
              obtain ⟨v, hv⟩ : ∃ v, v = cand c t 1 (1 - 1) := ⟨_, rfl⟩
              rw [← hv]
              have hcd : ∀ r n, decM bs = some (r, n) → n = 1 → v = r := fun r n h hn => by rw [hv]; subst hn; exact HCD.out r _ h
              have HCDV := Sp.hid hcd
              have HI := Sp.hid (refIs_any v wo)
              obtain ⟨ic, hic⟩ : ∃ ic, ic = isChar v := ⟨_, rfl⟩
              rw [← hic] at HI
              clear hcd hv
              cases ic
              · have hnn : ∀ r n, decM bs = some (r, n) → 1 + 1 ≤ n := fun r n h => by
                  have h1 := HNO.out r n h
                  rcases Nat.lt_or_ge 1 n with h2 | h2
                  · exact h2
                  · exfalso
                    have h3 := HCDV.out r n h (by omega)
                    have h4 := (enc_dec h).1
                    rw [← h3, ← hic] at h4
                    cases h4
                have HNN := Sp.hid hnn
                clear hnn hic
                go_wp2_with fail
                refine HI.out.mono ?_
                rintro e w2 ⟨rfl, rfl⟩
                go_wp2
                go_roundw
                case rel => exact ⟨1 + 1, by omega, by omega, by go_num, HNN.out, HB.out⟩
                case measure => simp [intOf]
              · obtain ⟨v1, v2⟩ := isChar_bounds hic.symm
                have HR := Sp.hid (refBytes_any v wo v1 v2)
                have hsd : encM v = bs.take 1 → decM bs = some (v, 1) := fun h => same_dec hic.symm h (by rw [← HM.out]; exact hsm)
                have hnn : encM v ≠ bs.take 1 → ∀ r n, decM bs = some (r, n) → 1 + 1 ≤ n := fun hne r n h => by
                  have h1 := HNO.out r n h
                  rcases Nat.lt_or_ge 1 n with h2 | h2
                  · exact h2
                  · exfalso
                    have hn : n = 1 := by omega
                    have h3 := HCDV.out r n h hn
                    have h4 := (enc_dec h).2.2.2
                    rw [hn, ← h3] at h4
                    exact hne h4.symm
                have HSD := Sp.hid hsd
                have HNN := Sp.hid hnn
                have hel : (encM v).length ≤ 4 := by rw [encM_length]; unfold sizeOf_; split; decide; split; decide; split <;> decide
                obtain ⟨L, hL⟩ : ∃ L, L = (encM v).length := ⟨_, rfl⟩
                rw [← hL] at HR hel
                have HL := Sp.hid hL
                clear hsd hnn hic hL
                go_wp2_with fail
                refine HI.out.mono ?_
                rintro e w2 ⟨rfl, rfl⟩
                go_wp2_with fail
                refine HR.out.mono ?_
                rintro e w3 ⟨cc, rfl, hcc, hsl, hb3⟩
                have hs3 := hb3.size
                have HX := Sp.hid hsl
                have HW3 := Sp.hid (HB.out.trans (hb3.mono hsw))
                have hbx : ∃ bq, bq = decide (L = 1) := ⟨_, rfl⟩
                obtain ⟨bq, hbq⟩ := hbx
                have hbe : ((L : Int) == 1) = bq := by rw [hbq, Bool.eq_iff_iff]; simp; omega
                have hb1 : bq = true → L = 1 := fun h => by rw [h] at hbq; simpa using hbq.symm
                have hb0 : bq = false → L ≠ 1 := fun h => by rw [h] at hbq; simpa using hbq.symm
                have HB1 := Sp.hid hb1
                have HB0 := Sp.hid hb0
                clear hsl hb3 HR HI hbq hb1 hb0
                go_wp2
                go_loopw [8, 9] (fun sm i wr => ∃ k : Nat, k ≤ L ∧ i = .int .i64 k ∧ ∃ q : Bool, sm = .bool q ∧ (q = true → L = 1 ∧ (encM v).take k = bs.take k) ∧ (q = false → encM v ≠ bs.take 1) ∧ Below w3.heap.size w3 wr) (fun _ i _ => L - (intOf i).toNat)
                case atStart =>
                  refine ⟨0, by omega, rfl, bq, by first | rfl | rw [hbe], fun h => ⟨HB1.out h, rfl⟩, fun h he => HB0.out h ?_, Below.refl _ _⟩
                  rw [HL.out, he, List.length_take]
                  have := HM.out
                  omega
                case round =>
                  obtain ⟨k, hk, rfl, q, rfl, hq1, hq0, hbx⟩ := hrel
                  have hsx := hbx.size
                  have HQ1 := Sp.hid hq1
                  have HQ0 := Sp.hid hq0
                  have HBX := Sp.hid hbx
                  clear hq1 hq0 hbx
                  cases q
                  · have HNX := Sp.hid (HNN.out (HQ0.out rfl))
                    by_cases hkL : k < L
                    · go_wp2
                      go_roundw
                      case rel => exact ⟨1 + 1, by omega, by omega, by go_num, HNX.out, HW3.out.trans (HBX.out.mono HW3.out.size)⟩
                      case measure => simp [intOf]
                    · go_wp2
                      go_roundw
                      case rel => exact ⟨1 + 1, by omega, by omega, by go_num, HNX.out, HW3.out.trans (HBX.out.mono HW3.out.size)⟩
                      case measure => simp [intOf]
                  · obtain ⟨hLs, htk⟩ := HQ1.out rfl
                    have hLle : L ≤ 1 := by omega
                    have hLge : 1 ≤ L := by omega
                    have HLS := Sp.hid hLs
                    clear hLs
                    by_cases hkL : k < L
                    · have hkv : k < (encM v).length := by rw [← HL.out]; exact hkL
                      have hkb : k < bs.length := by have := HM.out; omega
                      obtain ⟨bx, ox, hax, fx, ex⟩ := HX.out.int_cell k hkv
                      cases hax
                      have c1 : wr.cell? ⟨wo.heap.size, 0 + k, none⟩ = some (.int .u8 (encM v)[k]) := by rw [HBX.out.cell (p := ⟨wo.heap.size, _, none⟩) fx.2]; exact ex
                      have c2 : wr.cell? ⟨b, o + k, none⟩ = some (.int .u8 bs[k]) := HCE.out wr (HW3.out.trans (HBX.out.mono HW3.out.size)) k hkb
                      have hi1 : ((k : Int) < (L : Int)) := by omega
                      have hi2 : ((k : Int) < (m : Int)) := by omega
                      have hs1 := List.take_succ_eq_append_getElem hkv
                      have hs2 := List.take_succ_eq_append_getElem hkb
                      obtain ⟨x, hx⟩ : ∃ x, x = (encM v)[k] := ⟨_, rfl⟩
                      obtain ⟨y, hy⟩ : ∃ y, y = bs[k] := ⟨_, rfl⟩
                      rw [← hx] at c1 hs1
                      rw [← hy] at c2 hs2
                      have hne : x ≠ y → encM v ≠ bs.take 1 := fun hxy he => by
                        apply hxy
                        rw [hx, hy]
                        have : (encM v)[k]? = bs[k]? := by
                          rw [he, List.getElem?_take]
                          simp [show k < 1 by omega]
                        rw [List.getElem?_eq_getElem hkv, List.getElem?_eq_getElem hkb] at this
                        exact Option.some.inj this
                      have HNE := Sp.hid hne
                      have HT := Sp.hid htk
                      have HS1 := Sp.hid hs1
                      have HS2 := Sp.hid hs2
                      clear hx hy hne htk hs1 hs2 ex
                      simp only [Nat.zero_add] at c1
                      cases hxy : (x == y)
                      · have hxn : x ≠ y := by simpa using hxy
                        have HXN := Sp.hid hxn
                        clear hxn
                        go_wp2_with fail
                        go_quiet (fail)
                        go_wp2
                        go_roundw
                        case rel => exact ⟨k + 1, by omega, by go_num, false, rfl, (fun h => by cases h), (fun _ => HNE.out HXN.out), below_drewN HBX.out _⟩
                        case measure => simp [intOf]; omega
                      · have hxe : x = y := by simpa using hxy
                        have HXE := Sp.hid hxe
                        clear hxe
                        go_wp2_with fail
                        go_quiet (fail)
                        go_wp2
                        go_roundw
                        case rel => exact ⟨k + 1, by omega, by go_num, true, rfl, (fun _ => ⟨HLS.out, by rw [HS1.out, HS2.out, HT.out, HXE.out]⟩), (fun h => by cases h), below_drewN HBX.out _⟩
                        case measure => simp [intOf]; omega
                    · obtain rfl : k = L := by omega
                      have he : encM v = bs.take 1 := by
                        rw [← HLS.out, ← htk, HL.out, List.take_length]
                      have hv := HS.out v 1 (HSD.out he)
                      have HV := Sp.hid hv
                      clear hv he htk
                      go_wp2
                      go_ret2
                      exact ⟨by rw [HV.out]; rfl, HW3.out.trans (HBX.out.mono HW3.out.size)⟩
        · have hoff : c - offOf 2 = c - 192 := by rfl
          have HOFF := Sp.hid hoff
          clear hoff
          go_wp2
          go_loop [5, 6] (fun v i => ∃ j : Nat, j ≤ 2 - 1 ∧ i = .int .i64 ((j : Int) + 1) ∧ v = .int .i64 (cand c t 2 j)) (fun _ i => 2 - (intOf i).toNat)
          case atStart => exact ⟨0, by omega, rfl, by unfold cand; rw [HOFF.out]; rfl⟩
          case round =>
            obtain ⟨j, hj, rfl, rfl⟩ := hrel
            by_cases hjs : j < 2 - 1
            · have hjt : j < t.length := by omega
              have ec := HCR.out j hjt
              have hnx := cand_next (c := c) (s := 2) hjt
              have htx := HTB.out t[j] (List.getElem_mem _)
              obtain ⟨x, hx⟩ : ∃ x, x = t[j] := ⟨_, rfl⟩
              rw [← hx] at ec hnx htx
              obtain ⟨b1, b2⟩ := HBN.out j (by omega)
              have hp : (100 : Int) ^ j ≤ 1000000 := by
                have : j = 0 ∨ j = 1 ∨ j = 2 := by omega
                rcases this with rfl | rfl | rfl <;> decide
              obtain ⟨v, hv⟩ : ∃ v, v = cand c t 2 j := ⟨_, rfl⟩
              rw [← hv] at hnx b1 b2 ⊢
              have v1 : -1000000000 ≤ v := by omega
              have v2 : v ≤ 1000000000 := by omega
              have x1 := htx.1
              have x2 := htx.2
              have HNX := Sp.hid hnx
              clear hnx hx hv b1 b2 hp htx
              go_wp2
              go_round
              case rel => exact ⟨j + 1, by omega, by go_num, by rw [HNX.out]⟩
              case measure => simp [intOf]; omega
            · obtain rfl : j = 2 - 1 := by omega
              obtain ⟨v, hv⟩ : ∃ v, v = cand c t 2 (2 - 1) := ⟨_, rfl⟩
              rw [← hv]
              have hcd : ∀ r n, decM bs = some (r, n) → n = 2 → v = r := fun r n h hn => by rw [hv]; subst hn; exact HCD.out r _ h
              have HCDV := Sp.hid hcd
              have HI := Sp.hid (refIs_any v wo)
              obtain ⟨ic, hic⟩ : ∃ ic, ic = isChar v := ⟨_, rfl⟩
              rw [← hic] at HI
              clear hcd hv
              cases ic
              · have hnn : ∀ r n, decM bs = some (r, n) → 2 + 1 ≤ n := fun r n h => by
                  have h1 := HNO.out r n h
                  rcases Nat.lt_or_ge 2 n with h2 | h2
                  · exact h2
                  · exfalso
                    have h3 := HCDV.out r n h (by omega)
                    have h4 := (enc_dec h).1
                    rw [← h3, ← hic] at h4
                    cases h4
                have HNN := Sp.hid hnn
                clear hnn hic
                go_wp2_with fail
                refine HI.out.mono ?_
                rintro e w2 ⟨rfl, rfl⟩
                go_wp2
                go_roundw
                case rel => exact ⟨2 + 1, by omega, by omega, by go_num, HNN.out, HB.out⟩
                case measure => simp [intOf]
              · obtain ⟨v1, v2⟩ := isChar_bounds hic.symm
                have HR := Sp.hid (refBytes_any v wo v1 v2)
                have hsd : encM v = bs.take 2 → decM bs = some (v, 2) := fun h => same_dec hic.symm h (by rw [← HM.out]; exact hsm)
                have hnn : encM v ≠ bs.take 2 → ∀ r n, decM bs = some (r, n) → 2 + 1 ≤ n := fun hne r n h => by
                  have h1 := HNO.out r n h
                  rcases Nat.lt_or_ge 2 n with h2 | h2
                  · exact h2
                  · exfalso
                    have hn : n = 2 := by omega
                    have h3 := HCDV.out r n h hn
                    have h4 := (enc_dec h).2.2.2
                    rw [hn, ← h3] at h4
                    exact hne h4.symm
                have HSD := Sp.hid hsd
                have HNN := Sp.hid hnn
                have hel : (encM v).length ≤ 4 := by rw [encM_length]; unfold sizeOf_; split; decide; split; decide; split <;> decide
                obtain ⟨L, hL⟩ : ∃ L, L = (encM v).length := ⟨_, rfl⟩
                rw [← hL] at HR hel
                have HL := Sp.hid hL
                clear hsd hnn hic hL
                go_wp2_with fail
                refine HI.out.mono ?_
                rintro e w2 ⟨rfl, rfl⟩
                go_wp2_with fail
                refine HR.out.mono ?_
                rintro e w3 ⟨cc, rfl, hcc, hsl, hb3⟩
                have hs3 := hb3.size
                have HX := Sp.hid hsl
                have HW3 := Sp.hid (HB.out.trans (hb3.mono hsw))
                have hbx : ∃ bq, bq = decide (L = 2) := ⟨_, rfl⟩
                obtain ⟨bq, hbq⟩ := hbx
                have hbe : ((L : Int) == 2) = bq := by rw [hbq, Bool.eq_iff_iff]; simp; omega
                have hb1 : bq = true → L = 2 := fun h => by rw [h] at hbq; simpa using hbq.symm
                have hb0 : bq = false → L ≠ 2 := fun h => by rw [h] at hbq; simpa using hbq.symm
                have HB1 := Sp.hid hb1
                have HB0 := Sp.hid hb0
                clear hsl hb3 HR HI hbq hb1 hb0
                go_wp2
                go_loopw [8, 9] (fun sm i wr => ∃ k : Nat, k ≤ L ∧ i = .int .i64 k ∧ ∃ q : Bool, sm = .bool q ∧ (q = true → L = 2 ∧ (encM v).take k = bs.take k) ∧ (q = false → encM v ≠ bs.take 2) ∧ Below w3.heap.size w3 wr) (fun _ i _ => L - (intOf i).toNat)
                case atStart =>
                  refine ⟨0, by omega, rfl, bq, by first | rfl | rw [hbe], fun h => ⟨HB1.out h, rfl⟩, fun h he => HB0.out h ?_, Below.refl _ _⟩
                  rw [HL.out, he, List.length_take]
                  have := HM.out
                  omega
                case round =>
                  obtain ⟨k, hk, rfl, q, rfl, hq1, hq0, hbx⟩ := hrel
                  have hsx := hbx.size
                  have HQ1 := Sp.hid hq1
                  have HQ0 := Sp.hid hq0
                  have HBX := Sp.hid hbx
                  clear hq1 hq0 hbx
                  cases q
                  · have HNX := Sp.hid (HNN.out (HQ0.out rfl))
                    by_cases hkL : k < L
                    · go_wp2
                      go_roundw
                      case rel => exact ⟨2 + 1, by omega, by omega, by go_num, HNX.out, HW3.out.trans (HBX.out.mono HW3.out.size)⟩
                      case measure => simp [intOf]
                    · go_wp2
                      go_roundw
                      case rel => exact ⟨2 + 1, by omega, by omega, by go_num, HNX.out, HW3.out.trans (HBX.out.mono HW3.out.size)⟩
                      case measure => simp [intOf]
                  · obtain ⟨hLs, htk⟩ := HQ1.out rfl
                    have hLle : L ≤ 2 := by omega
                    have hLge : 2 ≤ L := by omega
                    have HLS := Sp.hid hLs
                    clear hLs
                    by_cases hkL : k < L
                    · have hkv : k < (encM v).length := by rw [← HL.out]; exact hkL
                      have hkb : k < bs.length := by have := HM.out; omega
                      obtain ⟨bx, ox, hax, fx, ex⟩ := HX.out.int_cell k hkv
                      cases hax
                      have c1 : wr.cell? ⟨wo.heap.size, 0 + k, none⟩ = some (.int .u8 (encM v)[k]) := by rw [HBX.out.cell (p := ⟨wo.heap.size, _, none⟩) fx.2]; exact ex
                      have c2 : wr.cell? ⟨b, o + k, none⟩ = some (.int .u8 bs[k]) := HCE.out wr (HW3.out.trans (HBX.out.mono HW3.out.size)) k hkb
                      have hi1 : ((k : Int) < (L : Int)) := by omega
                      have hi2 : ((k : Int) < (m : Int)) := by omega
                      have hs1 := List.take_succ_eq_append_getElem hkv
                      have hs2 := List.take_succ_eq_append_getElem hkb
                      obtain ⟨x, hx⟩ : ∃ x, x = (encM v)[k] := ⟨_, rfl⟩
                      obtain ⟨y, hy⟩ : ∃ y, y = bs[k] := ⟨_, rfl⟩
                      rw [← hx] at c1 hs1
                      rw [← hy] at c2 hs2
                      have hne : x ≠ y → encM v ≠ bs.take 2 := fun hxy he => by
                        apply hxy
                        rw [hx, hy]
                        have : (encM v)[k]? = bs[k]? := by
                          rw [he, List.getElem?_take]
                          simp [show k < 2 by omega]
                        rw [List.getElem?_eq_getElem hkv, List.getElem?_eq_getElem hkb] at this
                        exact Option.some.inj this
                      have HNE := Sp.hid hne
                      have HT := Sp.hid htk
                      have HS1 := Sp.hid hs1
                      have HS2 := Sp.hid hs2
                      clear hx hy hne htk hs1 hs2 ex
                      simp only [Nat.zero_add] at c1
                      cases hxy : (x == y)
                      · have hxn : x ≠ y := by simpa using hxy
                        have HXN := Sp.hid hxn
                        clear hxn
                        go_wp2_with fail
                        go_quiet (fail)
                        go_wp2
                        go_roundw
                        case rel => exact ⟨k + 1, by omega, by go_num, false, rfl, (fun h => by cases h), (fun _ => HNE.out HXN.out), below_drewN HBX.out _⟩
                        case measure => simp [intOf]; omega
                      · have hxe : x = y := by simpa using hxy
                        have HXE := Sp.hid hxe
                        clear hxe
                        go_wp2_with fail
                        go_quiet (fail)
                        go_wp2
                        go_roundw
                        case rel => exact ⟨k + 1, by omega, by go_num, true, rfl, (fun _ => ⟨HLS.out, by rw [HS1.out, HS2.out, HT.out, HXE.out]⟩), (fun h => by cases h), below_drewN HBX.out _⟩
                        case measure => simp [intOf]; omega
                    · obtain rfl : k = L := by omega
                      have he : encM v = bs.take 2 := by
                        rw [← HLS.out, ← htk, HL.out, List.take_length]
                      have hv := HS.out v 2 (HSD.out he)
                      have HV := Sp.hid hv
                      clear hv he htk
                      go_wp2
                      go_ret2
                      exact ⟨by rw [HV.out]; rfl, HW3.out.trans (HBX.out.mono HW3.out.size)⟩
        · have hoff : c - offOf 3 = c - 224 := by rfl
          have HOFF := Sp.hid hoff
          clear hoff
          go_wp2
          go_loop [5, 6] (fun v i => ∃ j : Nat, j ≤ 3 - 1 ∧ i = .int .i64 ((j : Int) + 1) ∧ v = .int .i64 (cand c t 3 j)) (fun _ i => 3 - (intOf i).toNat)
          case atStart => exact ⟨0, by omega, rfl, by unfold cand; rw [HOFF.out]; rfl⟩
          case round =>
            obtain ⟨j, hj, rfl, rfl⟩ := hrel
            by_cases hjs : j < 3 - 1
            · have hjt : j < t.length := by omega
              have ec := HCR.out j hjt
              have hnx := cand_next (c := c) (s := 3) hjt
              have htx := HTB.out t[j] (List.getElem_mem _)
              obtain ⟨x, hx⟩ : ∃ x, x = t[j] := ⟨_, rfl⟩
              rw [← hx] at ec hnx htx
              obtain ⟨b1, b2⟩ := HBN.out j (by omega)
              have hp : (100 : Int) ^ j ≤ 1000000 := by
                have : j = 0 ∨ j = 1 ∨ j = 2 := by omega
                rcases this with rfl | rfl | rfl <;> decide
              obtain ⟨v, hv⟩ : ∃ v, v = cand c t 3 j := ⟨_, rfl⟩
              rw [← hv] at hnx b1 b2 ⊢
              have v1 : -1000000000 ≤ v := by omega
              have v2 : v ≤ 1000000000 := by omega
              have x1 := htx.1
              have x2 := htx.2
              have HNX := Sp.hid hnx
              clear hnx hx hv b1 b2 hp htx
              go_wp2
              go_round
              case rel => exact ⟨j + 1, by omega, by go_num, by rw [HNX.out]⟩
              case measure => simp [intOf]; omega
            · obtain rfl : j = 3 - 1 := by omega
              obtain ⟨v, hv⟩ : ∃ v, v = cand c t 3 (3 - 1) := ⟨_, rfl⟩
              rw [← hv]
              have hcd : ∀ r n, decM bs = some (r, n) → n = 3 → v = r := fun r n h hn => by rw [hv]; subst hn; exact HCD.out r _ h
              have HCDV := Sp.hid hcd
              have HI := Sp.hid (refIs_any v wo)
              obtain ⟨ic, hic⟩ : ∃ ic, ic = isChar v := ⟨_, rfl⟩
              rw [← hic] at HI
              clear hcd hv
              cases ic
              · have hnn : ∀ r n, decM bs = some (r, n) → 3 + 1 ≤ n := fun r n h => by
                  have h1 := HNO.out r n h
                  rcases Nat.lt_or_ge 3 n with h2 | h2
                  · exact h2
                  · exfalso
                    have h3 := HCDV.out r n h (by omega)
                    have h4 := (enc_dec h).1
                    rw [← h3, ← hic] at h4
                    cases h4
                have HNN := Sp.hid hnn
                clear hnn hic
                go_wp2_with fail
                refine HI.out.mono ?_
                rintro e w2 ⟨rfl, rfl⟩
                go_wp2
                go_roundw
                case rel => exact ⟨3 + 1, by omega, by omega, by go_num, HNN.out, HB.out⟩
                case measure => simp [intOf]
              · obtain ⟨v1, v2⟩ := isChar_bounds hic.symm
                have HR := Sp.hid (refBytes_any v wo v1 v2)
                have hsd : encM v = bs.take 3 → decM bs = some (v, 3) := fun h => same_dec hic.symm h (by rw [← HM.out]; exact hsm)
                have hnn : encM v ≠ bs.take 3 → ∀ r n, decM bs = some (r, n) → 3 + 1 ≤ n := fun hne r n h => by
                  have h1 := HNO.out r n h
                  rcases Nat.lt_or_ge 3 n with h2 | h2
                  · exact h2
                  · exfalso
                    have hn : n = 3 := by omega
                    have h3 := HCDV.out r n h hn
                    have h4 := (enc_dec h).2.2.2
                    rw [hn, ← h3] at h4
                    exact hne h4.symm
                have HSD := Sp.hid hsd
                have HNN := Sp.hid hnn
                have hel : (encM v).length ≤ 4 := by rw [encM_length]; unfold sizeOf_; split; decide; split; decide; split <;> decide
                obtain ⟨L, hL⟩ : ∃ L, L = (encM v).length := ⟨_, rfl⟩
                rw [← hL] at HR hel
                have HL := Sp.hid hL
                clear hsd hnn hic hL
                go_wp2_with fail
                refine HI.out.mono ?_
                rintro e w2 ⟨rfl, rfl⟩
                go_wp2_with fail
                refine HR.out.mono ?_
                rintro e w3 ⟨cc, rfl, hcc, hsl, hb3⟩
                have hs3 := hb3.size
                have HX := Sp.hid hsl
                have HW3 := Sp.hid (HB.out.trans (hb3.mono hsw))
                have hbx : ∃ bq, bq = decide (L = 3) := ⟨_, rfl⟩
                obtain ⟨bq, hbq⟩ := hbx
                have hbe : ((L : Int) == 3) = bq := by rw [hbq, Bool.eq_iff_iff]; simp; omega
                have hb1 : bq = true → L = 3 := fun h => by rw [h] at hbq; simpa using hbq.symm
                have hb0 : bq = false → L ≠ 3 := fun h => by rw [h] at hbq; simpa using hbq.symm
                have HB1 := Sp.hid hb1
                have HB0 := Sp.hid hb0
                clear hsl hb3 HR HI hbq hb1 hb0
                go_wp2
                go_loopw [8, 9] (fun sm i wr => ∃ k : Nat, k ≤ L ∧ i = .int .i64 k ∧ ∃ q : Bool, sm = .bool q ∧ (q = true → L = 3 ∧ (encM v).take k = bs.take k) ∧ (q = false → encM v ≠ bs.take 3) ∧ Below w3.heap.size w3 wr) (fun _ i _ => L - (intOf i).toNat)
                case atStart =>
                  refine ⟨0, by omega, rfl, bq, by first | rfl | rw [hbe], fun h => ⟨HB1.out h, rfl⟩, fun h he => HB0.out h ?_, Below.refl _ _⟩
                  rw [HL.out, he, List.length_take]
                  have := HM.out
                  omega
                case round =>
                  obtain ⟨k, hk, rfl, q, rfl, hq1, hq0, hbx⟩ := hrel
                  have hsx := hbx.size
                  have HQ1 := Sp.hid hq1
                  have HQ0 := Sp.hid hq0
                  have HBX := Sp.hid hbx
                  clear hq1 hq0 hbx
                  cases q
                  · have HNX := Sp.hid (HNN.out (HQ0.out rfl))
                    by_cases hkL : k < L
                    · go_wp2
                      go_roundw
                      case rel => exact ⟨3 + 1, by omega, by omega, by go_num, HNX.out, HW3.out.trans (HBX.out.mono HW3.out.size)⟩
                      case measure => simp [intOf]
                    · go_wp2
                      go_roundw
                      case rel => exact ⟨3 + 1, by omega, by omega, by go_num, HNX.out, HW3.out.trans (HBX.out.mono HW3.out.size)⟩
                      case measure => simp [intOf]
                  · obtain ⟨hLs, htk⟩ := HQ1.out rfl
                    have hLle : L ≤ 3 := by omega
                    have hLge : 3 ≤ L := by omega
                    have HLS := Sp.hid hLs
                    clear hLs
                    by_cases hkL : k < L
                    · have hkv : k < (encM v).length := by rw [← HL.out]; exact hkL
                      have hkb : k < bs.length := by have := HM.out; omega
                      obtain ⟨bx, ox, hax, fx, ex⟩ := HX.out.int_cell k hkv
                      cases hax
                      have c1 : wr.cell? ⟨wo.heap.size, 0 + k, none⟩ = some (.int .u8 (encM v)[k]) := by rw [HBX.out.cell (p := ⟨wo.heap.size, _, none⟩) fx.2]; exact ex
                      have c2 : wr.cell? ⟨b, o + k, none⟩ = some (.int .u8 bs[k]) := HCE.out wr (HW3.out.trans (HBX.out.mono HW3.out.size)) k hkb
                      have hi1 : ((k : Int) < (L : Int)) := by omega
                      have hi2 : ((k : Int) < (m : Int)) := by omega
                      have hs1 := List.take_succ_eq_append_getElem hkv
                      have hs2 := List.take_succ_eq_append_getElem hkb
                      obtain ⟨x, hx⟩ : ∃ x, x = (encM v)[k] := ⟨_, rfl⟩
                      obtain ⟨y, hy⟩ : ∃ y, y = bs[k] := ⟨_, rfl⟩
                      rw [← hx] at c1 hs1
                      rw [← hy] at c2 hs2
                      have hne : x ≠ y → encM v ≠ bs.take 3 := fun hxy he => by
                        apply hxy
                        rw [hx, hy]
                        have : (encM v)[k]? = bs[k]? := by
                          rw [he, List.getElem?_take]
                          simp [show k < 3 by omega]
                        rw [List.getElem?_eq_getElem hkv, List.getElem?_eq_getElem hkb] at this
                        exact Option.some.inj this
                      have HNE := Sp.hid hne
                      have HT := Sp.hid htk
                      have HS1 := Sp.hid hs1
                      have HS2 := Sp.hid hs2
                      clear hx hy hne htk hs1 hs2 ex
                      simp only [Nat.zero_add] at c1
                      cases hxy : (x == y)
                      · have hxn : x ≠ y := by simpa using hxy
                        have HXN := Sp.hid hxn
                        clear hxn
                        go_wp2_with fail
                        go_quiet (fail)
                        go_wp2
                        go_roundw
                        case rel => exact ⟨k + 1, by omega, by go_num, false, rfl, (fun h => by cases h), (fun _ => HNE.out HXN.out), below_drewN HBX.out _⟩
                        case measure => simp [intOf]; omega
                      · have hxe : x = y := by simpa using hxy
                        have HXE := Sp.hid hxe
                        clear hxe
                        go_wp2_with fail
                        go_quiet (fail)
                        go_wp2
                        go_roundw
                        case rel => exact ⟨k + 1, by omega, by go_num, true, rfl, (fun _ => ⟨HLS.out, by rw [HS1.out, HS2.out, HT.out, HXE.out]⟩), (fun h => by cases h), below_drewN HBX.out _⟩
                        case measure => simp [intOf]; omega
                    · obtain rfl : k = L := by omega
                      have he : encM v = bs.take 3 := by
                        rw [← HLS.out, ← htk, HL.out, List.take_length]
                      have hv := HS.out v 3 (HSD.out he)
                      have HV := Sp.hid hv
                      clear hv he htk
                      go_wp2
                      go_ret2
                      exact ⟨by rw [HV.out]; rfl, HW3.out.trans (HBX.out.mono HW3.out.size)⟩
        · have hoff : c - offOf 4 = c - 240 := by rfl
          have HOFF := Sp.hid hoff
          clear hoff
          go_wp2
          go_loop [5, 6] (fun v i => ∃ j : Nat, j ≤ 4 - 1 ∧ i = .int .i64 ((j : Int) + 1) ∧ v = .int .i64 (cand c t 4 j)) (fun _ i => 4 - (intOf i).toNat)
          case atStart => exact ⟨0, by omega, rfl, by unfold cand; rw [HOFF.out]; rfl⟩
          case round =>
            obtain ⟨j, hj, rfl, rfl⟩ := hrel
            by_cases hjs : j < 4 - 1
            · have hjt : j < t.length := by omega
              have ec := HCR.out j hjt
              have hnx := cand_next (c := c) (s := 4) hjt
              have htx := HTB.out t[j] (List.getElem_mem _)
              obtain ⟨x, hx⟩ : ∃ x, x = t[j] := ⟨_, rfl⟩
              rw [← hx] at ec hnx htx
              obtain ⟨b1, b2⟩ := HBN.out j (by omega)
              have hp : (100 : Int) ^ j ≤ 1000000 := by
                have : j = 0 ∨ j = 1 ∨ j = 2 := by omega
                rcases this with rfl | rfl | rfl <;> decide
              obtain ⟨v, hv⟩ : ∃ v, v = cand c t 4 j := ⟨_, rfl⟩
              rw [← hv] at hnx b1 b2 ⊢
              have v1 : -1000000000 ≤ v := by omega
              have v2 : v ≤ 1000000000 := by omega
              have x1 := htx.1
              have x2 := htx.2
              have HNX := Sp.hid hnx
              clear hnx hx hv b1 b2 hp htx
              go_wp2
              go_round
              case rel => exact ⟨j + 1, by omega, by go_num, by rw [HNX.out]⟩
              case measure => simp [intOf]; omega
            · obtain rfl : j = 4 - 1 := by omega
              obtain ⟨v, hv⟩ : ∃ v, v = cand c t 4 (4 - 1) := ⟨_, rfl⟩
              rw [← hv]
              have hcd : ∀ r n, decM bs = some (r, n) → n = 4 → v = r := fun r n h hn => by rw [hv]; subst hn; exact HCD.out r _ h
              have HCDV := Sp.hid hcd
              have HI := Sp.hid (refIs_any v wo)
              obtain ⟨ic, hic⟩ : ∃ ic, ic = isChar v := ⟨_, rfl⟩
              rw [← hic] at HI
              clear hcd hv
              cases ic
              · have hnn : ∀ r n, decM bs = some (r, n) → 4 + 1 ≤ n := fun r n h => by
                  have h1 := HNO.out r n h
                  rcases Nat.lt_or_ge 4 n with h2 | h2
                  · exact h2
                  · exfalso
                    have h3 := HCDV.out r n h (by omega)
                    have h4 := (enc_dec h).1
                    rw [← h3, ← hic] at h4
                    cases h4
                have HNN := Sp.hid hnn
                clear hnn hic
                go_wp2_with fail
                refine HI.out.mono ?_
                rintro e w2 ⟨rfl, rfl⟩
                go_wp2
                go_roundw
                case rel => exact ⟨4 + 1, by omega, by omega, by go_num, HNN.out, HB.out⟩
                case measure => simp [intOf]
              · obtain ⟨v1, v2⟩ := isChar_bounds hic.symm
                have HR := Sp.hid (refBytes_any v wo v1 v2)
                have hsd : encM v = bs.take 4 → decM bs = some (v, 4) := fun h => same_dec hic.symm h (by rw [← HM.out]; exact hsm)
                have hnn : encM v ≠ bs.take 4 → ∀ r n, decM bs = some (r, n) → 4 + 1 ≤ n := fun hne r n h => by
                  have h1 := HNO.out r n h
                  rcases Nat.lt_or_ge 4 n with h2 | h2
                  · exact h2
                  · exfalso
                    have hn : n = 4 := by omega
                    have h3 := HCDV.out r n h hn
                    have h4 := (enc_dec h).2.2.2
                    rw [hn, ← h3] at h4
                    exact hne h4.symm
                have HSD := Sp.hid hsd
                have HNN := Sp.hid hnn
                have hel : (encM v).length ≤ 4 := by rw [encM_length]; unfold sizeOf_; split; decide; split; decide; split <;> decide
                obtain ⟨L, hL⟩ : ∃ L, L = (encM v).length := ⟨_, rfl⟩
                rw [← hL] at HR hel
                have HL := Sp.hid hL
                clear hsd hnn hic hL
                go_wp2_with fail
                refine HI.out.mono ?_
                rintro e w2 ⟨rfl, rfl⟩
                go_wp2_with fail
                refine HR.out.mono ?_
                rintro e w3 ⟨cc, rfl, hcc, hsl, hb3⟩
                have hs3 := hb3.size
                have HX := Sp.hid hsl
                have HW3 := Sp.hid (HB.out.trans (hb3.mono hsw))
                have hbx : ∃ bq, bq = decide (L = 4) := ⟨_, rfl⟩
                obtain ⟨bq, hbq⟩ := hbx
                have hbe : ((L : Int) == 4) = bq := by rw [hbq, Bool.eq_iff_iff]; simp; omega
                have hb1 : bq = true → L = 4 := fun h => by rw [h] at hbq; simpa using hbq.symm
                have hb0 : bq = false → L ≠ 4 := fun h => by rw [h] at hbq; simpa using hbq.symm
                have HB1 := Sp.hid hb1
                have HB0 := Sp.hid hb0
                clear hsl hb3 HR HI hbq hb1 hb0
                go_wp2
                go_loopw [8, 9] (fun sm i wr => ∃ k : Nat, k ≤ L ∧ i = .int .i64 k ∧ ∃ q : Bool, sm = .bool q ∧ (q = true → L = 4 ∧ (encM v).take k = bs.take k) ∧ (q = false → encM v ≠ bs.take 4) ∧ Below w3.heap.size w3 wr) (fun _ i _ => L - (intOf i).toNat)
                case atStart =>
                  refine ⟨0, by omega, rfl, bq, by first | rfl | rw [hbe], fun h => ⟨HB1.out h, rfl⟩, fun h he => HB0.out h ?_, Below.refl _ _⟩
                  rw [HL.out, he, List.length_take]
                  have := HM.out
                  omega
                case round =>
                  obtain ⟨k, hk, rfl, q, rfl, hq1, hq0, hbx⟩ := hrel
                  have hsx := hbx.size
                  have HQ1 := Sp.hid hq1
                  have HQ0 := Sp.hid hq0
                  have HBX := Sp.hid hbx
                  clear hq1 hq0 hbx
                  cases q
                  · have HNX := Sp.hid (HNN.out (HQ0.out rfl))
                    by_cases hkL : k < L
                    · go_wp2
                      go_roundw
                      case rel => exact ⟨4 + 1, by omega, by omega, by go_num, HNX.out, HW3.out.trans (HBX.out.mono HW3.out.size)⟩
                      case measure => simp [intOf]
                    · go_wp2
                      go_roundw
                      case rel => exact ⟨4 + 1, by omega, by omega, by go_num, HNX.out, HW3.out.trans (HBX.out.mono HW3.out.size)⟩
                      case measure => simp [intOf]
                  · obtain ⟨hLs, htk⟩ := HQ1.out rfl
                    have hLle : L ≤ 4 := by omega
                    have hLge : 4 ≤ L := by omega
                    have HLS := Sp.hid hLs
                    clear hLs
                    by_cases hkL : k < L
                    · have hkv : k < (encM v).length := by rw [← HL.out]; exact hkL
                      have hkb : k < bs.length := by have := HM.out; omega
                      obtain ⟨bx, ox, hax, fx, ex⟩ := HX.out.int_cell k hkv
                      cases hax
                      have c1 : wr.cell? ⟨wo.heap.size, 0 + k, none⟩ = some (.int .u8 (encM v)[k]) := by rw [HBX.out.cell (p := ⟨wo.heap.size, _, none⟩) fx.2]; exact ex
                      have c2 : wr.cell? ⟨b, o + k, none⟩ = some (.int .u8 bs[k]) := HCE.out wr (HW3.out.trans (HBX.out.mono HW3.out.size)) k hkb
                      have hi1 : ((k : Int) < (L : Int)) := by omega
                      have hi2 : ((k : Int) < (m : Int)) := by omega
                      have hs1 := List.take_succ_eq_append_getElem hkv
                      have hs2 := List.take_succ_eq_append_getElem hkb
                      obtain ⟨x, hx⟩ : ∃ x, x = (encM v)[k] := ⟨_, rfl⟩
                      obtain ⟨y, hy⟩ : ∃ y, y = bs[k] := ⟨_, rfl⟩
                      rw [← hx] at c1 hs1
                      rw [← hy] at c2 hs2
                      have hne : x ≠ y → encM v ≠ bs.take 4 := fun hxy he => by
                        apply hxy
                        rw [hx, hy]
                        have : (encM v)[k]? = bs[k]? := by
                          rw [he, List.getElem?_take]
                          simp [show k < 4 by omega]
                        rw [List.getElem?_eq_getElem hkv, List.getElem?_eq_getElem hkb] at this
                        exact Option.some.inj this
                      have HNE := Sp.hid hne
                      have HT := Sp.hid htk
                      have HS1 := Sp.hid hs1
                      have HS2 := Sp.hid hs2
                      clear hx hy hne htk hs1 hs2 ex
                      simp only [Nat.zero_add] at c1
                      cases hxy : (x == y)
                      · have hxn : x ≠ y := by simpa using hxy
                        have HXN := Sp.hid hxn
                        clear hxn
                        go_wp2_with fail
                        go_quiet (fail)
                        go_wp2
                        go_roundw
                        case rel => exact ⟨k + 1, by omega, by go_num, false, rfl, (fun h => by cases h), (fun _ => HNE.out HXN.out), below_drewN HBX.out _⟩
                        case measure => simp [intOf]; omega
                      · have hxe : x = y := by simpa using hxy
                        have HXE := Sp.hid hxe
                        clear hxe
                        go_wp2_with fail
                        go_quiet (fail)
                        go_wp2
                        go_roundw
                        case rel => exact ⟨k + 1, by omega, by go_num, true, rfl, (fun _ => ⟨HLS.out, by rw [HS1.out, HS2.out, HT.out, HXE.out]⟩), (fun h => by cases h), below_drewN HBX.out _⟩
                        case measure => simp [intOf]; omega
                    · obtain rfl : k = L := by omega
                      have he : encM v = bs.take 4 := by
                        rw [← HLS.out, ← htk, HL.out, List.take_length]
                      have hv := HS.out v 4 (HSD.out he)
                      have HV := Sp.hid hv
                      clear hv he htk
                      go_wp2
                      go_ret2
                      exact ⟨by rw [HV.out]; rfl, HW3.out.trans (HBX.out.mono HW3.out.size)⟩
      · have hn : decM bs = none := by
          cases hd : decM bs with
          | none => rfl
          | some q =>
            obtain ⟨r, n⟩ := q
            have h1 := HNO.out r n hd
            have h2 := (dec_size hd).2.2
            have := HM.out
            omega
        have hv := HN.out hn
        have HV := Sp.hid hv
        clear hv hn
        go_wp2
        go_ret2
        exact ⟨by rw [HV.out]; rfl, HB.out⟩
    · have hn : decM bs = none := by
        cases hd : decM bs with
        | none => rfl
        | some q =>
          obtain ⟨r, n⟩ := q
          have h1 := HNO.out r n hd
          have h2 := (dec_size hd).2.1
          omega
      have hv := HN.out hn
      have HV := Sp.hid hv
      clear hv hn
      go_wp2
      go_ret2
      exact ⟨by rw [HV.out]; rfl, HB.out⟩

end Go.Proofs.YtbhdkionphemdaaDoor
