/- Merged: Plain laws of characters and bytes: what is encoded is decoded, and what is decoded is an encoding · utf.Decode: what it returns at a place of a row of bytes · utf.Check: up to which place bytes are characters · tree.written: is a text of characters alone? Conditions: none but the table of spans as laid. Conditions: those of the parts. -/
import Derived.Test.YtoknglpfchjbjaaGreatDoorUtf
import Derived.OwnWalk
import Derived.WalkMore
import Derived.Laws.IdiomStrings
import Derived.Laws.Rows
/- Plain laws of characters and bytes: what is encoded is decoded, and what is decoded is an encoding. Conditions: none. -/
namespace Go.Proofs.YtoknglpfchjbjaaGreatDoor

def isCont (c : Int) : Bool := decide (128 ≤ c) && decide (c ≤ 191)
def foldC (r : Int) (cs : List Int) : Int := cs.foldl (fun r c => r * 64 + (c - 128)) r
/-- The character at the beginning of bytes, and how many it has. -/
def decM : List Int → Option (Int × Nat)
  | [] => none
  | c :: t =>
    if (beginOf c).1 ≠ 0 ∧ (beginOf c).1 ≤ t.length + 1 ∧ (t.take ((beginOf c).1 - 1)).all isCont = true ∧ sizeOf_ (foldC (beginOf c).2 (t.take ((beginOf c).1 - 1))) = (beginOf c).1 ∧ isChar (foldC (beginOf c).2 (t.take ((beginOf c).1 - 1))) = true
    then some (foldC (beginOf c).2 (t.take ((beginOf c).1 - 1)), (beginOf c).1) else none

def encM (r : Int) : List Int :=
  if r < 128 then [r] else if r < 2048 then [192 + r / 64, 128 + r % 64] else if r < 65536 then [224 + r / 4096, 128 + r / 64 % 64, 128 + r % 64]
  else [240 + r / 262144, 128 + r / 4096 % 64, 128 + r / 64 % 64, 128 + r % 64]

theorem encM_length (r : Int) : (encM r).length = sizeOf_ r := by
  unfold encM sizeOf_
  split
  · rfl
  split
  · rfl
  split <;> rfl

theorem isChar_bounds {r : Int} (h : isChar r = true) : 0 ≤ r ∧ r ≤ 1114111 := by
  unfold isChar at h
  simp only [Bool.or_eq_true, Bool.and_eq_true, decide_eq_true_eq] at h
  omega

theorem begin_cases (c : Int) : (c < 128 ∧ beginOf c = (1, c)) ∨ (192 ≤ c ∧ c < 224 ∧ beginOf c = (2, c - 192)) ∨ (224 ≤ c ∧ c < 240 ∧ beginOf c = (3, c - 224)) ∨ (240 ≤ c ∧ c < 248 ∧ beginOf c = (4, c - 240)) ∨ ((beginOf c).1 = 0) := by
  unfold beginOf
  by_cases h1 : c < 128
  · left; exact ⟨h1, by rw [if_pos h1]⟩
  rw [if_neg h1]
  by_cases h2 : c < 192
  · rw [if_pos h2]; simp
  rw [if_neg h2]
  by_cases h3 : c < 224
  · right; left; exact ⟨by omega, h3, by rw [if_pos h3]⟩
  rw [if_neg h3]
  by_cases h4 : c < 240
  · right; right; left; exact ⟨by omega, h4, by rw [if_pos h4]⟩
  rw [if_neg h4]
  by_cases h5 : c < 248
  · right; right; right; left; exact ⟨by omega, h5, by rw [if_pos h5]⟩
  rw [if_neg h5]; simp

/-- What is encoded is decoded. -/
theorem dec_enc (r : Int) (t : List Int) (h : isChar r = true) : decM (encM r ++ t) = some (r, sizeOf_ r) := by
  obtain ⟨h0, h1⟩ := isChar_bounds h
  unfold encM
  by_cases c1 : r < 128
  · rw [if_pos c1]
    have hb : beginOf r = (1, r) := by rcases begin_cases r with h | h | h | h | h <;> first | exact h.2 | omega | (unfold beginOf at h; rw [if_pos c1] at h; simp at h)
    have hs : sizeOf_ r = 1 := by unfold sizeOf_; rw [if_pos c1]
    simp [decM, hb, foldC, hs, h]
  rw [if_neg c1]
  by_cases c2 : r < 2048
  · rw [if_pos c2]
    have hb : beginOf (192 + r / 64) = (2, r / 64) := by
      unfold beginOf
      rw [if_neg (by omega), if_neg (by omega), if_pos (by omega)]
      congr 1; omega
    have hs : sizeOf_ r = 2 := by unfold sizeOf_; rw [if_neg c1, if_pos c2]
    have hf : r / 64 * 64 + (128 + r % 64 - 128) = r := by omega
    have hc : isCont (128 + r % 64) = true := by unfold isCont; simp only [Bool.and_eq_true, decide_eq_true_eq]; omega
    simp [decM, hb, foldC, hf, hs, h, hc]
  rw [if_neg c2]
  by_cases c3 : r < 65536
  · rw [if_pos c3]
    have hb : beginOf (224 + r / 4096) = (3, r / 4096) := by
      unfold beginOf
      rw [if_neg (by omega), if_neg (by omega), if_neg (by omega), if_pos (by omega)]
      congr 1; omega
    have hs : sizeOf_ r = 3 := by unfold sizeOf_; rw [if_neg c1, if_neg c2, if_pos c3]
    have hf : (r / 4096 * 64 + (128 + r / 64 % 64 - 128)) * 64 + (128 + r % 64 - 128) = r := by omega
    have hc : isCont (128 + r % 64) = true := by unfold isCont; simp only [Bool.and_eq_true, decide_eq_true_eq]; omega
    have hc2 : isCont (128 + r / 64 % 64) = true := by unfold isCont; simp only [Bool.and_eq_true, decide_eq_true_eq]; omega
    simp [decM, hb, foldC, hf, hs, h, hc, hc2]
  · rw [if_neg c3]
    have hb : beginOf (240 + r / 262144) = (4, r / 262144) := by
      unfold beginOf
      rw [if_neg (by omega), if_neg (by omega), if_neg (by omega), if_neg (by omega), if_pos (by omega)]
      congr 1; omega
    have hs : sizeOf_ r = 4 := by unfold sizeOf_; rw [if_neg c1, if_neg c2, if_neg c3]
    have hf : ((r / 262144 * 64 + (128 + r / 4096 % 64 - 128)) * 64 + (128 + r / 64 % 64 - 128)) * 64 + (128 + r % 64 - 128) = r := by omega
    have hc : isCont (128 + r % 64) = true := by unfold isCont; simp only [Bool.and_eq_true, decide_eq_true_eq]; omega
    have hc2 : isCont (128 + r / 64 % 64) = true := by unfold isCont; simp only [Bool.and_eq_true, decide_eq_true_eq]; omega
    have hc3 : isCont (128 + r / 4096 % 64) = true := by unfold isCont; simp only [Bool.and_eq_true, decide_eq_true_eq]; omega
    simp [decM, hb, foldC, hf, hs, h, hc, hc2, hc3]

theorem size_one {r : Int} (h : sizeOf_ r = 1) : r < 128 := by unfold sizeOf_ at h; split at h; assumption; split at h; cases h; split at h <;> cases h
theorem size_two {r : Int} (h : sizeOf_ r = 2) : 128 ≤ r ∧ r < 2048 := by unfold sizeOf_ at h; split at h; cases h; split at h; omega; split at h <;> cases h
theorem size_three {r : Int} (h : sizeOf_ r = 3) : 2048 ≤ r ∧ r < 65536 := by unfold sizeOf_ at h; split at h; cases h; split at h; cases h; split at h; omega; cases h
theorem size_four {r : Int} (h : sizeOf_ r = 4) : 65536 ≤ r := by unfold sizeOf_ at h; split at h; cases h; split at h; cases h; split at h; cases h; omega

theorem cont_bounds {c : Int} (h : isCont c = true) : 128 ≤ c ∧ c ≤ 191 := by unfold isCont at h; simpa using h

/-- What is decoded is an encoding. -/
theorem enc_dec {bs : List Int} {r : Int} {n : Nat} (h : decM bs = some (r, n)) : isChar r = true ∧ n = sizeOf_ r ∧ n ≤ bs.length ∧ bs.take n = encM r := by
  cases bs with
  | nil => simp [decM] at h
  | cons c t =>
    rw [decM] at h
    split at h
    · rename_i hc
      obtain ⟨h1, h2, h3, h4, h5⟩ := hc
      simp only [Option.some.injEq, Prod.mk.injEq] at h
      obtain ⟨rfl, rfl⟩ := h
      refine ⟨h5, h4.symm, by simpa using h2, ?_⟩
      obtain ⟨b0, b1⟩ := isChar_bounds h5
      rcases begin_cases c with ⟨k1, hb⟩ | ⟨k1, k2, hb⟩ | ⟨k1, k2, hb⟩ | ⟨k1, k2, hb⟩ | hb
      · rw [hb] at h4 h5 b0 b1 ⊢
        simp [foldC, encM, k1]
      · rw [hb] at h2 h3 h4 h5 b0 b1 ⊢
        match t, h2 with
        | x :: t, _ =>
          simp [foldC] at h3 h4 h5 b0 b1 ⊢
          have := cont_bounds h3
          have hz := size_two h4
          unfold encM; rw [if_neg (by omega), if_pos (by omega)]
          simp only [List.cons.injEq, and_true]
          omega
      · rw [hb] at h2 h3 h4 h5 b0 b1 ⊢
        match t, h2 with
        | x :: y :: t, _ =>
          simp [foldC] at h3 h4 h5 b0 b1 ⊢
          have := cont_bounds h3.1
          have := cont_bounds h3.2
          have hz := size_three h4
          unfold encM; rw [if_neg (by omega), if_neg (by omega), if_pos (by omega)]
          simp only [List.cons.injEq, and_true]
          omega
      · rw [hb] at h2 h3 h4 h5 b0 b1 ⊢
        match t, h2 with
        | x :: y :: z :: t, _ =>
          simp [foldC] at h3 h4 h5 b0 b1 ⊢
          have := cont_bounds h3.1
          have := cont_bounds h3.2.1
          have := cont_bounds h3.2.2
          have hz := size_four h4
          unfold encM; rw [if_neg (by omega), if_neg (by omega), if_neg (by omega)]
          simp only [List.cons.injEq, and_true]
          omega
      · exact absurd hb h1
    · simp at h

end Go.Proofs.YtoknglpfchjbjaaGreatDoor

/- utf.Decode: what it returns at a place of a row of bytes. Conditions: the place is in the row. -/
namespace Go.Proofs.YtoknglpfchjbjaaGreatDoor
open Go.RowKit Go.Sp

def decV (bs : List Int) : Value := match decM bs with
  | none => .tuple #[.int .i32 0, .int .i64 0, .int .i64 10]
  | some (r, n) => .tuple #[.int .i32 r, .int .i64 (n : Nat), .int .i64 0]

theorem decM_none {c : Int} {t : List Int} (h : ¬ ((beginOf c).1 ≠ 0 ∧ (beginOf c).1 ≤ t.length + 1 ∧ (t.take ((beginOf c).1 - 1)).all isCont = true ∧ sizeOf_ (foldC (beginOf c).2 (t.take ((beginOf c).1 - 1))) = (beginOf c).1 ∧ isChar (foldC (beginOf c).2 (t.take ((beginOf c).1 - 1))) = true)) :
    decV (c :: t) = .tuple #[.int .i32 0, .int .i64 0, .int .i64 10] := by
  simp only [decV, decM]
  rw [if_neg h]
theorem decM_some {c : Int} {t : List Int} (h : (beginOf c).1 ≠ 0 ∧ (beginOf c).1 ≤ t.length + 1 ∧ (t.take ((beginOf c).1 - 1)).all isCont = true ∧ sizeOf_ (foldC (beginOf c).2 (t.take ((beginOf c).1 - 1))) = (beginOf c).1 ∧ isChar (foldC (beginOf c).2 (t.take ((beginOf c).1 - 1))) = true) :
    decV (c :: t) = .tuple #[.int .i32 (foldC (beginOf c).2 (t.take ((beginOf c).1 - 1))), .int .i64 ((beginOf c).1 : Nat), .int .i64 0] := by
  simp only [decV, decM]
  rw [if_pos h]

theorem begin_bounds {c : Int} (h0 : 0 ≤ c) : (beginOf c).1 ≤ 4 ∧ 0 ≤ (beginOf c).2 ∧ (beginOf c).2 < 128 := by
  unfold beginOf
  split
  · exact ⟨by show (1 : Nat) ≤ 4; decide, h0, by assumption⟩
  split
  · exact ⟨by decide, by decide, by decide⟩
  split
  · dsimp only; omega
  split
  · dsimp only; omega
  split
  · dsimp only; omega
  · exact ⟨by decide, by decide, by decide⟩

theorem foldC_snoc (r : Int) (cs : List Int) (c : Int) : foldC r (cs ++ [c]) = foldC r cs * 64 + (c - 128) := by unfold foldC; rw [List.foldl_append]; rfl

theorem or6 (r c : Int) (h0 : 0 ≤ r) (h1 : r < 524288) (c0 : 128 ≤ c) (c1 : c ≤ 191) : bits .or .i32 (r * 64) (c - 128) = r * 64 + (c - 128) :=
  bits_join .i32 31 (by decide) wraps_i32 6 (r * 64) (c - 128) (by omega) (by omega) (by omega) (by omega) (by omega) (by omega)

set_option maxHeartbeats 2000000 in
theorem decode_any (F : Nat → Prop) (a : Option Addr) (cap k : Nat) (bs : List Int) (w : World) (hbs : Sl (Shape.int .u8) F w a bs) (hbd : ∀ x ∈ bs, 0 ≤ x ∧ x ≤ 255) (hk : k < bs.length) (hcap : bs.length ≤ cap) (hlen : bs.length ≤ 9223372036854775807) (hsp : SpansAt w) :
    Calls Tryz.prog 89 #[.slice a bs.length cap, .int .i64 k] w fun e w' => e = .returned (decV (bs.drop k)) ∧ Below w.heap.size w w' := by
  obtain ⟨b, o, rfl, hf, e0⟩ := hbs.int_cell k hk
  obtain ⟨c, hc⟩ : ∃ c, c = bs[k] := ⟨_, rfl⟩
  obtain ⟨t, ht⟩ : ∃ t, t = bs.drop (k + 1) := ⟨_, rfl⟩
  have htl : t.length + (k + 1) = bs.length := by rw [ht, List.length_drop]; omega
  rw [← hc] at e0
  have hdrop : bs.drop k = c :: t := by rw [ht, hc]; exact List.drop_eq_getElem_cons hk
  rw [hdrop]
  have hcb := hbd c (by rw [hc]; exact List.getElem_mem _)
  have htb : ∀ j (hj : j < t.length), w.cell? ⟨b, o + (k + 1) + j, none⟩ = some (.int .u8 t[j]) ∧ 0 ≤ t[j] ∧ t[j] ≤ 255 := fun j hj => by
    have h1 : k + 1 + j < bs.length := by omega
    have ht' : t[j] = bs[k + 1 + j] := by simp [ht]
    obtain ⟨b', o', hb', _, e1⟩ := hbs.int_cell (k + 1 + j) h1
    cases hb'
    refine ⟨?_, ?_⟩
    · rw [ht', ← e1]; congr 2; omega
    · rw [ht']; exact hbd _ (List.getElem_mem _)
  have hbn := begin_bounds hcb.1
  obtain ⟨n, hn⟩ : ∃ n, n = (beginOf c).1 := ⟨_, rfl⟩
  obtain ⟨r0, hr0⟩ : ∃ r0, r0 = (beginOf c).2 := ⟨_, rfl⟩
  have hbeg := begin_any c w hcb.1 hcb.2
  have hN : ∀ h : ¬ (n ≠ 0 ∧ n ≤ t.length + 1 ∧ (t.take (n - 1)).all isCont = true ∧ sizeOf_ (foldC r0 (t.take (n - 1))) = n ∧ isChar (foldC r0 (t.take (n - 1))) = true), decV (c :: t) = .tuple #[.int .i32 0, .int .i64 0, .int .i64 10] := by
    rw [hn, hr0]; exact decM_none
  have hS : ∀ h : (n ≠ 0 ∧ n ≤ t.length + 1 ∧ (t.take (n - 1)).all isCont = true ∧ sizeOf_ (foldC r0 (t.take (n - 1))) = n ∧ isChar (foldC r0 (t.take (n - 1))) = true), decV (c :: t) = .tuple #[.int .i32 (foldC r0 (t.take (n - 1))), .int .i64 (n : Nat), .int .i64 0] := by
    rw [hn, hr0]; exact decM_some
  rw [← hn, ← hr0] at hbeg hbn
  obtain ⟨V, hV⟩ : ∃ V, V = decV (c :: t) := ⟨_, rfl⟩
  rw [← hV] at hN hS ⊢
  have HN := Sp.hid hN
  have HS := Sp.hid hS
  have HBEG := Sp.hid hbeg
  have HTB := Sp.hid htb
  have HSP := Sp.hid hsp
  have htl1 : t.length + 1 ≤ bs.length - k := by omega
  have htl2 : bs.length - k ≤ t.length + 1 := by omega
  obtain ⟨m, hm⟩ : ∃ m, m = bs.length := ⟨_, rfl⟩
  rw [← hm] at htl htl1 htl2 hk hcap hlen ⊢
  have e0' : w.cell? ⟨b, o + k, none⟩ = some (.int .u8 c) := by simpa using e0
  clear hN hS hbeg htb hsp hV hn hr0 hdrop ht hc hbs hbd e0 htl hm
  have hc1 := hcb.1
  have hc2 := hcb.2
  have hn4 := hbn.1
  have hr1 := hbn.2.1
  have hr2 := hbn.2.2
  clear hcb hbn
  go_enter Tryz.func89, Tryz.ntmps89
  go_wp2_with fail
  refine HBEG.out.mono ?_
  rintro e w1 ⟨rfl, rfl⟩
  by_cases h0 : n = 0
  · subst h0
    have hv := HN.out (by simp)
    have HV := Sp.hid hv
    clear hv HN HS
    go_wp2
    go_ret3
    exact ⟨by rw [HV.out]; rfl, Below.refl _ _⟩
  by_cases h1 : (m : Int) - k < n
  · have hv := HN.out (by omega)
    have HV := Sp.hid hv
    clear hv HN HS
    have h0' : (n : Int) ≠ 0 := by omega
    have hd0 : ((n : Int) == 0) = false := by simpa using h0
    go_wp2
    go_ret3
    exact ⟨by rw [HV.out]; rfl, Below.refl _ _⟩
  have h0' : 0 < n := by omega
  have hd0 : ((n : Int) == 0) = false := by simpa using h0
  by_cases hce : cap = k + 1
  · obtain rfl : n = 1 := by omega
    go_wp2
    go_loop [8, 45] (fun r i => ∃ j : Nat, j ≤ 1 - 1 ∧ i = .int .i64 j ∧ r = .int .i32 (foldC r0 (t.take j)) ∧ (t.take j).all isCont = true ∧ 0 ≤ foldC r0 (t.take j) ∧ foldC r0 (t.take j) < 128 * 64 ^ j) (fun _ i => 1 - 1 - (intOf i).toNat)
    case atStart => exact ⟨0, by omega, rfl, rfl, rfl, hr1, by simpa [foldC] using hr2⟩
    case round =>
      obtain ⟨j, hj, rfl, rfl, hall, hp, hq⟩ := hrel
      by_cases hlt : j < 1 - 1
      · exact absurd hlt (by omega)
      · obtain rfl : j = 1 - 1 := by omega
        obtain ⟨r, hr⟩ : ∃ r, r = foldC r0 (t.take (1 - 1)) := ⟨_, rfl⟩
        rw [← hr] at hp HN HS ⊢
        have hsz := size_any r w
        have HSZ := Sp.hid hsz
        have HIS := Sp.hid (is_any r w HSP.out)
        obtain ⟨z, hz⟩ : ∃ z, z = sizeOf_ r := ⟨_, rfl⟩
        rw [← hz] at HSZ HN HS
        obtain ⟨ic, hic⟩ : ∃ ic, ic = isChar r := ⟨_, rfl⟩
        rw [← hic] at HIS HN HS
        have HALL := Sp.hid hall
        clear hsz hz hic hr hall hq
        by_cases hzn : z = 1
        · subst hzn
          cases ic
          · have hv := HN.out (by simp)
            have HV := Sp.hid hv
            clear hv HN HS
            go_wp2_with fail
            refine HSZ.out.mono ?_
            rintro e w2 ⟨rfl, rfl⟩
            go_wp2_with fail
            refine HIS.out.mono ?_
            rintro e w3 ⟨rfl, hb3⟩
            have HB3 := Sp.hid hb3
            clear hb3
            go_wp2
            go_ret3
            exact ⟨by rw [HV.out]; rfl, HB3.out⟩
          · have hv := HS.out ⟨h0, by omega, HALL.out, rfl, rfl⟩
            have HV := Sp.hid hv
            clear hv HN HS
            go_wp2_with fail
            refine HSZ.out.mono ?_
            rintro e w2 ⟨rfl, rfl⟩
            go_wp2_with fail
            refine HIS.out.mono ?_
            rintro e w3 ⟨rfl, hb3⟩
            have HB3 := Sp.hid hb3
            clear hb3
            go_wp2
            go_ret3
            exact ⟨by rw [HV.out]; rfl, HB3.out⟩
        · have hv := HN.out (fun h => hzn h.2.2.2.1)
          have HV := Sp.hid hv
          have hzb : ((z : Int) != (1 : Int)) = true := by simp; omega
          clear hv HN HS
          go_wp2_with fail
          refine HSZ.out.mono ?_
          rintro e w2 ⟨rfl, rfl⟩
          go_wp2
          go_ret3
          exact ⟨by rw [HV.out]; rfl, Below.refl _ _⟩
  go_wp2
  go_loop [8, 45] (fun r i => ∃ j : Nat, j ≤ n - 1 ∧ i = .int .i64 j ∧ r = .int .i32 (foldC r0 (t.take j)) ∧ (t.take j).all isCont = true ∧ 0 ≤ foldC r0 (t.take j) ∧ foldC r0 (t.take j) < 128 * 64 ^ j) (fun _ i => n - 1 - (intOf i).toNat)
  case atStart => exact ⟨0, by omega, rfl, rfl, rfl, hr1, by simpa [foldC] using hr2⟩
  case round =>
    obtain ⟨j, hj, rfl, rfl, hall, hp, hq⟩ := hrel
    by_cases hlt : j < n - 1
    · have hjt : j < t.length := by omega
      obtain ⟨et, hx0, hx1⟩ := HTB.out j hjt
      have htk := List.take_succ_eq_append_getElem hjt
      obtain ⟨x, hx⟩ : ∃ x, x = t[j] := ⟨_, rfl⟩
      rw [← hx] at et hx0 hx1 htk
      obtain ⟨r, hr⟩ : ∃ r, r = foldC r0 (t.take j) := ⟨_, rfl⟩
      have hfs : foldC r0 (t.take (j + 1)) = r * 64 + (x - 128) := by rw [htk, foldC_snoc, hr]
      rw [← hr] at hp hq ⊢
      have hcx : isCont x = false → (t.take (n - 1)).all isCont = false := fun hcx => by
        rw [← Bool.not_eq_true, List.all_eq_true]
        intro h
        have := h x (by rw [hx]; exact List.mem_of_getElem? (i := j) (by rw [List.getElem?_take]; simp [hlt, hjt]))
        rw [hcx] at this; cases this
      have hal2 : isCont x = true → (t.take (j + 1)).all isCont = true := fun hcx => by rw [htk, List.all_append, hall]; simp [hcx]
      have HCX := Sp.hid hcx
      have HAL2 := Sp.hid hal2
      have HFS := Sp.hid hfs
      have HQ := Sp.hid hq
      clear hx hr hcx hal2 hfs htk hall hq
      by_cases x1 : x < 128
      · have hv := HN.out (fun h => by have := HCX.out (by unfold isCont; simp; omega); rw [h.2.2.1] at this; cases this)
        have HV := Sp.hid hv
        clear hv HN HS
        go_wp2
        go_ret3
        exact ⟨by rw [HV.out]; rfl, Below.refl _ _⟩
      by_cases x2 : 191 < x
      · have hv := HN.out (fun h => by have := HCX.out (by unfold isCont; simp; omega); rw [h.2.2.1] at this; cases this)
        have HV := Sp.hid hv
        clear hv HN HS
        go_wp2
        go_ret3
        exact ⟨by rw [HV.out]; rfl, Below.refl _ _⟩
      have hj2 : j ≤ 2 := by omega
      have hr3 : r < 524288 := by
        have := HQ.out
        have : j = 0 ∨ j = 1 ∨ j = 2 := by omega
        rcases this with rfl | rfl | rfl <;> simp at * <;> omega
      have hor := or6 r x hp hr3 (by omega) (by omega)
      have HOR := Sp.hid hor
      clear hor
      go_wp2
      go_round
      case rel =>
        have hcx : isCont x = true := by unfold isCont; simp; omega
        have hq2 := HQ.out
        have : (64 : Int) ^ (j + 1) = 64 ^ j * 64 := Int.pow_succ ..
        refine ⟨j + 1, by omega, by go_num, by rw [HFS.out], HAL2.out hcx, by rw [HFS.out]; omega, ?_⟩
        rw [HFS.out]; omega
      case measure => simp [intOf]; omega
    · obtain rfl : j = n - 1 := by omega
      obtain ⟨r, hr⟩ : ∃ r, r = foldC r0 (t.take (n - 1)) := ⟨_, rfl⟩
      rw [← hr] at hp HN HS ⊢
      have hsz := size_any r w
      have HSZ := Sp.hid hsz
      have HIS := Sp.hid (is_any r w HSP.out)
      obtain ⟨z, hz⟩ : ∃ z, z = sizeOf_ r := ⟨_, rfl⟩
      rw [← hz] at HSZ HN HS
      obtain ⟨ic, hic⟩ : ∃ ic, ic = isChar r := ⟨_, rfl⟩
      rw [← hic] at HIS HN HS
      have HALL := Sp.hid hall
      clear hsz hz hic hr hall hq
      by_cases hzn : z = n
      · subst hzn
        cases ic
        · have hv := HN.out (by simp)
          have HV := Sp.hid hv
          clear hv HN HS
          go_wp2_with fail
          refine HSZ.out.mono ?_
          rintro e w2 ⟨rfl, rfl⟩
          go_wp2_with fail
          refine HIS.out.mono ?_
          rintro e w3 ⟨rfl, hb3⟩
          have HB3 := Sp.hid hb3
          clear hb3
          go_wp2
          go_ret3
          exact ⟨by rw [HV.out]; rfl, HB3.out⟩
        · have hv := HS.out ⟨h0, by omega, HALL.out, rfl, rfl⟩
          have HV := Sp.hid hv
          clear hv HN HS
          go_wp2_with fail
          refine HSZ.out.mono ?_
          rintro e w2 ⟨rfl, rfl⟩
          go_wp2_with fail
          refine HIS.out.mono ?_
          rintro e w3 ⟨rfl, hb3⟩
          have HB3 := Sp.hid hb3
          clear hb3
          go_wp2
          go_ret3
          exact ⟨by rw [HV.out]; rfl, HB3.out⟩
      · have hv := HN.out (fun h => hzn h.2.2.2.1)
        have HV := Sp.hid hv
        have hzb : ((z : Int) != (n : Int)) = true := by simp; omega
        clear hv HN HS
        go_wp2_with fail
        refine HSZ.out.mono ?_
        rintro e w2 ⟨rfl, rfl⟩
        go_wp2
        go_ret3
        exact ⟨by rw [HV.out]; rfl, Below.refl _ _⟩

end Go.Proofs.YtoknglpfchjbjaaGreatDoor

/- utf.Check: up to which place bytes are characters. Conditions: at most 1000 bytes. -/
namespace Go.Proofs.YtoknglpfchjbjaaGreatDoor
open Go.RowKit Go.Sp

/-- The first k bytes are the characters rs. -/
def Part (bs rs : List Int) (k : Nat) : Prop := rs.all isChar = true ∧ k ≤ bs.length ∧ bs.take k = rs.flatMap encM
/-- The characters of bytes, up to the first place where none stands, and that place. -/
def Chars (bs rs : List Int) (k : Nat) : Prop := Part bs rs k ∧ decM (bs.drop k) = none

theorem Part.next {bs rs : List Int} {k n : Nat} {r : Int} (h : Part bs rs k) (hd : decM (bs.drop k) = some (r, n)) : Part bs (rs ++ [r]) (k + n) := by
  obtain ⟨h1, h2, h3⟩ := h
  obtain ⟨e1, e2, e3, e4⟩ := enc_dec hd
  rw [List.length_drop] at e3
  refine ⟨by rw [List.all_append, h1]; simp [e1], by omega, ?_⟩
  rw [List.take_add, h3, e4, List.flatMap_append]
  simp

theorem size_pos (r : Int) : 1 ≤ sizeOf_ r := by unfold sizeOf_; split; decide; split; decide; split <;> decide
theorem dec_pos {bs : List Int} {r : Int} {n : Nat} (h : decM bs = some (r, n)) : 1 ≤ n := by rw [(enc_dec h).2.1]; exact size_pos r

/-- The same, told by what follows. -/
theorem chars_split {bs rs : List Int} {k : Nat} (h : Chars bs rs k) : bs = rs.flatMap encM ++ bs.drop k ∧ k = (rs.flatMap encM).length := by
  obtain ⟨⟨h1, h2, h3⟩, h4⟩ := h
  refine ⟨by rw [← h3, List.take_append_drop], by rw [← h3, List.length_take]; omega⟩

theorem split_uniq : ∀ {rs rs' t t' : List Int}, rs.all isChar = true → rs'.all isChar = true → decM t = none → decM t' = none → rs.flatMap encM ++ t = rs'.flatMap encM ++ t' → rs = rs' ∧ t = t'
  | [], [], _, _, _, _, _, _, h => ⟨rfl, by simpa using h⟩
  | [], r :: rs, t, t', _, h2, h3, _, h => by
    simp only [List.flatMap_nil, List.nil_append, List.flatMap_cons, List.append_assoc] at h
    rw [h, dec_enc r _ (by simp only [List.all_cons, Bool.and_eq_true] at h2; exact h2.1)] at h3
    cases h3
  | r :: rs, [], t, t', h1, _, _, h3, h => by
    simp only [List.flatMap_nil, List.nil_append, List.flatMap_cons, List.append_assoc] at h
    rw [← h, dec_enc r _ (by simp only [List.all_cons, Bool.and_eq_true] at h1; exact h1.1)] at h3
    cases h3
  | r :: rs, r' :: rs', t, t', h1, h2, h3, h4, h => by
    simp only [List.flatMap_cons, List.append_assoc, List.all_cons, Bool.and_eq_true] at h h1 h2
    have d1 := dec_enc r (rs.flatMap encM ++ t) h1.1
    have d2 := dec_enc r' (rs'.flatMap encM ++ t') h2.1
    rw [h, d2] at d1
    simp only [Option.some.injEq, Prod.mk.injEq] at d1
    obtain ⟨rfl, _⟩ := d1
    obtain ⟨rfl, rfl⟩ := split_uniq h1.2 h2.2 h3 h4 (List.append_cancel_left h)
    exact ⟨rfl, rfl⟩

theorem chars_uniq {bs rs rs' : List Int} {k k' : Nat} (h : Chars bs rs k) (h' : Chars bs rs' k') : rs = rs' ∧ k = k' := by
  obtain ⟨a1, a2⟩ := chars_split h
  obtain ⟨b1, b2⟩ := chars_split h'
  obtain ⟨rfl, _⟩ := split_uniq h.1.1 h'.1.1 h.2 h'.2 (a1.symm.trans b1)
  exact ⟨rfl, by rw [a2, b2]⟩

/-- Characters are their own. -/
theorem chars_enc {rs : List Int} (h : rs.all isChar = true) : Chars (rs.flatMap encM) rs (rs.flatMap encM).length :=
  ⟨⟨h, Nat.le_refl _, List.take_length⟩, by rw [List.drop_length]; rfl⟩

/-- What follows whole characters. -/
theorem chars_app {a b rs rs' : List Int} {k : Nat} (h : Chars a rs a.length) (h' : Chars b rs' k) : Chars (a ++ b) (rs ++ rs') (a.length + k) := by
  obtain ⟨⟨h1, h2, h3⟩, h4⟩ := h
  obtain ⟨⟨g1, g2, g3⟩, g4⟩ := h'
  rw [List.take_length] at h3
  refine ⟨⟨by rw [List.all_append, h1, g1]; rfl, by rw [List.length_append]; omega, ?_⟩, ?_⟩
  · rw [List.take_length_add_append, g3, List.flatMap_append, ← h3]
  · rw [List.drop_length_add_append]; exact g4

theorem SpansAt.below {w w' : World} {B : Nat} (h : SpansAt w) (hb : Below B w w') (hB : w.heap.size ≤ B) : SpansAt w' := by
  have s0 := h 0 (by decide)
  have hg : 1 < w.heap.size := World.block_lt_of_cell? w _ s0
  exact CellsAt.frame h (hb.block _ (by omega))

set_option maxHeartbeats 1000000 in
theorem check_any (F : Nat → Prop) (a : Option Addr) (cap : Nat) (bs : List Int) (w : World) (hbs : Sl (Shape.int .u8) F w a bs) (hF : ∀ k, F k → k < w.heap.size) (hbd : ∀ x ∈ bs, 0 ≤ x ∧ x ≤ 255) (hcap : bs.length ≤ cap) (hlen : bs.length ≤ 9223372036854775807) (hsp : SpansAt w) :
    Calls Tryz.prog 73 #[.slice a bs.length cap] w fun e w' => ∃ k rs, Chars bs rs k ∧ k ≤ bs.length ∧ e = .returned (.tuple #[.int .i64 (k : Nat), .int .i64 (if k < bs.length then 10 else 0)]) ∧ Below w.heap.size w w' := by
  have HBS := Sp.hid hbs
  have HF := Sp.hid hF
  have HBD := Sp.hid hbd
  have HSP := Sp.hid hsp
  clear hbs hF hbd hsp
  obtain ⟨m, hm⟩ : ∃ m, m = bs.length := ⟨_, rfl⟩
  have HM := Sp.hid hm
  rw [← hm] at hcap hlen ⊢
  clear hm
  go_enter Tryz.func73, Tryz.ntmps73
  go_wp2
  go_step3
  go_wp2
  go_step3
  go_wp2
  go_loopw [4] (fun i wr => ∃ k : Nat, k ≤ m ∧ i = .int .i64 k ∧ (∃ rs, Part bs rs k) ∧ Below w.heap.size w wr) (fun i _ => m - (intOf i).toNat)
  case atStart => exact ⟨0, by omega, rfl, ⟨[], rfl, by omega, rfl⟩, Below.refl _ _⟩
  case round =>
    obtain ⟨k, hk, rfl, ⟨rs, hp⟩, hb⟩ := hrel
    by_cases hlt : k < m
    · have hsz := hb.size
      have hd := decode_any F a cap k bs wr (HBS.out.below HF.out hb) HBD.out (by rw [← HM.out]; exact hlt) (by rw [← HM.out]; exact hcap) (by rw [← HM.out]; exact hlen) (HSP.out.below hb (Nat.le_refl _))
      rw [← HM.out] at hd
      have HD := Sp.hid hd
      have HP := Sp.hid hp
      have HB := Sp.hid hb
      clear hd hp hb
      cases hdm : decM (bs.drop k) with
      | none =>
        have hdv : decV (bs.drop k) = .tuple #[.int .i32 0, .int .i64 0, .int .i64 10] := by unfold decV; rw [hdm]
        have HDM := Sp.hid hdm
        rw [hdv] at HD
        clear hdv hdm
        go_wp2_with fail
        refine HD.out.mono ?_
        rintro e w1 ⟨rfl, hb1⟩
        have HB1 := Sp.hid hb1
        clear hb1
        go_wp2
        try rw [Exit.noGoto_ret]
        go_ret2
        exact ⟨k, rs, ⟨HP.out, HDM.out⟩, hk, by rw [if_pos hlt]; rfl, HB.out.trans (HB1.out.mono hsz)⟩
      | some q =>
        obtain ⟨r, n⟩ := q
        have hdv : decV (bs.drop k) = .tuple #[.int .i32 r, .int .i64 (n : Nat), .int .i64 0] := by unfold decV; rw [hdm]
        have hnx := HP.out.next hdm
        have hn1 := dec_pos hdm
        have hkn := hnx.2.1
        rw [← HM.out] at hkn
        have HNX := Sp.hid hnx
        rw [hdv] at HD
        clear hdv hnx hdm
        go_wp2_with fail
        refine HD.out.mono ?_
        rintro e w1 ⟨rfl, hb1⟩
        have HB1 := Sp.hid hb1
        clear hb1
        go_wp2
        go_roundw
        case rel => exact ⟨k + n, hkn, by go_num, ⟨_, HNX.out⟩, HB.out.trans (HB1.out.mono hsz)⟩
        case measure => simp [intOf]; omega
    · obtain rfl : k = m := by omega
      have HP := Sp.hid hp
      have HB := Sp.hid hb
      clear hp hb
      go_wp2
      try rw [Exit.noGoto_ret]
      go_ret2
      exact ⟨k, rs, ⟨HP.out, by rw [HM.out, List.drop_length]; rfl⟩, hk, by rw [if_neg hlt]; rfl, HB.out⟩

end Go.Proofs.YtoknglpfchjbjaaGreatDoor

/- tree.written: is a text of characters alone? Conditions: none but the table of spans as laid. -/
namespace Go.Proofs.YtoknglpfchjbjaaGreatDoor
open Go.RowKit Go.Sp

def bytesOf (s : ByteArray) : List Int := s.data.toList.map fun b => (b.toNat : Int)
/-- Is a text of characters alone? -/
def isText (s : ByteArray) : Prop := ∃ rs, Chars (bytesOf s) rs (bytesOf s).length

theorem bytesOf_length (s : ByteArray) : (bytesOf s).length = s.size := by unfold bytesOf; rw [List.length_map, Array.length_toList]; rfl

theorem sl_bytes (w : World) (s : ByteArray) (cap : Nat) (e : TypeId) (fz : Nat × Nat) : Sl (Shape.int .u8) (fun b => w.heap.size ≤ b ∧ b < w.heap.size + 1) (w.alloc (.cells (bytesRow s cap) e fz)) (some ⟨w.heap.size, 0, none⟩) (bytesOf s) := by
  intro i hi
  refine ⟨w.heap.size, 0, [.int .u8 (bytesOf s)[i]], rfl, ⟨Nat.le_refl _, Nat.lt_succ_self _⟩, rfl, ?_⟩
  intro j hj
  have hj0 : j = 0 := by simpa using hj
  subst hj0
  have hi2 : i < s.data.size := by rw [bytesOf_length] at hi; exact hi
  have h1 := heap_alloc_new w (.cells (bytesRow s cap) e fz)
  simp only [Shape.int, World.cell?, h1]
  simp [bytesRow, bytesOf, Array.getElem?_append, hi2]
  rw [if_pos (show i < s.size from hi2), Array.getElem?_eq_getElem hi2]
  rfl

set_option maxHeartbeats 1000000 in
theorem written_any (s : ByteArray) (w : World) (hs : s.size ≤ maxLen) (hsp : SpansAt w) : Calls Tryz.prog 67 #[.string s] w fun e w' => ∃ b : Bool, (b = true ↔ isText s) ∧ e = .returned (.bool b) ∧ Below w.heap.size w w' := by
  obtain ⟨cap, hcap⟩ : ∃ cap, cap = grownCap w s.size 0 5 := ⟨_, rfl⟩
  have hcl : s.size ≤ cap := by rw [hcap]; exact grownCap_ge _ _ _ _
  have hcv := run_bytes_of_string (P := Tryz.prog) w 9 119 5 s Tryz.underlying9 Tryz.underlying119 Tryz.underlying5
  rw [← hcap] at hcv
  obtain ⟨w1, hw1⟩ : ∃ w1, w1 = w.drew.alloc (.cells (bytesRow s cap) 5 ((bytesRow s cap).size, (bytesRow s cap).size + 1)) := ⟨_, rfl⟩
  rw [← hw1] at hcv
  have hb1 : Below w.heap.size w w1 := by rw [hw1]; exact (Below.refl _ _).drew.alloc (Nat.le_refl _) _
  have hsz1 : w1.heap.size = w.heap.size + 1 := by rw [hw1]; exact World.size_alloc _ _
  have hsl : Sl (Shape.int .u8) (· < w1.heap.size) w1 (some ⟨w.heap.size, 0, none⟩) (bytesOf s) := by
    have := sl_bytes w.drew s cap 5 ((bytesRow s cap).size, (bytesRow s cap).size + 1)
    rw [← hw1] at this
    exact this.mono (fun b hb => by have h2 : b < w.heap.size + 1 := hb.2; omega)
  have hbd : ∀ x ∈ bytesOf s, 0 ≤ x ∧ x ≤ 255 := fun x hx => by
    unfold bytesOf at hx
    obtain ⟨b, _, rfl⟩ := List.mem_map.1 hx
    have := b.toNat_lt
    omega
  have hbl := bytesOf_length s
  have HC := check_any (· < w1.heap.size) (some ⟨w.heap.size, 0, none⟩) cap (bytesOf s) w1 hsl (fun _ h => h) hbd (by rw [hbl]; exact hcl) (by rw [hbl]; exact hs) (hsp.below hb1 (Nat.le_refl _))
  rw [hbl] at HC
  have HCC := Sp.hid HC
  have HB1 := Sp.hid hb1
  have HBL := Sp.hid hbl
  clear HC hb1 hbl hsl hbd hw1 hcap hsp
  go_enter Tryz.func67, Tryz.ntmps67
  go_wp2_with fail
  refine HCC.out.mono ?_
  rintro e w2 ⟨k, rs, hch, hk, rfl, hb2⟩
  have HB2 := Sp.hid (HB1.out.trans (hb2.mono (by omega)))
  have HCH := Sp.hid hch
  clear hb2 hch
  by_cases hkm : k < s.size
  · rw [if_pos hkm]
    go_wp2
    go_ret
    refine ⟨false, ⟨(fun h => by cases h), fun ⟨rs', h'⟩ => ?_⟩, rfl, HB2.out⟩
    have := (chars_uniq HCH.out h').2
    rw [HBL.out] at this
    omega
  · rw [if_neg hkm]
    obtain rfl : k = s.size := by omega
    go_wp2
    go_ret
    exact ⟨true, ⟨fun _ => ⟨rs, by rw [HBL.out]; exact HCH.out⟩, fun _ => rfl⟩, rfl, HB2.out⟩

end Go.Proofs.YtoknglpfchjbjaaGreatDoor
