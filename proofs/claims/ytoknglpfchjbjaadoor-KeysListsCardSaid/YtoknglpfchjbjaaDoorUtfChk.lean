/- utf.Check: up to which place bytes are characters. Conditions: at most 1000 bytes. -/
import Derived.Test.YtoknglpfchjbjaaDoorUtfDec
import Derived.WalkMore
namespace Go.Proofs.YtoknglpfchjbjaaDoor
open Go.RowKit Go.Sp

/-- The first k bytes are the characters rs. -/
def Part (bs rs : List Int) (k : Nat) : Prop := rs.all isChar = true ∧ k ≤ bs.length ∧ bs.take k = rs.flatMap encM
/-- The characters of bytes, up to the first place where none stands, and that place. -/
def Chars (bs rs : List Int) (k : Nat) : Prop := Part bs rs k ∧ decM (bs.drop k) = none

theorem Part.next {bs rs : List Int} {k n : Nat} {r : Int} (h : Part bs rs k) (hd : decM (bs.drop k) = some (r, n)) : Part bs (rs ++ [r]) (k + n) := by
  obtain ⟨h1, h2, h3⟩ := h
  obtain ⟨e1, e2, e3, e4⟩ := enc_dec hd
  rw [List.length_drop] at e3
  refine ⟨by rw [List.all_append, h1]; simp [e1], by omega, ?_⟩
  rw [List.take_add, h3, e4, List.flatMap_append]
  simp

theorem size_pos (r : Int) : 1 ≤ sizeOf_ r := by unfold sizeOf_; split; decide; split; decide; split <;> decide
theorem dec_pos {bs : List Int} {r : Int} {n : Nat} (h : decM bs = some (r, n)) : 1 ≤ n := by rw [(enc_dec h).2.1]; exact size_pos r

/-- The same, told by what follows. -/
theorem chars_split {bs rs : List Int} {k : Nat} (h : Chars bs rs k) : bs = rs.flatMap encM ++ bs.drop k ∧ k = (rs.flatMap encM).length := by
  obtain ⟨⟨h1, h2, h3⟩, h4⟩ := h
  refine ⟨by rw [← h3, List.take_append_drop], by rw [← h3, List.length_take]; omega⟩

theorem split_uniq : ∀ {rs rs' t t' : List Int}, rs.all isChar = true → rs'.all isChar = true → decM t = none → decM t' = none → rs.flatMap encM ++ t = rs'.flatMap encM ++ t' → rs = rs' ∧ t = t'
  | [], [], _, _, _, _, _, _, h => ⟨rfl, by simpa using h⟩
  | [], r :: rs, t, t', _, h2, h3, _, h => by
    simp only [List.flatMap_nil, List.nil_append, List.flatMap_cons, List.append_assoc] at h
    rw [h, dec_enc r _ (by simp only [List.all_cons, Bool.and_eq_true] at h2; exact h2.1)] at h3
    cases h3
  | r :: rs, [], t, t', h1, _, _, h3, h => by
    simp only [List.flatMap_nil, List.nil_append, List.flatMap_cons, List.append_assoc] at h
    rw [← h, dec_enc r _ (by simp only [List.all_cons, Bool.and_eq_true] at h1; exact h1.1)] at h3
    cases h3
  | r :: rs, r' :: rs', t, t', h1, h2, h3, h4, h => by
    simp only [List.flatMap_cons, List.append_assoc, List.all_cons, Bool.and_eq_true] at h h1 h2
    have d1 := dec_enc r (rs.flatMap encM ++ t) h1.1
    have d2 := dec_enc r' (rs'.flatMap encM ++ t') h2.1
    rw [h, d2] at d1
    simp only [Option.some.injEq, Prod.mk.injEq] at d1
    obtain ⟨rfl, _⟩ := d1
    obtain ⟨rfl, rfl⟩ := split_uniq h1.2 h2.2 h3 h4 (List.append_cancel_left h)
    exact ⟨rfl, rfl⟩

theorem chars_uniq {bs rs rs' : List Int} {k k' : Nat} (h : Chars bs rs k) (h' : Chars bs rs' k') : rs = rs' ∧ k = k' := by
  obtain ⟨a1, a2⟩ := chars_split h
  obtain ⟨b1, b2⟩ := chars_split h'
  obtain ⟨rfl, _⟩ := split_uniq h.1.1 h'.1.1 h.2 h'.2 (a1.symm.trans b1)
  exact ⟨rfl, by rw [a2, b2]⟩

/-- Characters are their own. -/
theorem chars_enc {rs : List Int} (h : rs.all isChar = true) : Chars (rs.flatMap encM) rs (rs.flatMap encM).length :=
  ⟨⟨h, Nat.le_refl _, List.take_length⟩, by rw [List.drop_length]; rfl⟩

/-- What follows whole characters. -/
theorem chars_app {a b rs rs' : List Int} {k : Nat} (h : Chars a rs a.length) (h' : Chars b rs' k) : Chars (a ++ b) (rs ++ rs') (a.length + k) := by
  obtain ⟨⟨h1, h2, h3⟩, h4⟩ := h
  obtain ⟨⟨g1, g2, g3⟩, g4⟩ := h'
  rw [List.take_length] at h3
  refine ⟨⟨by rw [List.all_append, h1, g1]; rfl, by rw [List.length_append]; omega, ?_⟩, ?_⟩
  · rw [List.take_length_add_append, g3, List.flatMap_append, ← h3]
  · rw [List.drop_length_add_append]; exact g4

theorem SpansAt.below {w w' : World} {B : Nat} (h : SpansAt w) (hb : Below B w w') (hB : w.heap.size ≤ B) : SpansAt w' := by
  have s0 := h 0 (by decide)
  have hg : 0 < w.heap.size := World.block_lt_of_cell? w _ s0
  exact CellsAt.frame h (hb.block _ (by omega))

set_option maxHeartbeats 1000000 in
theorem check_any (F : Nat → Prop) (a : Option Addr) (cap : Nat) (bs : List Int) (w : World) (hbs : Sl (Shape.int .u8) F w a bs) (hF : ∀ k, F k → k < w.heap.size) (hbd : ∀ x ∈ bs, 0 ≤ x ∧ x ≤ 255) (hcap : bs.length ≤ cap) (hlen : bs.length ≤ 9223372036854775807) (hsp : SpansAt w) :
    Calls Tryd.prog 66 #[.slice a bs.length cap] w fun e w' => ∃ k rs, Chars bs rs k ∧ k ≤ bs.length ∧ e = .returned (.tuple #[.int .i64 (k : Nat), .int .i64 (if k < bs.length then 10 else 0)]) ∧ Below w.heap.size w w' := by
  have HBS := Sp.hid hbs
  have HF := Sp.hid hF
  have HBD := Sp.hid hbd
  have HSP := Sp.hid hsp
  clear hbs hF hbd hsp
  obtain ⟨m, hm⟩ : ∃ m, m = bs.length := ⟨_, rfl⟩
  have HM := Sp.hid hm
  rw [← hm] at hcap hlen ⊢
  clear hm
  go_enter Tryd.func66, Tryd.ntmps66
  go_wp2
  go_step3
  go_wp2
  go_step3
  go_wp2
  go_loopw [4] (fun i wr => ∃ k : Nat, k ≤ m ∧ i = .int .i64 k ∧ (∃ rs, Part bs rs k) ∧ Below w.heap.size w wr) (fun i _ => m - (intOf i).toNat)
  case atStart => exact ⟨0, by omega, rfl, ⟨[], rfl, by omega, rfl⟩, Below.refl _ _⟩
  case round =>
    obtain ⟨k, hk, rfl, ⟨rs, hp⟩, hb⟩ := hrel
    by_cases hlt : k < m
    · have hsz := hb.size
      have hd := decode_any F a cap k bs wr (HBS.out.below HF.out hb) HBD.out (by rw [← HM.out]; exact hlt) (by rw [← HM.out]; exact hcap) (by rw [← HM.out]; exact hlen) (HSP.out.below hb (Nat.le_refl _))
      rw [← HM.out] at hd
      have HD := Sp.hid hd
      have HP := Sp.hid hp
      have HB := Sp.hid hb
      clear hd hp hb
      cases hdm : decM (bs.drop k) with
      | none =>
        have hdv : decV (bs.drop k) = .tuple #[.int .i32 0, .int .i64 0, .int .i64 10] := by unfold decV; rw [hdm]
        have HDM := Sp.hid hdm
        rw [hdv] at HD
        clear hdv hdm
        go_wp2_with fail
        refine HD.out.mono ?_
        rintro e w1 ⟨rfl, hb1⟩
        have HB1 := Sp.hid hb1
        clear hb1
        go_wp2
        try rw [Exit.noGoto_ret]
        go_ret2
        exact ⟨k, rs, ⟨HP.out, HDM.out⟩, hk, by rw [if_pos hlt]; rfl, HB.out.trans (HB1.out.mono hsz)⟩
      | some q =>
        obtain ⟨r, n⟩ := q
        have hdv : decV (bs.drop k) = .tuple #[.int .i32 r, .int .i64 (n : Nat), .int .i64 0] := by unfold decV; rw [hdm]
        have hnx := HP.out.next hdm
        have hn1 := dec_pos hdm
        have hkn := hnx.2.1
        rw [← HM.out] at hkn
        have HNX := Sp.hid hnx
        rw [hdv] at HD
        clear hdv hnx hdm
        go_wp2_with fail
        refine HD.out.mono ?_
        rintro e w1 ⟨rfl, hb1⟩
        have HB1 := Sp.hid hb1
        clear hb1
        go_wp2
        go_roundw
        case rel => exact ⟨k + n, hkn, by go_num, ⟨_, HNX.out⟩, HB.out.trans (HB1.out.mono hsz)⟩
        case measure => simp [intOf]; omega
    · obtain rfl : k = m := by omega
      have HP := Sp.hid hp
      have HB := Sp.hid hb
      clear hp hb
      go_wp2
      try rw [Exit.noGoto_ret]
      go_ret2
      exact ⟨k, rs, ⟨HP.out, by rw [HM.out, List.drop_length]; rfl⟩, hk, by rw [if_neg hlt]; rfl, HB.out⟩

end Go.Proofs.YtoknglpfchjbjaaDoor
