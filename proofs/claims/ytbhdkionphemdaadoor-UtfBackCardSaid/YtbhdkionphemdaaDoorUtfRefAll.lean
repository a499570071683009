/- The document's All: the characters of bytes, up to the first place where none stands, and that place. Conditions: at most 1000 bytes. -/
import Derived.Test.YtbhdkionphemdaaDoorUtfRead
namespace Go.Proofs.YtbhdkionphemdaaDoor
open Go.RowKit Go.Sp Go.Maps

theorem infoInt : (Tryd.prog.info? 3).map (fun i => (i.zero, i.size, i.bytes)) = some (some (.int .i64 0), 1, 8) := by kernel_rfl

theorem sl_drop {q : IntKind} {F : Nat → Prop} {w : World} {b o : Nat} {xs : List Int} (h : Sl (Shape.int q) F w (some ⟨b, o, none⟩) xs) (k : Nat) : Sl (Shape.int q) F w (some ⟨b, o + k, none⟩) (xs.drop k) := by
  intro i hi
  have hi' : k + i < xs.length := by rw [List.length_drop] at hi; omega
  obtain ⟨b', o', hb, hF, e⟩ := h.int_cell (k + i) hi'
  cases hb
  refine ⟨b, o + k, [.int q (xs.drop k)[i]], rfl, hF, rfl, ?_⟩
  intro j hj
  have hj0 : j = 0 := by simpa using hj
  subst hj0
  simp only [Shape.int, Nat.mul_one, Nat.add_zero, List.getElem_drop, List.getElem_cons_zero]
  rw [Nat.add_assoc]
  exact e

theorem sl_take {q : IntKind} {F : Nat → Prop} {w : World} {a : Option Addr} {xs : List Int} (h : Sl (Shape.int q) F w a xs) (k : Nat) : Sl (Shape.int q) F w a (xs.take k) := by
  intro i hi
  have hi' : i < xs.length := by rw [List.length_take] at hi; omega
  obtain ⟨b', o', vs, hb, hF, e, hc⟩ := h i hi'
  exact ⟨b', o', vs, hb, hF, by rw [List.getElem_take]; exact e, hc⟩

theorem part_len {bs rs : List Int} {k : Nat} (h : Part bs rs k) : rs.length ≤ k := by
  have h1 : k = (rs.flatMap encM).length := by rw [← h.2.2, List.length_take]; have := h.2.1; omega
  have : ∀ rs : List Int, rs.length ≤ (rs.flatMap encM).length := by
    intro rs
    induction rs with
    | nil => simp
    | cons r rs ih =>
      rw [List.flatMap_cons, List.length_append, List.length_cons, encM_length]
      have := size_pos r
      omega
  rw [h1]; exact this rs

set_option maxHeartbeats 2000000 in
theorem refAll_any (F : Nat → Prop) (a : Option Addr) (cap : Nat) (bs : List Int) (w : World) (hbs : Sl (Shape.int .u8) F w a bs) (hF : ∀ k, F k → k < w.heap.size) (hbd : ∀ x ∈ bs, 0 ≤ x ∧ x ≤ 255) (hcap : bs.length ≤ cap) (hlen : bs.length ≤ 1000) :
    Calls Tryd.prog 13 #[.slice a bs.length cap] w fun e w' => ∃ k rs a' cap', Chars bs rs k ∧ e = .returned (.tuple #[.slice a' rs.length cap', .int .i64 (k : Nat)]) ∧ rs.length ≤ cap' ∧
      Sl (Shape.int .i64) (fun b => w.heap.size ≤ b ∧ b < w'.heap.size) w' a' rs ∧ Below w.heap.size w w' := by
  obtain ⟨i0, hi0, hz0, hz1, hz2⟩ := info_parts infoInt
  have HBS := Sp.hid hbs
  have HF := Sp.hid hF
  have HBD := Sp.hid hbd
  clear hbs hF hbd
  obtain ⟨m, hm⟩ : ∃ m, m = bs.length := ⟨_, rfl⟩
  have HM := Sp.hid hm
  rw [← hm] at hcap hlen ⊢
  clear hm
  go_enter Tryd.func13, Tryd.ntmps13
  go_wp2
  go_loopw [4, 5] (fun v i wr => ∃ k : Nat, k ≤ m ∧ i = .int .i64 k ∧ ∃ rs, Part bs rs k ∧ wr.ownsRow w.heap.size 3 1 v rs.length (rs.map (Value.int .i64)) ∧ Below w.heap.size w wr) (fun _ i _ => m - (intOf i).toNat)
  case atStart => exact ⟨0, by omega, rfl, [], ⟨rfl, by omega, rfl⟩, World.ownsRow_nil _ _ _ _, Below.refl _ _⟩
  case round =>
    obtain ⟨k, hk, rfl, rs, hp, hown, hb⟩ := hrel
    have hsw := hb.size
    have hrl := part_len hp
    by_cases hlt : k < m
    · obtain ⟨b, o, rfl, hfb, _⟩ := HBS.out.int_cell k (by rw [← HM.out]; exact hlt)
      obtain ⟨v0, rfl⟩ : ∃ v0 : Value, v0 = u4 := ⟨_, rfl⟩
      have hdl : (bs.drop k).length = m - k := by rw [List.length_drop, ← HM.out]
      have hrd := refRead_any F (some ⟨b, o + k, none⟩) (cap - k) (bs.drop k) wr (sl_drop (HBS.out.below HF.out hb) k) (fun j hj => by have := HF.out j hj; omega) (fun x hx => HBD.out x (List.mem_of_mem_drop hx)) (by rw [hdl]; omega)
      rw [hdl] at hrd
      have HRD := Sp.hid hrd
      have HP := Sp.hid hp
      have HO := Sp.hid hown
      have HB := Sp.hid hb
      have hck : ¬ cap = k := by omega
      clear hrd hp hown hb hdl
      cases hd : decM (bs.drop k) with
      | none =>
        have hv : readV (bs.drop k) = .tuple #[.int .i64 0, .int .i64 0] := by unfold readV; rw [hd]
        rw [hv] at HRD
        have HD := Sp.hid hd
        clear hv hd
        go_wp2_with fail
        refine HRD.out.mono ?_
        rintro e w1 ⟨rfl, hb1⟩
        have ho1 := ownsRow_below1 HO.out hb1
        obtain ⟨a', cap', rfl, z1, z2, z3, z4, hsl⟩ := own_ints ho1
        have HSL := Sp.hid hsl
        have HB1 := Sp.hid (HB.out.trans (hb1.mono hsw))
        clear z1 z3 z4 hsl hb1 ho1 HO HB
        go_wp2
        go_ret2
        exact ⟨k, rs, a', cap', ⟨HP.out, HD.out⟩, rfl, z2, HSL.out, HB1.out⟩
      | some q =>
        obtain ⟨r, n⟩ := q
        have hv : readV (bs.drop k) = .tuple #[.int .i64 r, .int .i64 (n : Nat)] := by unfold readV; rw [hd]
        rw [hv] at HRD
        have hnx := HP.out.next hd
        obtain ⟨hn1, hn4, _⟩ := dec_size hd
        have hkn := hnx.2.1
        rw [← HM.out] at hkn
        have HNX := Sp.hid hnx
        clear hv hd hnx
        go_wp2_with fail
        refine HRD.out.mono ?_
        rintro e w1 ⟨rfl, hb1⟩
        have hs1 := hb1.size
        have HO1 := Sp.hid (ownsRow_below1 HO.out hb1)
        have HB1 := Sp.hid (HB.out.trans (hb1.mono hsw))
        clear hb1 HO HB
        go_wp2_with (at_builtin; refine wpList_append_own _ rfl _ _ 34 rfl w.heap.size 3 i0 (.int .i64 0) 1 8 Tryd.underlying34 hi0 hz0 hz1 hz2 rfl (by decide) _ _ _ rfl (HO1.out.alloc _) ⟨w1.heap.size, 0, none⟩ 1 1 [.int .i64 r] rfl rfl (cells_new _ [.int .i64 r] _) ?a1 ?a2 ?a3 ?a4 ?a5)
        case a1 => intro u hu; simp only [List.mem_cons, List.not_mem_nil, or_false] at hu; rcases hu with rfl; rfl
        case a2 => unfold maxLen; omega
        case a3 => omega
        case a4 => have := HB1.out.size; simp; omega
        case a5 =>
        intro v' w3 hown' hgrow _
        have hb3 : Below w.heap.size w w3 := (HB1.out.alloc HB1.out.size _).grown hgrow (by have := HB1.out.size; simp; omega) (fun j hj => (HO1.out.lt j hj).1)
        have ho3 : w3.ownsRow w.heap.size 3 1 v' (rs ++ [r]).length ((rs ++ [r]).map (Value.int .i64)) := by
          rw [List.length_append, List.map_append]; exact hown'
        have HO3 := Sp.hid ho3
        have HB3 := Sp.hid hb3
        clear hown' hgrow hb3 ho3
        go_wp2
        go_roundw
        case rel => exact ⟨k + n, by omega, by go_num, rs ++ [r], HNX.out, HO3.out, HB3.out⟩
        case measure => simp [intOf]; omega
    · obtain rfl : k = m := by omega
      obtain ⟨a', cap', rfl, z1, z2, z3, z4, hsl⟩ := own_ints hown
      have HSL := Sp.hid hsl
      have HB := Sp.hid hb
      have HP := Sp.hid hp
      clear z1 z3 z4 hsl hb hown hp
      go_wp2
      go_ret2
      exact ⟨k, rs, a', cap', ⟨HP.out, by rw [HM.out, List.drop_length]; rfl⟩, rfl, z2, HSL.out, HB.out⟩

end Go.Proofs.YtbhdkionphemdaaDoor
