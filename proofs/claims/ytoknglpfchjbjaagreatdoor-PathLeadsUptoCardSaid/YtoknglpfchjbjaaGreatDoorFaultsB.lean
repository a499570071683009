/- tree: the other faults of a node: foreign texts, attributes that do not rise, texts side by side. Conditions: the table of spans as laid. -/
import Derived.Test.YtoknglpfchjbjaaGreatDoorFaults
namespace Go.Proofs.YtoknglpfchjbjaaGreatDoor
open Go.RowKit Go.Sp

noncomputable def fault3B (t : ByteArray) (xs : List (ByteArray × ByteArray)) : Bool := !textB t || xs.any fun x => !textB x.2
theorem fault3_any (F : Nat → Prop) (l t : ByteArray) (aa ka : Option Addr) (xs : List (ByteArray × ByteArray)) (ca nk ck : Nat) (w : World) (ht : t.size ≤ maxLen) (hxs : Sl attrS F w aa xs) (hF : ∀ k, F k → k < w.heap.size) (hlen : xs.length ≤ 9223372036854775807) (hsp : SpansAt w) :
    Calls Tryz.prog 65 #[.agg #[.string l, .string t, .slice aa xs.length ca, .slice ka nk ck]] w fun e w' => e = .returned (.bool (fault3B t xs)) ∧ Below w.heap.size w w' := by
  obtain ⟨v, hv⟩ : ∃ v, v = fault3B t xs := ⟨_, rfl⟩
  rw [← hv]
  unfold fault3B at hv
  have HN := Sp.hid (fun W (hb : Below w.heap.size w W) => writtenB_any t W ht (hsp.below hb (Nat.le_refl _)))
  have HC := Sp.hid (fun W (hb : Below w.heap.size w W) => containsForeign_any F aa ca xs W (hxs.below hF hb) (fun k hk => Nat.lt_of_lt_of_le (hF k hk) hb.size) hlen (hsp.below hb (Nat.le_refl _)))
  obtain ⟨n, hn⟩ : ∃ n, n = textB t := ⟨_, rfl⟩
  rw [← hn] at HN
  have hb0 : Below w.heap.size w (w.alloc (.cells #[.string l, .string t, .slice aa xs.length ca, .slice ka nk ck] 29)) := (Below.refl _ _).alloc (Nat.le_refl _) _
  have HB0 := Sp.hid hb0
  rw [← hn] at hv
  have HV := Sp.hid hv
  clear hn hxs hF hsp hb0 hv
  go_enter Tryz.func65, Tryz.ntmps65
  go_wp2_with fail
  refine (HN.out _ HB0.out).mono ?_
  rintro e w1 ⟨rfl, hb⟩
  have HB := Sp.hid (HB0.out.trans (hb.mono (by simp)))
  have hc1 : w1.cell? ⟨w.heap.size, 2, none⟩ = some (.slice aa xs.length ca) := by rw [hb.cell (p := ⟨w.heap.size, 2, none⟩) (by simp)]; simp
  clear hb
  cases n
  · go_wp2
    go_ret
    exact ⟨by rw [HV.out]; simp, HB.out⟩
  · go_wp2_with fail
    refine (HC.out _ HB.out).mono ?_
    rintro e w2 ⟨rfl, hb⟩
    have HB9 := Sp.hid (HB.out.trans (hb.mono HB.out.size))
    clear hb
    go_wp2
    go_ret
    exact ⟨by rw [HV.out]; simp, HB9.out⟩

theorem rises_snoc : ∀ (l : List (ByteArray × ByteArray)) (a b : ByteArray × ByteArray), rises (l ++ [a, b]) = (rises (l ++ [a]) && Op.bytesLess a.1.toList b.1.toList)
  | [], a, b => by simp [rises]
  | [x], a, b => by simp [rises]
  | x :: y :: l, a, b => by
    have := rises_snoc (y :: l) a b
    simp only [List.cons_append] at this ⊢
    rw [rises, rises, this, Bool.and_assoc]
theorem rises_take {xs : List (ByteArray × ByteArray)} {k : Nat} (hk : k + 1 < xs.length) : rises (xs.take (k + 2)) = (rises (xs.take (k + 1)) && Op.bytesLess (xs[k]'(by omega)).1.toList (xs[k + 1]'hk).1.toList) := by
  have h1 := List.take_succ_eq_append_getElem (l := xs) (i := k) (by omega)
  have h2 := List.take_succ_eq_append_getElem hk
  rw [h2, h1, List.append_assoc]
  exact rises_snoc _ _ _
theorem rises_all : ∀ {l : List (ByteArray × ByteArray)} {k : Nat}, rises l = true → rises (l.take k) = true
  | [], k, _ => by simp [rises]
  | [a], k, _ => by cases k <;> simp [rises]
  | a :: b :: l, 0, _ => rfl
  | a :: b :: l, 1, _ => rfl
  | a :: b :: l, k + 2, h => by
    simp only [rises, Bool.and_eq_true] at h
    have := rises_all (k := k + 1) h.2
    simp only [List.take_succ_cons] at this ⊢
    simp only [rises, Bool.and_eq_true]
    exact ⟨h.1, this⟩

set_option maxHeartbeats 1000000 in
theorem fault5_any (F : Nat → Prop) (l t : ByteArray) (aa ka : Option Addr) (xs : List (ByteArray × ByteArray)) (ca nk ck : Nat) (w : World) (hxs : Sl attrS F w aa xs) (hF : ∀ k, F k → k < w.heap.size) (hlen : xs.length ≤ 9223372036854775807) :
    Calls Tryz.prog 69 #[.agg #[.string l, .string t, .slice aa xs.length ca, .slice ka nk ck]] w fun e w' => e = .returned (.bool (!rises xs)) ∧ Below w.heap.size w w' := by
  have HX := Sp.hid hxs
  have HF := Sp.hid hF
  clear hxs hF
  obtain ⟨w0, hw0⟩ : ∃ w0, w0 = w.alloc (.cells #[.string l, .string t, .slice aa xs.length ca, .slice ka nk ck] 29) := ⟨_, rfl⟩
  have hb0 : Below w.heap.size w w0 := by rw [hw0]; exact (Below.refl _ _).alloc (Nat.le_refl _) _
  have hc0 : w0.cell? ⟨w.heap.size, 2, none⟩ = some (.slice aa xs.length ca) := by rw [hw0]; simp
  have hz0 : w0.heap.size = w.heap.size + 1 := by rw [hw0]; simp
  have HB0 := Sp.hid hb0
  have HC0 := Sp.hid hc0
  go_enter Tryz.func69, Tryz.ntmps69
  go_wp2
  rw [← hw0]
  have HW0 := Sp.hid hw0
  clear hw0 hb0 hc0
  go_loopw [3] (fun i wr => ∃ k : Nat, i = .int .i64 ((k : Int) + 1) ∧ (k + 1 ≤ xs.length ∨ k = 0) ∧ rises (xs.take (k + 1)) = true ∧ Below w0.heap.size w0 wr) (fun i _ => xs.length + 1 - (intOf i).toNat)
  case atStart => exact ⟨0, rfl, .inr rfl, by cases xs <;> simp [rises], Below.refl _ _⟩
  case round =>
    obtain ⟨k, rfl, hk, hr, hb⟩ := hrel
    have hsw := hb.size
    have hcw : wr.cell? ⟨w.heap.size, 2, none⟩ = some (.slice aa xs.length ca) := (hb.cell (p := ⟨w.heap.size, 2, none⟩) (by show w.heap.size < _; omega)).trans HC0.out
    have hzw : w.heap.size < wr.heap.size := by omega
    by_cases hlt : k + 1 < xs.length
    · have HXW := HX.out.below HF.out HB0.out
      obtain ⟨b, o, rfl, fb, _, _, e1, _⟩ := attr_cells HXW k (by omega)
      obtain ⟨b', o', hbb, _, _, _, e2, _⟩ := attr_cells HXW (k + 1) hlt
      cases hbb
      have hbl : b < w0.heap.size := by have := HF.out b fb; omega
      have c1 : wr.cell? ⟨b, o + k * 2, none⟩ = some (.string xs[k].1) := (hb.cell (p := ⟨b, _, none⟩) hbl).trans e1
      have c2 : wr.cell? ⟨b, o + (k + 1) * 2, none⟩ = some (.string xs[k + 1].1) := (hb.cell (p := ⟨b, _, none⟩) hbl).trans e2
      have hbw : b < wr.heap.size := by omega
      have hi1 : ((k : Int) < (xs.length : Int)) := by omega
      have hi2 : (((k : Int) + 1) < (xs.length : Int)) := by omega
      have hi3 : ¬ (((k : Int) + 1) < 0) := by omega
      have hi4 : ((k : Int) + 1).toNat = k + 1 := by omega
      have hwk : IntKind.i64.wrap (k : Int) = (k : Int) := by rw [IntKind.wrap_i64]; omega
      have hrt := rises_take hlt
      obtain ⟨x, hx⟩ : ∃ x, x = xs[k].1 := ⟨_, rfl⟩
      obtain ⟨y, hy⟩ : ∃ y, y = xs[k + 1].1 := ⟨_, rfl⟩
      rw [← hx] at c1 hrt
      rw [← hy] at c2 hrt
      obtain ⟨q, hq⟩ : ∃ q, q = Op.bytesLess x.toList y.toList := ⟨_, rfl⟩
      rw [← hq, hr, Bool.true_and] at hrt
      have HQ := Sp.hid hq
      have HRT := Sp.hid hrt
      have HBW := Sp.hid hb
      clear hq hrt hx hy e1 e2 HXW hr hb
      cases q
      · have hq' : Op.bytesLess x.toList y.toList = false := HQ.out.symm
        have hbad : rises xs = false := by
          rw [← Bool.not_eq_true]
          intro h
          have := rises_all (k := k + 2) h
          rw [HRT.out] at this; cases this
        have HBAD := Sp.hid hbad
        clear hbad
        go_wp2_with fail
        go_quiet (fail)
        go_wp2
        go_ret
        exact ⟨by rw [HBAD.out]; rfl, (HB0.out.trans (HBW.out.mono HB0.out.size)).trans (below_drewN (Below.refl _ _) _)⟩
      · have hq' : Op.bytesLess x.toList y.toList = true := HQ.out.symm
        go_wp2_with fail
        go_quiet (fail)
        go_wp2
        go_roundw
        case rel => exact ⟨k + 1, by go_num, by omega, HRT.out, below_drewN HBW.out _⟩
        case measure => simp [intOf]; omega
    · have hall : xs.take (k + 1) = xs := List.take_of_length_le (by omega)
      rw [hall] at hr
      have HR := Sp.hid hr
      have HBW := Sp.hid hb
      have hlt' : ¬ ((k : Int) + 1 < (xs.length : Int)) := by omega
      clear hall hr hb
      go_wp2
      go_ret
      exact ⟨by rw [HR.out]; rfl, HB0.out.trans (HBW.out.mono HB0.out.size)⟩

/-- No two texts side by side. -/
def apartT : List TT → Bool
  | a :: b :: l => !(a.label.toList.isEmpty && b.label.toList.isEmpty) && apartT (b :: l)
  | _ => true
theorem apartT_snoc : ∀ (l : List TT) (a b : TT), apartT (l ++ [a, b]) = (apartT (l ++ [a]) && !(a.label.toList.isEmpty && b.label.toList.isEmpty))
  | [], a, b => by simp [apartT]
  | [x], a, b => by simp [apartT]
  | x :: y :: l, a, b => by
    have := apartT_snoc (y :: l) a b
    simp only [List.cons_append] at this ⊢
    rw [apartT, apartT, this, Bool.and_assoc]
theorem apartT_take {xs : List TT} {k : Nat} (hk : k + 1 < xs.length) : apartT (xs.take (k + 2)) = (apartT (xs.take (k + 1)) && !((xs[k]'(by omega)).label.toList.isEmpty && (xs[k + 1]'hk).label.toList.isEmpty)) := by
  have h1 := List.take_succ_eq_append_getElem (l := xs) (i := k) (by omega)
  have h2 := List.take_succ_eq_append_getElem hk
  rw [h2, h1, List.append_assoc]
  exact apartT_snoc _ _ _
theorem apartT_all : ∀ {l : List TT} {k : Nat}, apartT l = true → apartT (l.take k) = true
  | [], k, _ => by simp [apartT]
  | [a], k, _ => by cases k <;> simp [apartT]
  | a :: b :: l, 0, _ => rfl
  | a :: b :: l, 1, _ => rfl
  | a :: b :: l, k + 2, h => by
    simp only [apartT, Bool.and_eq_true] at h
    have := apartT_all (k := k + 1) h.2
    simp only [List.take_succ_cons] at this ⊢
    simp only [apartT, Bool.and_eq_true]
    exact ⟨h.1, this⟩

set_option maxHeartbeats 1000000 in
theorem fault6_any (n : Nat) (F : Nat → Prop) (l t : ByteArray) (aa ka : Option Addr) (na ca : Nat) (kids : List TT) (ck : Nat) (w : World) (hks : Sl (treeS n) F w ka kids) (hF : ∀ k, F k → k < w.heap.size) (hlen : kids.length ≤ 9223372036854775807) :
    Calls Tryz.prog 70 #[.agg #[.string l, .string t, .slice aa na ca, .slice ka kids.length ck]] w fun e w' => e = .returned (.bool (!apartT kids)) ∧ Below w.heap.size w w' := by
  have HK := Sp.hid hks
  have HF := Sp.hid hF
  clear hks hF
  obtain ⟨w0, hw0⟩ : ∃ w0, w0 = w.alloc (.cells #[.string l, .string t, .slice aa na ca, .slice ka kids.length ck] 29) := ⟨_, rfl⟩
  have hb0 : Below w.heap.size w w0 := by rw [hw0]; exact (Below.refl _ _).alloc (Nat.le_refl _) _
  have hc0 : w0.cell? ⟨w.heap.size, 3, none⟩ = some (.slice ka kids.length ck) := by rw [hw0]; simp
  have hz0 : w0.heap.size = w.heap.size + 1 := by rw [hw0]; simp
  have HB0 := Sp.hid hb0
  go_enter Tryz.func70, Tryz.ntmps70
  go_wp2
  rw [← hw0]
  have HW0 := Sp.hid hw0
  clear hw0 hb0
  go_loop [3] (fun i => ∃ k : Nat, i = .int .i64 ((k : Int) + 1) ∧ (k + 1 ≤ kids.length ∨ k = 0) ∧ apartT (kids.take (k + 1)) = true) (fun i => kids.length + 1 - (intOf i).toNat)
  case atStart => exact ⟨0, rfl, .inr rfl, by cases kids <;> simp [apartT]⟩
  case round =>
    obtain ⟨k, rfl, hk, hr⟩ := hrel
    by_cases hlt : k + 1 < kids.length
    · have HKW := HK.out.below HF.out HB0.out
      obtain ⟨b, o, _, _, _, _, rfl, fb, _, e1, _, _, _⟩ := tree_cells HKW k (by omega)
      obtain ⟨b', o', _, _, _, _, hbb, _, _, e2, _, _, _⟩ := tree_cells HKW (k + 1) hlt
      cases hbb
      have hi1 : ((k : Int) < (kids.length : Int)) := by omega
      have hi2 : (((k : Int) + 1) < (kids.length : Int)) := by omega
      have hi3 : ¬ (((k : Int) + 1) < 0) := by omega
      have hi4 : ((k : Int) + 1).toNat = k + 1 := by omega
      have hwk : IntKind.i64.wrap (k : Int) = (k : Int) := by rw [IntKind.wrap_i64]; omega
      have hrt := apartT_take hlt
      rw [hr, Bool.true_and] at hrt
      obtain ⟨x, hx⟩ : ∃ x, x = kids[k].label := ⟨_, rfl⟩
      obtain ⟨y, hy⟩ : ∃ y, y = kids[k + 1].label := ⟨_, rfl⟩
      rw [← hx] at e1 hrt
      rw [← hy] at e2 hrt
      have HRT := Sp.hid hrt
      clear hx hy HKW hrt hr
      cases hxe : x.toList.isEmpty
      · go_wp2
        go_round
        case rel => exact ⟨k + 1, by go_num, by omega, by rw [HRT.out]; simp [hxe]⟩
        case measure => simp [intOf]; omega
      · cases hye : y.toList.isEmpty
        · go_wp2
          go_round
          case rel => exact ⟨k + 1, by go_num, by omega, by rw [HRT.out]; simp [hye]⟩
          case measure => simp [intOf]; omega
        · have hbad : apartT kids = false := by
            rw [← Bool.not_eq_true]
            intro h
            have := apartT_all (k := k + 2) h
            rw [HRT.out, hxe, hye] at this; cases this
          have HBAD := Sp.hid hbad
          clear hbad
          go_wp2
          go_ret
          exact ⟨by rw [HBAD.out]; rfl, HB0.out⟩
    · have hall : kids.take (k + 1) = kids := List.take_of_length_le (by omega)
      rw [hall] at hr
      have HR := Sp.hid hr
      have hlt' : ¬ ((k : Int) + 1 < (kids.length : Int)) := by omega
      clear hall hr
      go_wp2
      go_ret
      exact ⟨by rw [HR.out]; rfl, HB0.out⟩

end Go.Proofs.YtoknglpfchjbjaaGreatDoor
