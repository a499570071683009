/- UtfJoins returns true: its walk. Conditions: the arguments read as bytes; the table of spans as laid. -/
import Derived.Test.YtbhdkionphemdaaDoorUtfOpen
namespace Go.Proofs.YtbhdkionphemdaaDoor
open Go.RowKit Go.Sp Go.Maps

set_option maxRecDepth 100000 in
set_option maxHeartbeats 4000000 in
theorem joins_walk (a0 a1 : Option Addr) (c0 c1 : Nat) (xs ys : List Int) (w : World) (h0 : Sl (Shape.int .u8) (· < w.heap.size) w a0 xs) (h1 : Sl (Shape.int .u8) (· < w.heap.size) w a1 ys)
    (b0 : ∀ x ∈ xs, 0 ≤ x ∧ x ≤ 255) (b1 : ∀ x ∈ ys, 0 ≤ x ∧ x ≤ 255) (k0 : xs.length ≤ c0) (k1 : ys.length ≤ c1) (n0 : a0 = none → c0 = 0) (n1 : a1 = none → c1 = 0)
    (hl0 : xs.length ≤ 9223372036854775807) (hl1 : ys.length ≤ 9223372036854775807) (hsp : SpansAt w) :
    Calls Tryd.prog 4 #[.slice a0 xs.length c0, .slice a1 ys.length c1] w (IsBool true w) := by
  have H0 := Sp.hid h0
  have H1 := Sp.hid h1
  have B0 := Sp.hid b0
  have B1 := Sp.hid b1
  have N0 := Sp.hid n0
  have N1 := Sp.hid n1
  have HSP := Sp.hid hsp
  clear h0 h1 b0 b1 n0 n1 hsp
  by_cases hn4 : (100 : Int) < xs.length
  · go_enter Tryd.func4, Tryd.ntmps4
    go_wp2_with (go_at_call 7; refine (awake_any _ HSP.out).mono ?_; rintro e w2 ⟨rfl, hb2⟩; have HB2 := Sp.hid hb2; clear hb2)
    go_ret
    exact ⟨rfl, HB2.out⟩
  by_cases hm4 : (100 : Int) < ys.length
  · go_enter Tryd.func4, Tryd.ntmps4
    go_wp2_with (go_at_call 7; refine (awake_any _ HSP.out).mono ?_; rintro e w2 ⟨rfl, hb2⟩; have HB2 := Sp.hid hb2; clear hb2)
    go_ret
    exact ⟨rfl, HB2.out⟩
  go_enter Tryd.func4, Tryd.ntmps4
  go_wp2_with (at_builtin; refine wpList_append_bytes rfl _ _ rfl w.heap.size _ 0 [] rfl (World.ownsRow_nil _ _ _ _) _ a0 c0 xs rfl N0.out H0.out (by omega) (Nat.le_refl _) ?_)
  intro x1 w1 ho1 hg1 hsz1
  have hb1 : Below w.heap.size w w1 := (Below.refl _ _).grown hg1 (Nat.le_refl _) (fun j hj => by cases hj)
  have K1 := Sp.hid (H1.out.below (fun _ h => h) hb1)
  have HO1 := Sp.hid ho1
  have HB1 := Sp.hid hb1
  clear ho1 hg1 hb1
  go_wp2_with (at_builtin; refine wpList_append_bytes rfl _ _ rfl w.heap.size x1 xs.length xs rfl HO1.out _ a1 c1 ys rfl N1.out K1.out (by omega) hsz1 ?_)
  intro x2 w2 ho2 hg2 hsz2
  have hb2 : Below w.heap.size w w2 := HB1.out.grown hg2 (by omega) (fun j hj => (HO1.out.lt j hj).1)
  try simp only [List.nil_append, Nat.zero_add] at ho2
  obtain ⟨both, hboth⟩ : ∃ both, both = xs ++ ys := ⟨_, rfl⟩
  rw [← List.map_append, ← hboth] at ho2
  have hblen : both.length = xs.length + ys.length := by rw [hboth, List.length_append]
  rw [← hblen] at ho2
  obtain ⟨ba, bc, rfl, hbl, hbc, _, _, hbs⟩ := own_ints ho2
  have hble : both.length ≤ 200 := by omega
  have hbb : ∀ x ∈ both, 0 ≤ x ∧ x ≤ 255 := fun x hx => by
    rw [hboth] at hx
    exact (List.mem_append.1 hx).elim (B0.out x) (B1.out x)
  have hs2 := hb2.size
  have HC1 := Sp.hid (check_any _ a0 c0 xs w2 (H0.out.below (fun _ h => h) hb2) (fun k hk => by omega) B0.out k0 (by omega) (HSP.out.below hb2 (Nat.le_refl _)))
  have HBS := Sp.hid hbs
  have HBT := Sp.hid hboth
  have HBL := Sp.hid hblen
  have HBB := Sp.hid hbb
  have HB2 := Sp.hid hb2
  clear hbs hboth hblen hbb hb2 ho2 hg2 HO1 HB1 K1 hbl
  go_wp2_with fail
  refine HC1.out.mono ?_
  rintro e w3 ⟨x, rs, hch, hxl, rfl, hb3⟩
  have hs3 := hb3.size
  have hw3 := HB2.out.trans (hb3.mono hs2)
  have HC2 := Sp.hid (check_any _ a1 c1 ys w3 (H1.out.below (fun _ h => h) hw3) (fun k hk => by omega) B1.out k1 (by omega) (HSP.out.below hw3 (Nat.le_refl _)))
  have HBS3 := Sp.hid (HBS.out.below (fun k hk => hk.2) hb3)
  have HW3 := Sp.hid hw3
  have HCH := Sp.hid hch
  obtain ⟨e1, he1⟩ : ∃ e1 : Int, e1 = if x < xs.length then 10 else 0 := ⟨_, rfl⟩
  rw [← he1]
  have HE1 := Sp.hid he1
  clear he1 hch hb3 hw3 HC1 HBS HB2
  go_wp2_with fail
  refine HC2.out.mono ?_
  rintro e w4 ⟨y, ts, hch, hyl, rfl, hb4⟩
  have hs4 := hb4.size
  have hw4 := HW3.out.trans (hb4.mono (by omega))
  have HC3 := Sp.hid (check_any _ ba bc both w4 (HBS3.out.below (fun k hk => by omega) hb4) (fun k hk => by omega) HBB.out hbc (by omega) (HSP.out.below hw4 (Nat.le_refl _)))
  have HW4 := Sp.hid hw4
  have HCH2 := Sp.hid hch
  obtain ⟨e2, he2⟩ : ∃ e2 : Int, e2 = if y < ys.length then 10 else 0 := ⟨_, rfl⟩
  rw [← he2]
  have HE2 := Sp.hid he2
  clear he2 hch hb4 hw4 HC2 HBS3 HW3
  go_wp2_with fail
  refine HC3.out.mono ?_
  rintro e w5 ⟨z, us, hch, hzl, rfl, hb5⟩
  have hs5 := hb5.size
  have hw5 := HW4.out.trans (hb5.mono (by omega))
  have HW5 := Sp.hid hw5
  have HCH3 := Sp.hid hch
  obtain ⟨e3, he3⟩ : ∃ e3 : Int, e3 = if z < both.length then 10 else 0 := ⟨_, rfl⟩
  rw [← he3]
  have HE3 := Sp.hid he3
  have HSP5 := Sp.hid (HSP.out.below hw5 (Nat.le_refl _))
  clear he3 hch hb5 hw5 HC3 HW4
  by_cases hx : x < xs.length
  · have he := HE1.out
    rw [if_pos hx] at he
    subst he
    clear HE1
    go_wp2_with (go_at_call 7; refine (awake_any _ HSP5.out).mono ?_; rintro e w6 ⟨rfl, hb6⟩; have HB6 := Sp.hid hb6; clear hb6)
    go_ret
    exact ⟨rfl, HW5.out.trans (HB6.out.mono HW5.out.size)⟩
  · have he := HE1.out
    rw [if_neg hx] at he
    subst he
    obtain rfl : x = xs.length := by omega
    have hu := chars_uniq HCH3.out (by rw [HBT.out]; exact chars_app HCH.out HCH2.out)
    obtain ⟨_, rfl⟩ := hu
    have he : e3 = e2 := by
      rw [HE3.out, HE2.out]
      have := HBL.out
      by_cases hy : y < ys.length
      · rw [if_pos hy, if_pos (by omega)]
      · rw [if_neg hy, if_neg (by omega)]
    subst he
    have hez : ((xs.length + y : Nat) : Int) = (xs.length : Int) + y := by omega
    rw [hez]
    clear hez HE1 HE2 HE3 HCH HCH2 HCH3 HBL HBT
    go_wp2_with (go_at_call 7; refine (awake_any _ HSP5.out).mono ?_; rintro e w6 ⟨rfl, hb6⟩; have HB6 := Sp.hid hb6; clear hb6)
    go_ret
    exact ⟨rfl, HW5.out.trans (HB6.out.mono HW5.out.size)⟩

end Go.Proofs.YtbhdkionphemdaaDoor
