/- slices.Clone at bytes, utf.All: the function value that it returns and what that has captured. Conditions: at most 1000 bytes. -/
import Derived.Test.YtbhdkionphemdaaDoorUtfOpen
import Derived.Test.YtbhdkionphemdaaDoorUtfRefAll
import Derived.WalkSpells
namespace Go.Proofs.YtbhdkionphemdaaDoor
open Go.RowKit Go.Sp Go.Maps

theorem emptyRow (w : World) : (w.alloc (.cells #[] 5)).ownsRow w.heap.size 5 1 (.slice (some ⟨w.heap.size, 0, none⟩) 0 0) 0 [] :=
  ⟨rfl, .inr ⟨w.heap.size, 0, #[], rfl, Nat.le_refl _, heap_alloc_new _ _, Nat.le_refl _, by decide, by simp, by rfl⟩⟩

set_option maxHeartbeats 1000000 in
theorem clone_any (F : Nat → Prop) (a : Option Addr) (cap : Nat) (bs : List Int) (w : World) (hbs : Sl (Shape.int .u8) F w a bs) (hF : ∀ k, F k → k < w.heap.size) (hnil : a = none → cap = 0) (hcap : bs.length ≤ cap) (hlen : bs.length ≤ 1000) :
    Calls Tryd.prog 20 #[.slice a bs.length cap] w fun e w' => ∃ a' cap', e = .returned (.slice a' bs.length cap') ∧ bs.length ≤ cap' ∧ Sl (Shape.int .u8) (fun b => w.heap.size ≤ b ∧ b < w'.heap.size) w' a' bs ∧ Below w.heap.size w w' := by
  cases a with
  | none =>
    have hc := hnil rfl
    subst hc
    have hz : bs.length = 0 := by omega
    obtain rfl : bs = [] := List.length_eq_zero_iff.1 hz
    clear hbs hF hnil hcap hlen hz
    have hnb : ∀ W : World, (binOp .eql 24 (.slice none 0 0) (.slice none 0 0)).run Tryd.prog W = .ok (.bool true) W := fun W => run_eql_nil_slice W _ _ none 0 0 0 0 Tryd.underlying24
    go_enter Tryd.func20, Tryd.ntmps20
    go_wp2
    go_ret
    exact ⟨none, 0, rfl, Nat.le_refl _, Sl.nil, Below.refl _ _⟩
  | some ad =>
    have HBS := Sp.hid hbs
    have HF := Sp.hid hF
    clear hbs hF hnil
    have hnb : ∀ W : World, (binOp .eql 24 (.slice (some ad) bs.length cap) (.slice none 0 0)).run Tryd.prog W = .ok (.bool false) W := fun W => run_eql_nil_slice W _ _ (some ad) bs.length cap 0 0 Tryd.underlying24
    go_enter Tryd.func20, Tryd.ntmps20
    go_wp2_with (at_builtin; refine wpList_append_bytes rfl _ _ rfl w.heap.size _ 0 [] rfl (emptyRow _) F (some ad) cap bs rfl (fun h => by cases h) (HBS.out.frame (fun k hk => Below.heap_alloc _ _ _ (HF.out k hk))) (by omega) (by simp) ?_)
    intro v' w1 ho hg hs1
    have hb1 : Below w.heap.size w w1 := ((Below.refl _ _).alloc (Nat.le_refl _) _).grown hg (by simp) (fun j hj => by cases hj; exact Nat.le_refl _)
    obtain ⟨a', cap', rfl, z1, z2, z3, z4, hsl⟩ := own_ints (xs := bs) (by simpa using ho)
    have HSL := Sp.hid hsl
    have HB1 := Sp.hid hb1
    clear z1 z3 z4 hsl hb1 ho hg
    go_wp2
    go_ret
    exact ⟨a', cap', by first | rfl | simp, by first | exact z2 | omega, HSL.out, HB1.out⟩

set_option maxHeartbeats 1000000 in
theorem all_any (F : Nat → Prop) (a : Option Addr) (cap : Nat) (bs : List Int) (w : World) (hbs : Sl (Shape.int .u8) F w a bs) (hF : ∀ k, F k → k < w.heap.size) (hnil : a = none → cap = 0) (hbd : ∀ x ∈ bs, 0 ≤ x ∧ x ≤ 255) (hcap : bs.length ≤ cap) (hlen : bs.length ≤ 1000) (hsp : SpansAt w) :
    Calls Tryd.prog 14 #[.slice a bs.length cap] w fun e w' => ∃ B k rs a' cap', Chars bs rs k ∧ k ≤ bs.length ∧ e = .returned (.func (.func 21) #[] #[.pointer (some ⟨B, 0, none⟩)]) ∧ w.heap.size ≤ B ∧ B < w'.heap.size ∧
      w'.cell? ⟨B, 0, none⟩ = some (.slice a' k cap') ∧ k ≤ cap' ∧ Sl (Shape.int .u8) (fun b => w.heap.size ≤ b ∧ b < w'.heap.size) w' a' (bs.take k) ∧ Below w.heap.size w w' := by
  have HC := Sp.hid (check_any F a cap bs w hbs hF hbd hcap hlen hsp)
  have HBS := Sp.hid hbs
  have HF := Sp.hid hF
  have HN := Sp.hid hnil
  clear hbs hF hnil hbd hsp
  obtain ⟨m, hm⟩ : ∃ m, m = bs.length := ⟨_, rfl⟩
  have HM := Sp.hid hm
  rw [← hm] at hcap hlen HC ⊢
  clear hm
  go_enter Tryd.func14, Tryd.ntmps14
  go_wp2_with fail
  refine HC.out.mono ?_
  rintro e w1 ⟨k, rs, hch, hk, rfl, hb1⟩
  have hs1 := hb1.size
  have hkl : (bs.take k).length = k := by rw [List.length_take]; have := HM.out; omega
  have hcl := clone_any F a cap (bs.take k) w1 (sl_take (HBS.out.below HF.out hb1) k) (fun j hj => by have := HF.out j hj; omega) HN.out (by omega) (by omega)
  rw [hkl] at hcl
  have HCL := Sp.hid hcl
  have HB1 := Sp.hid hb1
  have HCH := Sp.hid hch
  obtain ⟨er, her⟩ : ∃ er : Int, er = if k < m then 10 else 0 := ⟨_, rfl⟩
  rw [← her]
  clear hcl hb1 hch hkl HC her
  go_wp2_with fail
  refine HCL.out.mono ?_
  rintro e w2 ⟨a', cap', rfl, hc', hsl, hb2⟩
  have hs2 := hb2.size
  have HSL := Sp.hid hsl
  have HB2 := Sp.hid (HB1.out.trans (hb2.mono hs1))
  clear hsl hb2 HCL HB1
  go_wp2
  go_ret
  exact ⟨w2.heap.size, k, rs, a', cap', HCH.out, hk, rfl, by omega, by simp, by simp, hc', (HSL.out.frame (fun j hj => Below.heap_alloc _ _ _ hj.2)).mono (fun j hj => ⟨by omega, by simp; omega⟩), HB2.out.alloc (by omega) _⟩

end Go.Proofs.YtbhdkionphemdaaDoor
