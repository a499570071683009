/- tree.Value: what each call returns. Conditions: none. -/
import Derived.Test.YtoknglpfchjbjaaGreatDoorTree
import Derived.Test.YtoknglpfchjbjaaGreatDoorRegion
import Derived.Test.YtoknglpfchjbjaaGreatDoorRows
import Derived.WalkKit
namespace Go.Proofs.YtoknglpfchjbjaaGreatDoor
open Go.RowKit Go.Sp

/-- The value of an attribute: the first of that name. -/
def attrV (l : List (ByteArray × ByteArray)) (n : ByteArray) : Option ByteArray := (l.find? fun a => a.1.toList == n.toList).map (·.2)
theorem attrV_hit {l : List (ByteArray × ByteArray)} {n : ByteArray} {k : Nat} (hk : k < l.length) (h : attrV (l.take k) n = none) (he : (l[k].1.toList == n.toList) = true) : attrV l n = some l[k].2 := by
  have e : l = l.take k ++ (l[k] :: l.drop (k + 1)) := by rw [List.getElem_cons_drop, List.take_append_drop]
  unfold attrV at h ⊢
  rw [Option.map_eq_none_iff] at h
  have h2 : (l.take k ++ (l[k] :: l.drop (k + 1))).find? (fun a => a.1.toList == n.toList) = some l[k] := by
    rw [List.find?_append, h, Option.none_or, List.find?_cons, he]
  rw [← e] at h2
  rw [h2]; rfl
theorem attrV_miss {l : List (ByteArray × ByteArray)} {n : ByteArray} {k : Nat} (hk : k < l.length) (h : attrV (l.take k) n = none) (he : (l[k].1.toList == n.toList) = false) : attrV (l.take (k + 1)) n = none := by
  unfold attrV at h ⊢
  rw [Option.map_eq_none_iff] at h ⊢
  rw [List.take_succ_eq_append_getElem hk, List.find?_append, h]
  simp [List.find?_cons, he]

theorem value_any (F : Nat → Prop) (l t name : ByteArray) (aa ka : Option Addr) (xs : List (ByteArray × ByteArray)) (ca nk ck : Nat) (w : World) (hxs : Sl attrS F w aa xs) (hF : ∀ k, F k → k < w.heap.size) (hlen : xs.length ≤ 9223372036854775807) :
    Calls Tryz.prog 26 #[.agg #[.string l, .string t, .slice aa xs.length ca, .slice ka nk ck], .string name] w fun e w' => e = .returned (.tuple #[.string ((attrV xs name).getD ⟨#[]⟩), .bool (attrV xs name).isSome]) ∧ Below w.heap.size w w' := by
  have HX := Sp.hid hxs
  have HF := Sp.hid hF
  clear hxs hF
  go_enter Tryz.func26, Tryz.ntmps26
  go_wp2
  go_loopw [11] (fun i wr => ∃ k : Nat, k ≤ xs.length ∧ i = .int .i64 k ∧ attrV (xs.take k) name = none ∧ Below w.heap.size w wr) (fun i _ => xs.length - (intOf i).toNat)
  case atStart => exact ⟨0, Nat.zero_le _, rfl, rfl, (Below.refl _ _).alloc (Nat.le_refl _) _⟩
  case round =>
    obtain ⟨k, hk, rfl, hno, hb⟩ := hrel
    have hsw := hb.size
    by_cases hlt : k < xs.length
    · obtain ⟨b, o, rfl, fb, s1, s2, e1, e2⟩ := attr_cells (HX.out.below HF.out hb) k hlt
      have hbw : b < wr.heap.size := World.block_lt_of_cell? _ _ e1
      have HHIT := Sp.hid (fun h => attrV_hit hlt hno h)
      have HMISS := Sp.hid (fun h => attrV_miss hlt hno h)
      obtain ⟨x, hx⟩ : ∃ x, x = xs[k] := ⟨_, rfl⟩
      rw [← hx] at e1 e2 HHIT HMISS
      have HB := Sp.hid hb
      clear hx s1 s2 hb hno
      cases hq : (x.1.toList == name.toList)
      · go_wp2
        go_roundw
        case rel => exact ⟨k + 1, by omega, by go_num, HMISS.out hq, HB.out.alloc hsw _⟩
        case measure => simp [intOf]; omega
      · go_wp2
        go_ret2
        exact ⟨by rw [HHIT.out hq]; rfl, HB.out.alloc hsw _⟩
    · obtain rfl : k = xs.length := by omega
      rw [List.take_length] at hno
      have HNO := Sp.hid hno
      have HB := Sp.hid hb
      clear hno hb
      go_wp2
      go_ret2
      exact ⟨by rw [HNO.out]; rfl, HB.out⟩

end Go.Proofs.YtoknglpfchjbjaaGreatDoor
