/- tree.written: is a text of characters alone? Conditions: none but the table of spans as laid. -/
import Derived.Test.YtoknglpfchjbjaaDoorUtfChk
import Derived.Laws.IdiomStrings
import Derived.Laws.Rows
namespace Go.Proofs.YtoknglpfchjbjaaDoor
open Go.RowKit Go.Sp

def bytesOf (s : ByteArray) : List Int := s.data.toList.map fun b => (b.toNat : Int)
/-- Is a text of characters alone? -/
def isText (s : ByteArray) : Prop := ∃ rs, Chars (bytesOf s) rs (bytesOf s).length

theorem bytesOf_length (s : ByteArray) : (bytesOf s).length = s.size := by unfold bytesOf; rw [List.length_map, Array.length_toList]; rfl

theorem sl_bytes (w : World) (s : ByteArray) (cap : Nat) (e : TypeId) (fz : Nat × Nat) : Sl (Shape.int .u8) (fun b => w.heap.size ≤ b ∧ b < w.heap.size + 1) (w.alloc (.cells (bytesRow s cap) e fz)) (some ⟨w.heap.size, 0, none⟩) (bytesOf s) := by
  intro i hi
  refine ⟨w.heap.size, 0, [.int .u8 (bytesOf s)[i]], rfl, ⟨Nat.le_refl _, Nat.lt_succ_self _⟩, rfl, ?_⟩
  intro j hj
  have hj0 : j = 0 := by simpa using hj
  subst hj0
  have hi2 : i < s.data.size := by rw [bytesOf_length] at hi; exact hi
  have h1 := heap_alloc_new w (.cells (bytesRow s cap) e fz)
  simp only [Shape.int, World.cell?, h1]
  simp [bytesRow, bytesOf, Array.getElem?_append, hi2]
  rw [if_pos (show i < s.size from hi2), Array.getElem?_eq_getElem hi2]
  rfl

set_option maxHeartbeats 1000000 in
theorem written_any (s : ByteArray) (w : World) (hs : s.size ≤ maxLen) (hsp : SpansAt w) : Calls Tryd.prog 57 #[.string s] w fun e w' => ∃ b : Bool, (b = true ↔ isText s) ∧ e = .returned (.bool b) ∧ Below w.heap.size w w' := by
  obtain ⟨cap, hcap⟩ : ∃ cap, cap = grownCap w s.size 0 5 := ⟨_, rfl⟩
  have hcl : s.size ≤ cap := by rw [hcap]; exact grownCap_ge _ _ _ _
  have hcv := run_bytes_of_string (P := Tryd.prog) w 9 109 5 s Tryd.underlying9 Tryd.underlying109 Tryd.underlying5
  rw [← hcap] at hcv
  obtain ⟨w1, hw1⟩ : ∃ w1, w1 = w.drew.alloc (.cells (bytesRow s cap) 5 ((bytesRow s cap).size, (bytesRow s cap).size + 1)) := ⟨_, rfl⟩
  rw [← hw1] at hcv
  have hb1 : Below w.heap.size w w1 := by rw [hw1]; exact (Below.refl _ _).drew.alloc (Nat.le_refl _) _
  have hsz1 : w1.heap.size = w.heap.size + 1 := by rw [hw1]; exact World.size_alloc _ _
  have hsl : Sl (Shape.int .u8) (· < w1.heap.size) w1 (some ⟨w.heap.size, 0, none⟩) (bytesOf s) := by
    have := sl_bytes w.drew s cap 5 ((bytesRow s cap).size, (bytesRow s cap).size + 1)
    rw [← hw1] at this
    exact this.mono (fun b hb => by have h2 : b < w.heap.size + 1 := hb.2; omega)
  have hbd : ∀ x ∈ bytesOf s, 0 ≤ x ∧ x ≤ 255 := fun x hx => by
    unfold bytesOf at hx
    obtain ⟨b, _, rfl⟩ := List.mem_map.1 hx
    have := b.toNat_lt
    omega
  have hbl := bytesOf_length s
  have HC := check_any (· < w1.heap.size) (some ⟨w.heap.size, 0, none⟩) cap (bytesOf s) w1 hsl (fun _ h => h) hbd (by rw [hbl]; exact hcl) (by rw [hbl]; exact hs) (hsp.below hb1 (Nat.le_refl _))
  rw [hbl] at HC
  have HCC := Sp.hid HC
  have HB1 := Sp.hid hb1
  have HBL := Sp.hid hbl
  clear HC hb1 hbl hsl hbd hw1 hcap hsp
  go_enter Tryd.func57, Tryd.ntmps57
  go_wp2_with fail
  refine HCC.out.mono ?_
  rintro e w2 ⟨k, rs, hch, hk, rfl, hb2⟩
  have HB2 := Sp.hid (HB1.out.trans (hb2.mono (by omega)))
  have HCH := Sp.hid hch
  clear hb2 hch
  by_cases hkm : k < s.size
  · rw [if_pos hkm]
    go_wp2
    go_ret
    refine ⟨false, ⟨(fun h => by cases h), fun ⟨rs', h'⟩ => ?_⟩, rfl, HB2.out⟩
    have := (chars_uniq HCH.out h').2
    rw [HBL.out] at this
    omega
  · rw [if_neg hkm]
    obtain rfl : k = s.size := by omega
    go_wp2
    go_ret
    exact ⟨true, ⟨fun _ => ⟨rs, by rw [HBL.out]; exact HCH.out⟩, fun _ => rfl⟩, rfl, HB2.out⟩

end Go.Proofs.YtoknglpfchjbjaaDoor
