/- tree.fit: it returns. Conditions: none. -/
import Derived.Test.YtoknglpfchjbjaaDoorStp
import Derived.Test.YtoknglpfchjbjaaDoorTree
import Derived.Test.YtoknglpfchjbjaaDoorRegion
import Derived.Test.YtoknglpfchjbjaaDoorRows
import Derived.WalkKit
namespace Go.Proofs.YtoknglpfchjbjaaDoor
open Go.RowKit Go.Sp

def fitB (k : Int) (n t : ByteArray) : Bool := if (k == 1) = true then !n.toList.isEmpty && t.toList.isEmpty else if (k == 2) = true then true else if (k == 3) = true then n.toList.isEmpty else if (k == 4) = true then n.toList.isEmpty && t.toList.isEmpty else false

theorem fit_any (k : Int) (n t : ByteArray) (w : World) : Calls Tryd.prog 21 #[.agg #[.int .i64 k, .string n, .string t]] w fun e w' => e = .returned (.bool (fitB k n t)) ∧ Below w.heap.size w w' := by
  obtain ⟨v, hv⟩ : ∃ v, v = fitB k n t := ⟨_, rfl⟩
  rw [← hv]
  unfold fitB at hv
  have hb : Below w.heap.size w (w.alloc (.cells #[.int .i64 k, .string n, .string t] 64)) := (Below.refl _ _).alloc (Nat.le_refl _) _
  have HB := Sp.hid hb
  clear hb
  cases h1 : (k == 1)
  · cases h2 : (k == 2)
    · cases h3 : (k == 3)
      · cases h4 : (k == 4)
        · simp only [h1, h2, h3, h4, Bool.false_eq_true, if_false] at hv
          subst hv
          go_enter Tryd.func21, Tryd.ntmps21
          go_wp2
          go_ret
          exact ⟨rfl, HB.out⟩
        · cases hn : n.toList.isEmpty
          all_goals cases ht : t.toList.isEmpty
          all_goals
            simp only [h1, h2, h3, h4, hn, ht, Bool.false_eq_true, if_false, if_true, Bool.and_self, Bool.false_and, Bool.and_false] at hv
            subst hv
            go_enter Tryd.func21, Tryd.ntmps21
            go_wp2
            go_ret
            exact ⟨rfl, HB.out⟩
      · cases hn : n.toList.isEmpty
        all_goals
          simp only [h1, h2, h3, hn, Bool.false_eq_true, if_false, if_true] at hv
          subst hv
          go_enter Tryd.func21, Tryd.ntmps21
          go_wp2
          go_ret
          exact ⟨rfl, HB.out⟩
    · simp only [h1, h2, Bool.false_eq_true, if_false, if_true] at hv
      subst hv
      go_enter Tryd.func21, Tryd.ntmps21
      go_wp2
      go_ret
      exact ⟨rfl, HB.out⟩
  · cases hn : n.toList.isEmpty
    all_goals cases ht : t.toList.isEmpty
    all_goals
      simp only [h1, hn, ht, if_true, Bool.not_true, Bool.not_false, Bool.and_self, Bool.false_and, Bool.and_false] at hv
      subst hv
      go_enter Tryd.func21, Tryd.ntmps21
      go_wp2
      go_ret
      exact ⟨rfl, HB.out⟩

end Go.Proofs.YtoknglpfchjbjaaDoor
