/- The statements' helpers over keys: ints, Align, awake: what each call returns. Conditions: at most 1000 entries. -/
import Derived.Test.YtoknglpfchjbjaaDoorKeysHelp
namespace Go.Proofs.YtoknglpfchjbjaaDoor
open Go.RowKit Go.Sp Go.Maps

def IsBool (b : Bool) (w : World) (e : Ending) (w' : World) : Prop := e = .returned (.bool b) ∧ Below w.heap.size w w'

theorem take_next {xs ys : List Int} {k : Nat} (hx : k < xs.length) (hy : k < ys.length) (h : xs.take k = ys.take k) (he : xs[k] = ys[k]) : xs.take (k + 1) = ys.take (k + 1) := by
  rw [List.take_succ_eq_append_getElem hx, List.take_succ_eq_append_getElem hy, h, he]

set_option maxRecDepth 100000 in
set_option maxHeartbeats 1000000 in
theorem ints_any (F G : Nat → Prop) (a b : Option Addr) (ca cb : Nat) (xs ys : List Int) (w : World) (hx : Sl (Shape.int .i64) F w a xs) (hy : Sl (Shape.int .i64) G w b ys) (hF : ∀ k, F k → k < w.heap.size) (hG : ∀ k, G k → k < w.heap.size) (hxl : xs.length ≤ 100000) (hyl : ys.length ≤ 100000) :
    Calls Tryd.prog 19 #[.slice a xs.length ca, .slice b ys.length cb] w (IsBool (decide (xs = ys)) w) := by
  have HX := Sp.hid hx
  have HY := Sp.hid hy
  have HF := Sp.hid hF
  have HG := Sp.hid hG
  clear hx hy hF hG
  by_cases hl : xs.length = ys.length
  · have hne : ((xs.length : Int) != (ys.length : Int)) = false := by rw [bne_eq_false_iff_eq]; omega
    have HL := Sp.hid hl
    clear hl
    go_enter Tryd.func19, Tryd.ntmps19
    go_wp2
    go_loopw [5] (fun i wr => ∃ k : Nat, k ≤ xs.length ∧ i = .int .i64 k ∧ xs.take k = ys.take k ∧ Below w.heap.size w wr) (fun i _ => xs.length - (intOf i).toNat)
    case atStart => exact ⟨0, by omega, rfl, rfl, Below.refl _ _⟩
    case round =>
      obtain ⟨k, hk, rfl, ht, hb⟩ := hrel
      have HT := Sp.hid ht
      have HB := Sp.hid hb
      clear ht hb
      by_cases hlt : k < xs.length
      · have hlt2 : k < ys.length := by rw [← HL.out]; exact hlt
        obtain ⟨b1, o1, rfl, f1, e1⟩ := HX.out.int_cell k hlt
        obtain ⟨b2, o2, rfl, f2, e2⟩ := HY.out.int_cell k hlt2
        have c1 : wr.cell? ⟨b1, o1 + k, none⟩ = some (.int .i64 xs[k]) := by rw [HB.out.cell (p := ⟨b1, _, none⟩) (HF.out _ f1)]; exact e1
        have c2 : wr.cell? ⟨b2, o2 + k, none⟩ = some (.int .i64 ys[k]) := by rw [HB.out.cell (p := ⟨b2, _, none⟩) (HG.out _ f2)]; exact e2
        have hi0 : ((k : Int) < (xs.length : Int)) := by omega
        have hk0 : ((k : Int) < (ys.length : Int)) := by omega
        clear e1 e2
        cases hne2 : (xs[k] != ys[k])
        · have heq : xs[k] = ys[k] := by simpa using hne2
          have HE := Sp.hid heq
          clear heq
          go_wp2_with fail
          go_quiet (fail)
          go_wp2
          go_roundw
          case rel => exact ⟨k + 1, by omega, by go_num, take_next hlt hlt2 HT.out HE.out, below_drewN HB.out _⟩
          case measure => simp [intOf]; omega
        · have hneq : ¬ xs = ys := by intro e; subst e; simp at hne2
          have HN := Sp.hid hneq
          clear hneq
          go_wp2_with fail
          go_quiet (fail)
          go_wp2
          go_ret
          exact ⟨by rw [decide_eq_false HN.out]; rfl, below_drewN HB.out _⟩
      · obtain rfl : k = xs.length := by omega
        have heq : xs = ys := by
          have := HT.out
          rw [List.take_length] at this
          rw [this, HL.out, List.take_length]
        have HE := Sp.hid heq
        clear heq
        go_wp2
        go_ret
        exact ⟨by rw [decide_eq_true HE.out]; rfl, HB.out⟩
  · have hne : ((xs.length : Int) != (ys.length : Int)) = true := by rw [bne_iff_ne]; omega
    have hneq : ¬ xs = ys := by intro e; subst e; exact hl rfl
    have HN := Sp.hid hneq
    clear hneq hl
    go_enter Tryd.func19, Tryd.ntmps19
    go_wp2
    go_ret
    exact ⟨by rw [decide_eq_false HN.out]; rfl, Below.refl _ _⟩

set_option maxRecDepth 100000 in
set_option maxHeartbeats 1000000 in
theorem Align_any (va sa : Option Addr) (vc sc : Nat) (view source : List Ent) (w : World) (hv : Sl entS (· < w.heap.size) w va view) (hs : Sl entS (· < w.heap.size) w sa source) (hvl : view.length ≤ 1000) (hsl : source.length ≤ 1000) :
    Calls Tryd.prog 20 #[.slice va view.length vc, .slice sa source.length sc] w fun e w' => ∃ a cap, e = .returned (.slice a view.length cap) ∧ view.length ≤ cap ∧
      Sl (Shape.int .i64) (fun b => w.heap.size ≤ b ∧ b < w'.heap.size) w' a ((alignM (source.map Ent.lk) (List.range source.length) (view.map Ent.lk)).map encO) ∧ Below w.heap.size w w' := by
  have HA := Sp.hid (align_any va sa vc sc view source w hv hs hvl hsl)
  clear hv hs
  go_enter Tryd.func20, Tryd.ntmps20
  go_wp2_with (go_at_call 30; refine HA.out.mono ?_; rintro e w1 ⟨a, cap, rfl, hc, hsl1, hb1⟩; have HS := Sp.hid hsl1; have HB := Sp.hid hb1; clear hsl1 hb1)
  go_ret
  exact ⟨a, cap, rfl, hc, HS.out, HB.out⟩

end Go.Proofs.YtoknglpfchjbjaaDoor
