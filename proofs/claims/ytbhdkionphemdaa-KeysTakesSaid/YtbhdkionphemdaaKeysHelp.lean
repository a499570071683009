/- The statements' helpers over keys: ints, apart, plain: what each call returns. Conditions: at most 1000 entries. -/
import Derived.Test.YtbhdkionphemdaaKeysAlign
import Derived.Deep.QuietTactic
import Derived.BigQuiet
import Derived.WalkSmall
namespace Go.Proofs.Ytbhdkionphemdaa
open Go.RowKit Go.Sp Go.Maps

theorem ba_inj {a b : ByteArray} (h : a.toList = b.toList) : a = b := by
  rw [Go.ByteArray.toList_eq, Go.ByteArray.toList_eq] at h
  cases a with | mk x => cases b with | mk y =>
  rw [ByteArray.mk.injEq]
  exact Array.toList_inj.1 h

/-- Do two entries match? -/
def entMatch (a b : Ent) : Bool := a.has == b.has && (!a.has || a.key.toList == b.key.toList)
theorem entMatch_iff (a b : Ent) : entMatch a b = true ↔ a.lk = b.lk := by
  obtain ⟨_, h, k⟩ := a
  obtain ⟨_, h', k'⟩ := b
  cases h <;> cases h' <;> simp [entMatch, Ent.lk]
  exact ⟨ba_inj, fun h => by rw [h]⟩

/-- Do none of the first i match a later one, and none of the first k the i-th? -/
def apartTo (es : List Ent) (i k : Nat) : Prop := (∀ x y (hx : x < es.length) (hy : y < es.length), x < i → y < x → entMatch es[x] es[y] = false) ∧ ∀ y (hi : i < es.length) (hy : y < es.length), y < k → entMatch es[i] es[y] = false
def Apart (es : List Ent) : Prop := ∀ x y (hx : x < es.length) (hy : y < es.length), y < x → entMatch es[x] es[y] = false

theorem apartTo_next {es : List Ent} {i k : Nat} {hi : i < es.length} {hk : k < es.length} (h : apartTo es i k) (hm : entMatch es[i] es[k] = false) : apartTo es i (k + 1) :=
  ⟨h.1, fun y hi' hy hlt => by
    rcases Nat.lt_or_ge y k with h' | h'
    · exact h.2 y hi' hy h'
    · obtain rfl : y = k := by omega
      exact hm⟩
theorem apartTo_row {es : List Ent} {i : Nat} (h : apartTo es i i) : apartTo es (i + 1) 0 :=
  ⟨fun x y hx hy hlt hyx => by
    rcases Nat.lt_or_ge x i with h' | h'
    · exact h.1 x y hx hy h' hyx
    · obtain rfl : x = i := by omega
      exact h.2 y hx hy hyx, fun y _ _ h' => by omega⟩

theorem not_apart {es : List Ent} {i k : Nat} (hi : i < es.length) (hk : k < es.length) (hlt : k < i) (h : entMatch es[i] es[k] = true) : (false = true ↔ Apart es) := by
  simp only [Bool.false_eq_true, false_iff]
  intro ha
  rw [ha i k hi hk hlt] at h
  cases h

def SomeBool (P : Bool → Prop) (w : World) (e : Ending) (w' : World) : Prop := ∃ b : Bool, P b ∧ e = .returned (.bool b) ∧ Below w.heap.size w w'

set_option maxHeartbeats 1000000 in
theorem apart_any (a : Option Addr) (cap : Nat) (es : List Ent) (w : World) (hes : Sl entS (· < w.heap.size) w a es) (hlen : es.length ≤ 1000) :
    Calls Try.prog 8 #[.slice a es.length cap] w (SomeBool (fun b => b = true ↔ Apart es) w) := by
  have HES := Sp.hid hes
  clear hes
  go_enter Try.func8, Try.ntmps8
  go_wp2
  go_loopw [3] (fun i wr => ∃ k : Nat, k ≤ es.length ∧ i = .int .i64 k ∧ apartTo es k 0 ∧ Below w.heap.size w wr) (fun i _ => es.length - (intOf i).toNat)
  case atStart => exact ⟨0, by omega, rfl, ⟨fun x y _ _ h _ => by omega, fun y _ _ h => by omega⟩, Below.refl _ _⟩
  case round =>
    obtain ⟨i, hi, rfl, hap, hb⟩ := hrel
    have HAP := Sp.hid hap
    have HB := Sp.hid hb
    clear hap hb
    obtain ⟨wo, rfl⟩ : ∃ wo : World, wo = wr := ⟨_, rfl⟩
    by_cases hlt : i < es.length
    · go_wp2
      go_loopw [4] (fun j wr => ∃ k : Nat, k ≤ i ∧ j = .int .i64 k ∧ apartTo es i k ∧ Below w.heap.size w wr) (fun j _ => i - (intOf j).toNat)
      case atStart => exact ⟨0, by omega, rfl, HAP.out, HB.out⟩
      case round =>
        clear HAP HB
        obtain ⟨k, hk, rfl, hap, hb⟩ := hrel
        by_cases hlk : k < i
        · obtain ⟨b, o, rfl, hblt, hsz, e1, e2, e3⟩ := ent_cells HES.out i hlt
          obtain ⟨b', o', hbo, _, hsz', e1', e2', e3'⟩ := ent_cells HES.out k (by omega)
          simp only [Option.some.injEq, Addr.mk.injEq, and_true] at hbo
          obtain ⟨rfl, rfl⟩ := hbo
          have c2 : wr.cell? ⟨b, o + i * 3 + 1, none⟩ = some (.bool es[i].has) := by rw [hb.cell (p := ⟨b, _, none⟩) hblt]; exact e2
          have c3 : wr.cell? ⟨b, o + i * 3 + 2, none⟩ = some (.string es[i].key) := by rw [hb.cell (p := ⟨b, _, none⟩) hblt]; exact e3
          have d2 : wr.cell? ⟨b, o + k * 3 + 1, none⟩ = some (.bool es[k].has) := by rw [hb.cell (p := ⟨b, _, none⟩) hblt]; exact e2'
          have d3 : wr.cell? ⟨b, o + k * 3 + 2, none⟩ = some (.string es[k].key) := by rw [hb.cell (p := ⟨b, _, none⟩) hblt]; exact e3'
          have hm : entMatch es[i] es[k] = (es[i].has == es[k].has && (!es[i].has || es[i].key.toList == es[k].key.toList)) := rfl
          have HAP := Sp.hid hap
          have HB := Sp.hid hb
          have HM := Sp.hid hm
          clear hap hb e1 e2 e3 e1' e2' e3' hm
          have hi0 : ((i : Int) < (es.length : Int)) := by omega
          have hk0 : ((k : Int) < (es.length : Int)) := by omega
          cases hh1 : es[i].has <;> cases hh2 : es[k].has
          all_goals
            rw [hh1] at c2
            rw [hh2] at d2
            have H1 := Sp.hid hh1
            have H2 := Sp.hid hh2
            clear hh1 hh2
          · go_wp2_with fail
            go_quiet (fail)
            go_wp2
            go_ret
            exact ⟨false, not_apart hlt (by omega) hlk (by rw [HM.out, H1.out, H2.out]; rfl), rfl, below_drewN HB.out _⟩
          · go_wp2_with fail
            go_quiet (fail)
            go_wp2
            go_roundw
            case rel => exact ⟨k + 1, by omega, by go_num, apartTo_next HAP.out (by rw [HM.out, H1.out, H2.out]; rfl), below_drewN HB.out _⟩
            case measure => simp [intOf]; omega
          · go_wp2_with fail
            go_quiet (fail)
            go_wp2
            go_roundw
            case rel => exact ⟨k + 1, by omega, by go_num, apartTo_next HAP.out (by rw [HM.out, H1.out, H2.out]; rfl), below_drewN HB.out _⟩
            case measure => simp [intOf]; omega
          · cases hkey : (es[i].key.toList == es[k].key.toList)
            · go_wp2_with fail
              go_quiet (fail)
              go_wp2
              go_roundw
              case rel => exact ⟨k + 1, by omega, by go_num, apartTo_next HAP.out (by rw [HM.out, H1.out, H2.out, hkey]; rfl), below_drewN HB.out _⟩
              case measure => simp [intOf]; omega
            · go_wp2_with fail
              go_quiet (fail)
              go_wp2
              go_ret
              exact ⟨false, not_apart hlt (by omega) hlk (by rw [HM.out, H1.out, H2.out, hkey]; rfl), rfl, below_drewN HB.out _⟩
        · obtain rfl : k = i := by omega
          have HAP := Sp.hid hap
          have HB := Sp.hid hb
          clear hap hb
          go_wp2
          go_roundw
          case rel => exact ⟨k + 1, by omega, by go_num, apartTo_row HAP.out, HB.out⟩
          case measure => simp [intOf]; omega
    · obtain rfl : i = es.length := by omega
      go_wp2
      go_ret
      exact ⟨true, ⟨fun _ x y hx hy h => HAP.out.1 x y hx hy hx h, fun _ => rfl⟩, rfl, HB.out⟩

end Go.Proofs.Ytbhdkionphemdaa
