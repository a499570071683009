/- The document's answer over keys: Unique: what the call returns. Conditions: at most 1000 entries. -/
import Derived.Test.YtbhdkionphemdaaKeysRef
namespace Go.Proofs.Ytbhdkionphemdaa
open Go.RowKit Go.Sp Go.Maps

/-- Has the one a key, and the other the same? -/
def sameKey (a b : Ent) : Bool := a.has && entMatch a b
def uniqTo (es : List Ent) (i k : Nat) : Prop := (∀ x y (hx : x < es.length) (hy : y < es.length), x < i → y < x → sameKey es[x] es[y] = false) ∧ ∀ y (hi : i < es.length) (hy : y < es.length), y < k → sameKey es[i] es[y] = false
def Uniq (es : List Ent) : Prop := ∀ x y (hx : x < es.length) (hy : y < es.length), y < x → sameKey es[x] es[y] = false

theorem uniqTo_next {es : List Ent} {i k : Nat} {hi : i < es.length} {hk : k < es.length} (h : uniqTo es i k) (hm : sameKey es[i] es[k] = false) : uniqTo es i (k + 1) :=
  ⟨h.1, fun y hi' hy hlt => by
    rcases Nat.lt_or_ge y k with h' | h'
    · exact h.2 y hi' hy h'
    · obtain rfl : y = k := by omega
      exact hm⟩
theorem uniqTo_row {es : List Ent} {i : Nat} (h : uniqTo es i i) : uniqTo es (i + 1) 0 :=
  ⟨fun x y hx hy hlt hyx => by
    rcases Nat.lt_or_ge x i with h' | h'
    · exact h.1 x y hx hy h' hyx
    · obtain rfl : x = i := by omega
      exact h.2 y hx hy hyx, fun y _ _ h' => by omega⟩
theorem not_uniq {es : List Ent} {i k : Nat} (hi : i < es.length) (hk : k < es.length) (hlt : k < i) (h : sameKey es[i] es[k] = true) : (false = true ↔ Uniq es) := by
  simp only [Bool.false_eq_true, false_iff]
  intro ha
  rw [ha i k hi hk hlt] at h
  cases h

set_option maxRecDepth 100000 in
set_option maxHeartbeats 1000000 in
theorem refUnique_any (F : Nat → Prop) (a : Option Addr) (cap : Nat) (es : List Ent) (w : World) (hes : Sl refS F w a es) (hF : ∀ k, F k → k < w.heap.size) (hlen : es.length ≤ 1000) :
    Calls Try.prog 19 #[.slice a es.length cap] w (SomeBool (fun b => b = true ↔ Uniq es) w) := by
  have HES := Sp.hid hes
  have HF := Sp.hid hF
  clear hes hF
  go_enter Try.func19, Try.ntmps19
  go_wp2
  go_loopw [3] (fun i wr => ∃ k : Nat, k ≤ es.length ∧ i = .int .i64 k ∧ uniqTo es k 0 ∧ Below w.heap.size w wr) (fun i _ => es.length - (intOf i).toNat)
  case atStart => exact ⟨0, by omega, rfl, ⟨fun x y _ _ h _ => by omega, fun y _ _ h => by omega⟩, Below.refl _ _⟩
  case round =>
    obtain ⟨i, hi, rfl, hap, hb⟩ := hrel
    have HAP := Sp.hid hap
    have HB := Sp.hid hb
    clear hap hb
    obtain ⟨wo, rfl⟩ : ∃ wo : World, wo = wr := ⟨_, rfl⟩
    by_cases hlt : i < es.length
    · go_wp2
      go_loopw [4] (fun j wr => ∃ k : Nat, k ≤ i ∧ j = .int .i64 k ∧ uniqTo es i k ∧ Below w.heap.size w wr) (fun j _ => i - (intOf j).toNat)
      case atStart => exact ⟨0, by omega, rfl, HAP.out, HB.out⟩
      case round =>
        clear HAP HB
        obtain ⟨k, hk, rfl, hap, hb⟩ := hrel
        by_cases hlk : k < i
        · obtain ⟨b, o, rfl, hfb, hsz, e1, e2⟩ := ref_cells HES.out i hlt
          obtain ⟨b', o', hbo, _, hsz', e1', e2'⟩ := ref_cells HES.out k (by omega)
          simp only [Option.some.injEq, Addr.mk.injEq, and_true] at hbo
          obtain ⟨rfl, rfl⟩ := hbo
          have hblt := HF.out _ hfb
          rw [← hb.cell (p := ⟨b, _, none⟩) hblt] at e1 e2 e1' e2'
          obtain ⟨ei, hei⟩ : ∃ ei, ei = es[i] := ⟨_, rfl⟩
          obtain ⟨ek, hek⟩ : ∃ ek, ek = es[k] := ⟨_, rfl⟩
          rw [← hei] at e1 e2
          rw [← hek] at e1' e2'
          have hm : sameKey es[i] es[k] = (ei.has && entMatch ei ek) := by rw [hei, hek]; rfl
          have hszw := hb.size
          have HAP := Sp.hid hap
          have HB := Sp.hid hb
          have HM := Sp.hid hm
          have HEI := Sp.hid hei
          have HEK := Sp.hid hek
          clear hap hb hm hei hek
          have hi0 : ((i : Int) < (es.length : Int)) := by omega
          have hk0 : ((k : Int) < (es.length : Int)) := by omega
          cases hh1 : ei.has
          · rw [hh1] at e1
            have H1 := Sp.hid hh1
            clear hh1
            go_wp2_with fail
            go_quiet (fail)
            go_wp2
            go_roundw
            case rel => exact ⟨k + 1, by omega, by go_num, uniqTo_next HAP.out (by rw [HM.out, H1.out]; rfl), below_drewN HB.out _⟩
            case measure => simp [intOf]; omega
          · obtain ⟨mt, hmt⟩ : ∃ mt, mt = entMatch ei ek := ⟨_, rfl⟩
            have HMT := Sp.hid hmt
            have H1 := Sp.hid hh1
            rw [hh1] at e1
            clear hmt hh1
            go_wp2
            refine wp_region_facts (by kernel_rfl) [some 16, some 17, some 18, some 19, some 20, some 21, some 22, some 23, some 24, some 25, some 26, some 27, some 28, some 29, some 30, some 31]
              [fun v _ => v = .slice (some ⟨b, o, none⟩) es.length cap, fun v _ => v = .int .i64 i, fun v _ => v = .pointer (some ⟨b, o + i * 2, none⟩), fun v _ => v = .pointer (some ⟨b, o + i * 2, none⟩), fun v _ => v = .bool true, fun v _ => v = .bool true,
                fun v _ => v = .slice (some ⟨b, o, none⟩) es.length cap, fun v _ => v = .int .i64 i, fun v _ => v = .pointer (some ⟨b, o + i * 2, none⟩), fun v _ => v = .agg #[.bool true, .string ei.key],
                fun v _ => v = .slice (some ⟨b, o, none⟩) es.length cap, fun v _ => v = .int .i64 k, fun v _ => v = .pointer (some ⟨b, o + k * 2, none⟩), fun v _ => v = .agg #[.bool ek.has, .string ek.key], fun v _ => v = .bool mt, fun v _ => v = .bool mt]
              (fun w' => Below wr.heap.size wr w') (fun _ w w' => Below w.heap.size w w') rfl (by kernel_rfl) (by kernel_rfl) (by kernel_rfl) ?fr ?hfr ?G0 ?GR ?FR ?step ?fin
            case hfr => intro u; simp only [Sp.fillFrom, Sp.idx_cons, Sp.idx_nil, Option.some.injEq, reduceCtorEq, reduceIte, Nat.reduceEqDiff, Nat.reduceAdd, Option.map_some, Option.map_none]; exact rfl
            case G0 => exact (Below.refl _ _).drew
            case GR => exact fun _ _ _ hG hR => hG.trans (hR.mono hG.size)
            case FR => repeat (first | exact trivial | refine ⟨fun _ _ _ _ _ _ _ h => h, ?_⟩)
            case step =>
              refine ⟨?_, ?_, ?_, ?_, ?_, ?_, ?_, ?_, ?_, ?_, ?_, ?_, ?_, ?_, ?_, ?_, trivial⟩
              all_goals
                intro u w1 hG hD; simp only [Sp.DepsHold, Sp.factAt, Region.binds, List.getElem?_cons_zero, List.getElem?_cons_succ, List.getElem?_nil, Option.getD_some, Option.getD_none, and_true, true_and, true_implies, implies_true] at hD; dsimp only; generalize u 0 = u0 at *; generalize u 1 = u1 at *; generalize u 2 = u2 at *; generalize u 3 = u3 at *; generalize u 4 = u4 at *; generalize u 5 = u5 at *; generalize u 6 = u6 at *; generalize u 7 = u7 at *; generalize u 8 = u8 at *; generalize u 9 = u9 at *; generalize u 10 = u10 at *; generalize u 11 = u11 at *; generalize u 12 = u12 at *; generalize u 13 = u13 at *; generalize u 14 = u14 at *; generalize u 15 = u15 at *; clear u
                have c1 : w1.cell? ⟨b, o + i * 2, none⟩ = some (.bool true) := by rw [hG.cell (p := ⟨b, _, none⟩) (by show b < _; omega)]; exact e1
                have c2 : w1.cell? ⟨b, o + i * 2 + 1, none⟩ = some (.string ei.key) := by rw [hG.cell (p := ⟨b, _, none⟩) (by show b < _; omega)]; exact e2
                have c3 : w1.cell? ⟨b, o + k * 2, none⟩ = some (.bool ek.has) := by rw [hG.cell (p := ⟨b, _, none⟩) (by show b < _; omega)]; exact e1'
                have c4 : w1.cell? ⟨b, o + k * 2 + 1, none⟩ = some (.string ek.key) := by rw [hG.cell (p := ⟨b, _, none⟩) (by show b < _; omega)]; exact e2'
                have HG := Sp.hid hG
                clear hG
                first
                  | obtain ⟨rfl, rfl, rfl, _⟩ := hD
                  | obtain ⟨rfl, rfl, rfl⟩ := hD
                  | obtain ⟨rfl, rfl⟩ := hD
                  | obtain rfl := hD
                  | skip
              all_goals first | (go_wp2; exact ⟨Below.refl _ _, _, rfl, rfl⟩) | skip
              · have hcall := match_any ei ek w1
                rw [H1.out] at hcall
                have HCALL := Sp.hid hcall
                clear hcall
                go_wp2_with (go_at_call 22; refine HCALL.out.mono ?_; rintro e w2 ⟨rfl, hb3⟩)
                exact ⟨hb3, _, rfl, by show Value.bool (entMatch ei ek) = Value.bool mt; rw [HMT.out]⟩
            case fin =>
              intro u w1 hG hF; simp only [Sp.AllF, and_true] at hF; (try dsimp only); generalize u 0 = u0 at *; generalize u 1 = u1 at *; generalize u 2 = u2 at *; generalize u 3 = u3 at *; generalize u 4 = u4 at *; generalize u 5 = u5 at *; generalize u 6 = u6 at *; generalize u 7 = u7 at *; generalize u 8 = u8 at *; generalize u 9 = u9 at *; generalize u 10 = u10 at *; generalize u 11 = u11 at *; generalize u 12 = u12 at *; generalize u 13 = u13 at *; generalize u 14 = u14 at *; generalize u 15 = u15 at *; clear u
              obtain ⟨rfl, rfl, rfl, rfl, rfl, rfl, rfl, rfl, rfl, rfl, rfl, rfl, rfl, rfl, rfl, rfl⟩ := hF
              have hb3 : Below w.heap.size w w1 := HB.out.trans (hG.mono hszw)
              have HB3 := Sp.hid hb3
              clear hG hb3
              cases mt
              · go_wp2
                go_roundw
                case rel => exact ⟨k + 1, by omega, by go_num, uniqTo_next HAP.out (by rw [HM.out, H1.out, ← HMT.out]; rfl), HB3.out⟩
                case measure => simp [intOf]; omega
              · go_wp2
                go_ret
                exact ⟨false, not_uniq hlt (by omega) hlk (by rw [HM.out, H1.out, ← HMT.out]; rfl), rfl, HB3.out⟩
        · obtain rfl : k = i := by omega
          have HAP := Sp.hid hap
          have HB := Sp.hid hb
          clear hap hb
          go_wp2
          go_roundw
          case rel => exact ⟨k + 1, by omega, by go_num, uniqTo_row HAP.out, HB.out⟩
          case measure => simp [intOf]; omega
    · obtain rfl : i = es.length := by omega
      go_wp2
      go_ret
      exact ⟨true, ⟨fun _ x y hx hy h => HAP.out.1 x y hx hy hx h, fun _ => rfl⟩, rfl, HB.out⟩

end Go.Proofs.Ytbhdkionphemdaa
