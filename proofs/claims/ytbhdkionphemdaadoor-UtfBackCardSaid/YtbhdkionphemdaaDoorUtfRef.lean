/- The document's Is and Bytes, the law's Bytes: what each call returns. Conditions: numbers from 0 to 1114111 for Bytes. -/
import Derived.Test.YtbhdkionphemdaaDoorUtfEnc
import Derived.Deep.QuietTactic
namespace Go.Proofs.YtbhdkionphemdaaDoor
open Go.RowKit Go.Sp Go.Maps

set_option maxHeartbeats 1000000 in
theorem refIs_any (n : Int) (w : World) : Calls Tryd.prog 9 #[.int .i64 n] w fun e w' => e = .returned (.bool (isChar n)) ∧ w = w' := by
  have ht : (n = 9 ∨ n = 10 ∨ n = 13 ∨ (32 ≤ n ∧ n ≤ 55295) ∨ (57344 ≤ n ∧ n ≤ 65533) ∨ (65536 ≤ n ∧ n ≤ 1114111)) → isChar n = true := fun h => by
    unfold isChar; simp only [Bool.or_eq_true, Bool.and_eq_true, decide_eq_true_eq]; omega
  have hf : ¬ (n = 9 ∨ n = 10 ∨ n = 13 ∨ (32 ≤ n ∧ n ≤ 55295) ∨ (57344 ≤ n ∧ n ≤ 65533) ∨ (65536 ≤ n ∧ n ≤ 1114111)) → isChar n = false := fun h => by
    rw [← Bool.not_eq_true]
    unfold isChar; simp only [Bool.or_eq_true, Bool.and_eq_true, decide_eq_true_eq]; omega
  obtain ⟨c, hc⟩ : ∃ c, c = isChar n := ⟨_, rfl⟩
  rw [← hc] at ht hf ⊢
  have HT := Sp.hid ht
  have HF := Sp.hid hf
  clear hc ht hf
  by_cases h1 : n = 9
  · subst h1
    have h := HT.out (by omega)
    subst h
    go_enter Tryd.func9, Tryd.ntmps9
    go_wp2
    go_ret
    exact ⟨rfl, rfl⟩
  by_cases h2 : n = 10
  · subst h2
    have h := HT.out (by omega)
    subst h
    go_enter Tryd.func9, Tryd.ntmps9
    go_wp2
    go_ret
    exact ⟨rfl, rfl⟩
  by_cases h3 : n = 13
  · subst h3
    have h := HT.out (by omega)
    subst h
    go_enter Tryd.func9, Tryd.ntmps9
    go_wp2
    go_ret
    exact ⟨rfl, rfl⟩
  have b1 : (n == 9) = false := by simpa using h1
  have b2 : (n == 10) = false := by simpa using h2
  have b3 : (n == 13) = false := by simpa using h3
  have H1 := Sp.hid h1
  have H2 := Sp.hid h2
  have H3 := Sp.hid h3
  clear h1 h2 h3
  by_cases h4 : 32 ≤ n
  · by_cases h5 : n ≤ 55295
    · have h := HT.out (by omega)
      subst h
      go_enter Tryd.func9, Tryd.ntmps9
      go_wp2
      go_ret
      exact ⟨rfl, rfl⟩
    · by_cases h6 : 57344 ≤ n
      · by_cases h7 : n ≤ 65533
        · have h := HT.out (by omega)
          subst h
          go_enter Tryd.func9, Tryd.ntmps9
          go_wp2
          go_ret
          exact ⟨rfl, rfl⟩
        · by_cases h8 : 65536 ≤ n
          · by_cases h9 : n ≤ 1114111
            · have h := HT.out (by omega)
              subst h
              go_enter Tryd.func9, Tryd.ntmps9
              go_wp2
              go_ret
              exact ⟨rfl, rfl⟩
            · have h := HF.out (by omega)
              subst h
              go_enter Tryd.func9, Tryd.ntmps9
              go_wp2
              go_ret
              exact ⟨rfl, rfl⟩
          · have h := HF.out (by have := H1.out; have := H2.out; have := H3.out; omega)
            subst h
            go_enter Tryd.func9, Tryd.ntmps9
            go_wp2
            go_ret
            exact ⟨rfl, rfl⟩
      · have h := HF.out (by have := H1.out; have := H2.out; have := H3.out; omega)
        subst h
        have h8 : ¬ 65536 ≤ n := by omega
        go_enter Tryd.func9, Tryd.ntmps9
        go_wp2
        go_ret
        exact ⟨rfl, rfl⟩
  · have h := HF.out (by have := H1.out; have := H2.out; have := H3.out; omega)
    subst h
    have h8 : ¬ 65536 ≤ n := by omega
    have h6 : ¬ 57344 ≤ n := by omega
    go_enter Tryd.func9, Tryd.ntmps9
    go_wp2
    go_ret
    exact ⟨rfl, rfl⟩

theorem sl_newq (q : IntKind) (w : World) (l : List Int) (t : TypeId) : Sl (Shape.int q) (fun b => w.heap.size ≤ b ∧ b < (w.alloc (.cells (l.map (Value.int q)).toArray t)).heap.size) (w.alloc (.cells (l.map (Value.int q)).toArray t)) (some ⟨w.heap.size, 0, none⟩) l := by
  intro i hi
  refine ⟨w.heap.size, 0, [.int q l[i]], rfl, ⟨Nat.le_refl _, by simp⟩, rfl, ?_⟩
  intro j hj
  have hj0 : j = 0 := by simpa using hj
  subst hj0
  simp [Shape.int, hi]
theorem sl_new (w : World) (l : List Int) (t : TypeId) : Sl (Shape.int .u8) (fun b => w.heap.size ≤ b ∧ b < (w.alloc (.cells (l.map (Value.int .u8)).toArray t)).heap.size) (w.alloc (.cells (l.map (Value.int .u8)).toArray t)) (some ⟨w.heap.size, 0, none⟩) l := sl_newq .u8 w l t

set_option maxHeartbeats 1000000 in
/-- Bytes of a number that a character may be. -/
theorem refBytes_any (n : Int) (w : World) (h0 : 0 ≤ n) (h1 : n ≤ 1114111) : Calls Tryd.prog 10 #[.int .i64 n] w fun e w' => ∃ cap, e = .returned (.slice (some ⟨w.heap.size, 0, none⟩) (encM n).length cap) ∧ (encM n).length ≤ cap ∧
      Sl (Shape.int .u8) (fun b => w.heap.size ≤ b ∧ b < w'.heap.size) w' (some ⟨w.heap.size, 0, none⟩) (encM n) ∧ Below w.heap.size w w' := by
  by_cases c1 : n < 128
  · have he : encM n = [n] := by unfold encM; rw [if_pos c1]
    rw [he]
    clear he
    go_enter Tryd.func10, Tryd.ntmps10
    go_wp2
    go_ret
    exact ⟨1, rfl, Nat.le_refl _, sl_new w [n] _, (Below.refl _ _).alloc (Nat.le_refl _) _⟩
  by_cases c2 : n < 2048
  · have he : encM n = [192 + n / 64, 128 + n % 64] := by unfold encM; rw [if_neg c1, if_pos c2]
    rw [he]
    clear he
    go_enter Tryd.func10, Tryd.ntmps10
    go_wp2
    go_ret
    exact ⟨2, rfl, Nat.le_refl _, sl_new w [192 + n / 64, 128 + n % 64] _, (Below.refl _ _).alloc (Nat.le_refl _) _⟩
  by_cases c3 : n < 65536
  · have he : encM n = [224 + n / 4096, 128 + n / 64 % 64, 128 + n % 64] := by unfold encM; rw [if_neg c1, if_neg c2, if_pos c3]
    rw [he]
    clear he
    go_enter Tryd.func10, Tryd.ntmps10
    go_wp2
    go_ret
    exact ⟨3, rfl, Nat.le_refl _, sl_new w [224 + n / 4096, 128 + n / 64 % 64, 128 + n % 64] _, (Below.refl _ _).alloc (Nat.le_refl _) _⟩
  · have he : encM n = [240 + n / 262144, 128 + n / 4096 % 64, 128 + n / 64 % 64, 128 + n % 64] := by unfold encM; rw [if_neg c1, if_neg c2, if_neg c3]
    rw [he]
    clear he
    go_enter Tryd.func10, Tryd.ntmps10
    go_wp2
    go_ret
    exact ⟨4, rfl, Nat.le_refl _, sl_new w [240 + n / 262144, 128 + n / 4096 % 64, 128 + n / 64 % 64, 128 + n % 64] _, (Below.refl _ _).alloc (Nat.le_refl _) _⟩

def IsBool (b : Bool) (w : World) (e : Ending) (w' : World) : Prop := e = .returned (.bool b) ∧ Below w.heap.size w w'

theorem take_next {xs ys : List Int} {k : Nat} (hx : k < xs.length) (hy : k < ys.length) (h : xs.take k = ys.take k) (he : xs[k] = ys[k]) : xs.take (k + 1) = ys.take (k + 1) := by
  rw [List.take_succ_eq_append_getElem hx, List.take_succ_eq_append_getElem hy, h, he]

set_option maxHeartbeats 1000000 in
theorem lawBytes_any (F G : Nat → Prop) (a b : Option Addr) (ca cb : Nat) (xs ys : List Int) (w : World) (hx : Sl (Shape.int .u8) F w a xs) (hy : Sl (Shape.int .u8) G w b ys) (hF : ∀ k, F k → k < w.heap.size) (hG : ∀ k, G k → k < w.heap.size) (hxl : xs.length ≤ 100000) (hyl : ys.length ≤ 100000) :
    Calls Tryd.prog 11 #[.slice a xs.length ca, .slice b ys.length cb] w (IsBool (decide (xs = ys)) w) := by
  have HX := Sp.hid hx
  have HY := Sp.hid hy
  have HF := Sp.hid hF
  have HG := Sp.hid hG
  clear hx hy hF hG
  by_cases hl : xs.length = ys.length
  · have hne : ((xs.length : Int) != (ys.length : Int)) = false := by rw [bne_eq_false_iff_eq]; omega
    have HL := Sp.hid hl
    clear hl
    go_enter Tryd.func11, Tryd.ntmps11
    go_wp2
    go_loopw [5] (fun i wr => ∃ k : Nat, k ≤ xs.length ∧ i = .int .i64 k ∧ xs.take k = ys.take k ∧ Below w.heap.size w wr) (fun i _ => xs.length - (intOf i).toNat)
    case atStart => exact ⟨0, by omega, rfl, rfl, Below.refl _ _⟩
    case round =>
      obtain ⟨k, hk, rfl, ht, hb⟩ := hrel
      have HT := Sp.hid ht
      have HB := Sp.hid hb
      clear ht hb
      by_cases hlt : k < xs.length
      · have hlt2 : k < ys.length := by rw [← HL.out]; exact hlt
        obtain ⟨b1, o1, rfl, f1, e1⟩ := HX.out.int_cell k hlt
        obtain ⟨b2, o2, rfl, f2, e2⟩ := HY.out.int_cell k hlt2
        have c1 : wr.cell? ⟨b1, o1 + k, none⟩ = some (.int .u8 xs[k]) := by rw [HB.out.cell (p := ⟨b1, _, none⟩) (HF.out _ f1)]; exact e1
        have c2 : wr.cell? ⟨b2, o2 + k, none⟩ = some (.int .u8 ys[k]) := by rw [HB.out.cell (p := ⟨b2, _, none⟩) (HG.out _ f2)]; exact e2
        have hi0 : ((k : Int) < (xs.length : Int)) := by omega
        have hk0 : ((k : Int) < (ys.length : Int)) := by omega
        clear e1 e2
        cases hne2 : (xs[k] != ys[k])
        · have heq : xs[k] = ys[k] := by simpa using hne2
          have HE := Sp.hid heq
          clear heq
          go_wp2_with fail
          go_quiet (fail)
          go_wp2
          go_roundw
          case rel => exact ⟨k + 1, by omega, by go_num, take_next hlt hlt2 HT.out HE.out, below_drewN HB.out _⟩
          case measure => simp [intOf]; omega
        · have hneq : ¬ xs = ys := by intro e; subst e; simp at hne2
          have HN := Sp.hid hneq
          clear hneq
          go_wp2_with fail
          go_quiet (fail)
          go_wp2
          go_ret
          exact ⟨by rw [decide_eq_false HN.out]; rfl, below_drewN HB.out _⟩
      · obtain rfl : k = xs.length := by omega
        have heq : xs = ys := by
          have := HT.out
          rw [List.take_length] at this
          rw [this, HL.out, List.take_length]
        have HE := Sp.hid heq
        clear heq
        go_wp2
        go_ret
        exact ⟨by rw [decide_eq_true HE.out]; rfl, HB.out⟩
  · have hne : ((xs.length : Int) != (ys.length : Int)) = true := by rw [bne_iff_ne]; omega
    have hneq : ¬ xs = ys := by intro e; subst e; exact hl rfl
    have HN := Sp.hid hneq
    clear hneq hl
    go_enter Tryd.func11, Tryd.ntmps11
    go_wp2
    go_ret
    exact ⟨by rw [decide_eq_false HN.out]; rfl, Below.refl _ _⟩

set_option maxHeartbeats 1000000 in
theorem awake_any (w : World) (hsp : SpansAt w) : Calls Tryd.prog 7 #[] w (IsBool true w) := by
  go_enter Tryd.func7, Tryd.ntmps7
  go_wp2_with fail
  refine (encode_any _ _ 1 [233] _ (sl_newq .i32 w [233] _) (fun k hk => hk.2) (by decide) (SpansAt.below hsp ((Below.refl _ _).alloc (Nat.le_refl _) _) (Nat.le_refl _))).mono ?_
  rintro e w1 ⟨hb1, h⟩
  rcases h with ⟨_, a', c', rfl, hc, hsl, _⟩ | ⟨h, _⟩
  · have hsw1 := hb1.size
    simp only [World.size_alloc] at hsw1 hb1
    have hb1' : Below w.heap.size w w1 := ((Below.refl _ _).alloc (Nat.le_refl _) _).trans (hb1.mono (by omega))
    have HB1 := Sp.hid hb1'
    have HSL := Sp.hid hsl
    clear hb1 hb1' hsl
    go_wp2_with fail
    refine (decode_any _ _ 2 0 [195, 169] _ (sl_new w1 [195, 169] _) (by decide) (by decide) (by decide) (by decide) (SpansAt.below hsp (HB1.out.alloc HB1.out.size _) (Nat.le_refl _))).mono ?_
    rw [show decV (List.drop 0 [195, 169]) = .tuple #[.int .i32 233, .int .i64 2, .int .i64 0] by rfl]
    rintro e w2 ⟨rfl, hb2⟩
    have hsw2 := hb2.size
    simp only [World.size_alloc] at hsw2 hb2
    have hb2' : Below w.heap.size w w2 := (HB1.out.alloc HB1.out.size _).trans (hb2.mono (by omega))
    have hbl : Below w1.heap.size w1 w2 := ((Below.refl _ _).alloc (Nat.le_refl _) _).trans (hb2.mono (by omega))
    have hsl2 := HSL.out.below (fun k hk => hk.2) hbl
    have HSL2 := Sp.hid hsl2
    have HB2 := Sp.hid hb2'
    clear hb2 hb2' hbl hsl2 HSL
    go_wp2_with fail
    refine (check_any _ _ 2 [192, 128] _ (sl_new w2 [192, 128] _) (fun k hk => hk.2) (by decide) (by decide) (by decide) (SpansAt.below hsp (HB2.out.alloc HB2.out.size _) (Nat.le_refl _))).mono ?_
    rintro e w3 ⟨k, rs, hch, _, rfl, hb3⟩
    obtain ⟨_, rfl⟩ := chars_uniq hch (rs' := []) (k' := 0) ⟨⟨rfl, by decide, rfl⟩, by decide⟩
    have hsw3 := hb3.size
    simp only [World.size_alloc] at hsw3 hb3
    have hb3' : Below w.heap.size w w3 := (HB2.out.alloc HB2.out.size _).trans (hb3.mono (by omega))
    have hbl : Below w2.heap.size w2 w3 := ((Below.refl _ _).alloc (Nat.le_refl _) _).trans (hb3.mono (by omega))
    have hsl3 := HSL2.out.below (fun k hk => by omega) hbl
    have HSL3 := Sp.hid hsl3
    have HB3 := Sp.hid hb3'
    clear hb3 hb3' hbl hsl3 HSL2 hch
    rw [if_pos (by decide)]
    go_wp2_with fail
    refine (lawBytes_any _ _ _ _ _ 2 ([233].flatMap encM) [195, 169] _ (HSL3.out.below (fun k hk => by omega) ((Below.refl _ _).alloc (Nat.le_refl _) _)) (sl_new w3 [195, 169] _) (fun k hk => by have := hk.2; simp; omega) (fun k hk => hk.2) (by decide) (by decide)).mono ?_
    rw [show decide ([233].flatMap encM = [195, 169]) = true by decide]
    rintro e w4 ⟨rfl, hb4⟩
    have HB4 := Sp.hid hb4
    clear hb4
    go_wp2
    go_ret
    exact ⟨rfl, (HB3.out.alloc HB3.out.size _).trans (HB4.out.mono (by have := HB3.out.size; simp; omega))⟩
  · exact absurd h (by decide)

end Go.Proofs.YtbhdkionphemdaaDoor
