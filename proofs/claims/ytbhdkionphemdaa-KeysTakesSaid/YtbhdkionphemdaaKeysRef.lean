/- The document's answer over keys: plain, Match: what each call returns. Conditions: at most 1000 entries. -/
import Derived.Test.YtbhdkionphemdaaKeysOwn
import Derived.Test.YtbhdkionphemdaaRegionOwn
namespace Go.Proofs.Ytbhdkionphemdaa
open Go.RowKit Go.Sp Go.Maps

/-- An entry of the document's answer: no place. -/
def refS : Shape Ent where
  sz := 2
  rep _ _ vs x := vs = [.bool x.has, .string x.key] ∧ x.key.size ≤ maxLen
  len := by rintro _ _ _ _ ⟨rfl, _⟩; rfl
  frame := by intro _ _ _ _ _ h _; exact h
  mono := by intro _ _ _ _ _ h _; exact h

theorem ref_cells {F : Nat → Prop} {w : World} {a : Option Addr} {es : List Ent} (h : Sl refS F w a es) (i : Nat) (hi : i < es.length) :
    ∃ b o, a = some ⟨b, o, none⟩ ∧ F b ∧ es[i].key.size ≤ maxLen ∧ w.cell? ⟨b, o + i * 2, none⟩ = some (.bool es[i].has) ∧ w.cell? ⟨b, o + i * 2 + 1, none⟩ = some (.string es[i].key) := by
  obtain ⟨b, o, vs, h1, h2, ⟨rfl, h3⟩, h4⟩ := h i hi
  exact ⟨b, o, h1, h2, h3, h4 0 (by simp), h4 1 (by simp)⟩

def refCells (e : Ent) : List Value := [.bool e.has, .string e.key]

theorem flat_get_n {α : Type} (n : Nat) (f : α → List Value) (hf : ∀ e, (f e).length = n) : ∀ (es : List α) (i j : Nat), j < n → (es.flatMap f)[i * n + j]? = (es[i]?).bind fun e => (f e)[j]?
  | [], i, j, _ => by simp
  | e :: es, 0, j, hj => by
    rw [List.flatMap_cons, Nat.zero_mul, Nat.zero_add, List.getElem?_append_left (by rw [hf]; exact hj)]
    simp
  | e :: es, i + 1, j, hj => by
    have h1 : (i + 1) * n = i * n + n := Nat.succ_mul i n
    rw [List.flatMap_cons, List.getElem?_append_right (by rw [hf]; omega), hf]
    rw [show (i + 1) * n + j - n = i * n + j from by omega, flat_get_n n f hf es i j hj]
    simp

theorem flat_length_n {α : Type} (n : Nat) (f : α → List Value) (hf : ∀ e, (f e).length = n) (es : List α) : (es.flatMap f).length = es.length * n := by
  induction es with
  | nil => simp
  | cons x es ih => rw [List.flatMap_cons, List.length_append, ih, hf, List.length_cons, Nat.succ_mul]; omega

/-- A row that the call owns, as a slice of whatever elements. -/
theorem own_sl {α : Type} (S : Shape α) (f : α → List Value) (hf : ∀ e, (f e).length = S.sz) (hsz : 0 < S.sz) {w : World} {base : Nat} {e : TypeId} {v : Value} {n : Nat} {es : List α}
    (hr : ∀ x ∈ es, S.rep (fun b => base ≤ b ∧ b < w.heap.size) w (f x) x) (h : w.ownsRow base e S.sz v n (es.flatMap f)) :
    ∃ a cap, v = .slice a n cap ∧ n = es.length ∧ n ≤ cap ∧ Sl S (fun b => base ≤ b ∧ b < w.heap.size) w a es := by
  have hn : n = es.length := by
    have := h.1
    rw [flat_length_n _ f hf] at this
    exact (Nat.eq_of_mul_eq_mul_right hsz this).symm
  rcases h.2 with ⟨rfl, h0⟩ | ⟨g, cap, cur, rfl, hg, hh, hc, hm, hs, ht⟩
  · refine ⟨none, 0, by rw [h0], hn, by omega, ?_⟩
    have : es = [] := List.length_eq_zero_iff.1 (by omega)
    subst this; exact Sl.nil
  · have hlt : g < w.heap.size := (Array.getElem?_eq_some_iff.1 hh).1
    refine ⟨some ⟨g, 0, none⟩, cap, rfl, hn, hc, fun i hi => ⟨g, 0, f es[i], rfl, ⟨hg, hlt⟩, hr _ (List.getElem_mem hi), ?_⟩⟩
    intro j hj
    have hj3 : j < S.sz := by rw [hf] at hj; exact hj
    have e1 : (f es[i])[j]? = some ((f es[i])[j]'hj) := List.getElem?_eq_getElem hj
    have := h.cells (g := g) rfl (i * S.sz + j) _ ((flat_get_n _ f hf es i j hj3).trans (by rw [List.getElem?_eq_getElem hi]; exact e1))
    have hadd : (⟨g, 0, none⟩ : Addr).add (i * S.sz + j) = ⟨g, i * S.sz + j, none⟩ := by unfold Addr.add; split <;> simp_all
    rw [hadd] at this
    simpa using this

theorem infoRef : (Try.prog.info? 57).map (fun i => (i.zero, i.size, i.bytes)) = some (some (.agg #[.bool false, .string ⟨#[]⟩]), 2, 24) := by kernel_rfl

theorem news2 (w : World) (g : Nat) (a b : Value) (h0 : w.cell? ⟨g, 0, none⟩ = some a) (h1 : w.cell? ⟨g, 1, none⟩ = some b) : ∀ j u, [a, b][j]? = some u → w.cell? ((⟨g, 0, none⟩ : Addr).add j) = some u := by
  intro j u hj
  have hadd : (⟨g, 0, none⟩ : Addr).add j = ⟨g, j, none⟩ := by unfold Addr.add; split <;> simp_all
  rw [hadd]
  match j, hj with
  | 0, hj => simp at hj; subst hj; exact h0
  | 1, hj => simp at hj; subst hj; exact h1
  | j + 2, hj => simp at hj

set_option maxHeartbeats 1000000 in
theorem match_any (a b : Ent) (w : World) :
    Calls Try.prog 22 #[.agg #[.bool a.has, .string a.key], .agg #[.bool b.has, .string b.key]] w (IsBool (entMatch a b) w) := by
  have hm : entMatch a b = (a.has == b.has && (!a.has || a.key.toList == b.key.toList)) := rfl
  have HM := Sp.hid hm
  clear hm
  have hb : ∀ (c d : Value), Below w.heap.size w ((w.alloc (.cells #[.bool a.has, .string a.key] 57)).alloc (.cells #[.bool b.has, .string b.key] 57)) := fun _ _ => ((Below.refl _ _).alloc (Nat.le_refl _) _).alloc (by simp) _
  have HB := Sp.hid (hb undef undef)
  clear hb
  obtain ⟨ap, ah, ak⟩ := a
  obtain ⟨bp, bh, bk⟩ := b
  cases ah <;> cases bh
  all_goals try dsimp only at HM HB ⊢
  · go_enter Try.func22, Try.ntmps22
    go_wp2
    go_ret
    exact ⟨by rw [HM.out]; rfl, HB.out⟩
  · go_enter Try.func22, Try.ntmps22
    go_wp2
    go_ret
    exact ⟨by rw [HM.out]; rfl, HB.out⟩
  · go_enter Try.func22, Try.ntmps22
    go_wp2
    go_ret
    exact ⟨by rw [HM.out]; rfl, HB.out⟩
  · cases hkey : (ak.toList == bk.toList)
    · go_enter Try.func22, Try.ntmps22
      go_wp2
      go_ret
      exact ⟨by rw [HM.out, hkey]; rfl, HB.out⟩
    · go_enter Try.func22, Try.ntmps22
      go_wp2
      go_ret
      exact ⟨by rw [HM.out, hkey]; rfl, HB.out⟩

set_option maxHeartbeats 1000000 in
theorem plain_any (a : Option Addr) (cap : Nat) (es : List Ent) (w : World) (hes : Sl entS (· < w.heap.size) w a es) (hlen : es.length ≤ 1000) :
    Calls Try.prog 15 #[.slice a es.length cap] w fun e w' => ∃ a' cap', e = .returned (.slice a' es.length cap') ∧ es.length ≤ cap' ∧ Sl refS (fun b => w.heap.size ≤ b ∧ b < w'.heap.size) w' a' es ∧ Below w.heap.size w w' := by
  obtain ⟨i0, hi0, hz0, hz1, hz2⟩ := info_parts infoRef
  have HES := Sp.hid hes
  have hks : ∀ x ∈ es, x.key.size ≤ maxLen := fun x hx => by
    obtain ⟨i, hi, rfl⟩ := List.getElem_of_mem hx
    obtain ⟨_, _, _, _, h3, _⟩ := ent_cells hes i hi
    exact h3
  have HKS := Sp.hid hks
  clear hes hks
  go_enter Try.func15, Try.ntmps15
  go_wp2
  go_loopw [3, 4] (fun v i wr => ∃ k : Nat, k ≤ es.length ∧ i = .int .i64 k ∧ wr.ownsRow w.heap.size 57 2 v k ((es.take k).flatMap refCells) ∧ Below w.heap.size w wr) (fun _ i _ => es.length - (intOf i).toNat)
  case atStart => exact ⟨0, by omega, rfl, World.ownsRow_nil _ _ _ _, Below.refl _ _⟩
  case round =>
    obtain ⟨v0, rfl⟩ : ∃ v0 : Value, v0 = u3 := ⟨_, rfl⟩
    obtain ⟨k, hk, rfl, hown, hb⟩ := hrel
    have HO := Sp.hid hown
    have HB := Sp.hid hb
    have hszw := hb.size
    clear hown hb
    by_cases hlt : k < es.length
    · obtain ⟨b_, o, rfl, hblt, hsz, e1, e2, e3⟩ := ent_cells HES.out k hlt
      have c2 : wr.cell? ⟨b_, o + k * 3 + 1, none⟩ = some (.bool es[k].has) := by rw [HB.out.cell (p := ⟨b_, _, none⟩) hblt]; exact e2
      have c3 : wr.cell? ⟨b_, o + k * 3 + 2, none⟩ = some (.string es[k].key) := by rw [HB.out.cell (p := ⟨b_, _, none⟩) hblt]; exact e3
      have hnx : (es.take (k + 1)).flatMap refCells = (es.take k).flatMap refCells ++ [.bool es[k].has, .string es[k].key] := by
        rw [List.take_succ_eq_append_getElem hlt, List.flatMap_append]; simp [refCells]
      obtain ⟨en, hen⟩ : ∃ en, en = es[k] := ⟨_, rfl⟩
      rw [← hen] at c2 c3 hnx hsz
      have HNX := Sp.hid hnx
      have C2 := Sp.hid c2
      have C3 := Sp.hid c3
      have hbw : b_ < wr.heap.size := by omega
      clear e1 e2 e3 hen hnx c2 c3
      go_wp2
      refine wp_region_two_own (by kernel_rfl) [some 11, some 12, some 13, some 14, some 15, some 16, some 17, some 18, some 19, some 20, some 21, some 22, some 23, some 24, none]
        [fun v _ => v = v0, fun v _ => v = .slice (some ⟨b_, o, none⟩) es.length cap, fun v _ => v = .int .i64 k, fun v _ => v = .pointer (some ⟨b_, o + k * 3, none⟩), fun v _ => v = .pointer (some ⟨b_, o + k * 3 + 1, none⟩), fun v _ => v = .bool en.has,
          fun v _ => v = .slice (some ⟨b_, o, none⟩) es.length cap, fun v _ => v = .int .i64 k, fun v _ => v = .pointer (some ⟨b_, o + k * 3, none⟩), fun v _ => v = .pointer (some ⟨b_, o + k * 3 + 2, none⟩), fun v _ => v = .string en.key,
          fun v _ => v = .agg #[.bool en.has, .string en.key],
          fun v x => ∃ g, v = .slice (some ⟨g, 0, none⟩) 1 1 ∧ wr.heap.size ≤ g ∧ x.cell? ⟨g, 0, none⟩ = some (.bool en.has) ∧ x.cell? ⟨g, 1, none⟩ = some (.string en.key),
          fun v x => x.ownsRow w.heap.size 57 2 v (k + 1) ((es.take (k + 1)).flatMap refCells)]
        13 [0, 1, 2, 3, 4, 5, 6, 7, 8, 9, 10, 11, 12]
        (fun b w' => wr.grownBy w' (if b then v0.ownBlock else none))
        (fun i w w' => w.grownBy w' (if i = 13 then v0.ownBlock else none)) rfl (by kernel_rfl) (by kernel_rfl) (by kernel_rfl) (by kernel_rfl) (by kernel_rfl) ?fr ?hfr ?G0 ?GR ?FR ?step _ rfl ?fin
      case hfr => intro u; simp only [Sp.fillFrom, Sp.idx_cons, Sp.idx_nil, Option.some.injEq, reduceCtorEq, reduceIte, Nat.reduceEqDiff, Nat.reduceAdd, Option.map_some, Option.map_none]; exact rfl
      case G0 => exact ⟨rfl, rfl, rfl, Nat.le_refl _, fun _ _ _ => rfl⟩
      case GR =>
        intro i b w1 w2 hG hR
        cases b
        · by_cases hi : i = 13
          · simp only [hi, if_true] at hR ⊢; exact grown_trans (grown_weak hG) hR
          · simp only [if_neg hi] at hR; simp only [hi, decide_false, Bool.or_false]; exact grown_trans hG hR
        · simp only [if_true, Bool.true_or] at hG ⊢
          by_cases hi : i = 13
          · simp only [hi, if_true] at hR; exact grown_trans hG hR
          · simp only [if_neg hi] at hR; exact grown_trans hG (grown_weak hR)
      case FR =>
        iterate 12 (refine ⟨fun _ _ _ _ _ _ _ h => h, ?_⟩)
        refine ⟨?_, ?_, trivial⟩
        · rintro i hi v w1 w2 _ hR ⟨g, rfl, hg, hc0, hc1⟩
          have hne : some g ≠ (if i = 13 then v0.ownBlock else none) := by
            split
            · intro e
              have := (HO.out.lt g e.symm).2
              omega
            · simp
          exact ⟨g, rfl, hg, hR.cell hc0 hne, hR.cell hc1 hne⟩
        · rintro i hi v w1 w2 _ hR hw
          rw [if_neg hi] at hR
          exact hw.kept hR (by cases v.ownBlock <;> simp)
      case step =>
        refine ⟨?_, ?_, ?_, ?_, ?_, ?_, ?_, ?_, ?_, ?_, ?_, ?_, ?_, ?_, trivial⟩
        all_goals
          intro u w1 b hb hG hD
          simp only [Sp.DepsHold, Sp.factAt, Region.binds, List.getElem?_cons_zero, List.getElem?_cons_succ, List.getElem?_nil, Option.getD_some, Option.getD_none, and_true, true_and, true_implies, implies_true] at hD; dsimp only; generalize u 0 = u0 at *; generalize u 1 = u1 at *; generalize u 2 = u2 at *; generalize u 3 = u3 at *; generalize u 4 = u4 at *; generalize u 5 = u5 at *; generalize u 6 = u6 at *; generalize u 7 = u7 at *; generalize u 8 = u8 at *; generalize u 9 = u9 at *; generalize u 10 = u10 at *; generalize u 11 = u11 at *; generalize u 12 = u12 at *; generalize u 13 = u13 at *; clear u
          obtain rfl := hb (by decide)
          have c2 : w1.cell? ⟨b_, o + k * 3 + 1, none⟩ = some (.bool en.has) := hG.cell C2.out (by simp)
          have c3 : w1.cell? ⟨b_, o + k * 3 + 2, none⟩ = some (.string en.key) := hG.cell C3.out (by simp)
          have HG := Sp.hid hG
          clear hG hb
          try obtain rfl := hD
          try obtain ⟨rfl, rfl⟩ := hD
        all_goals first | (go_wp2; exact ⟨grown_refl _ _, _, rfl, rfl⟩) | skip
        · go_wp2
          exact ⟨World.grownBy_alloc _ _ _, _, rfl, _, rfl, by have := HG.out.size; omega, by simp, by simp⟩
        · obtain ⟨rfl, g, rfl, hg, hc0, hc1⟩ := hD
          have hrow1 : w1.ownsRow w.heap.size 57 2 u0 k ((es.take k).flatMap refCells) := HO.out.kept HG.out (by cases u0.ownBlock <;> simp)
          refine wpList_append_own _ rfl _ _ 37 rfl w.heap.size 57 i0 _ 2 24 Try.underlying37 hi0 hz0 hz1 hz2 rfl (by decide) _ _ _ rfl hrow1 ⟨g, 0, none⟩ 1 1 [.bool en.has, .string en.key] rfl rfl (news2 _ _ _ _ hc0 hc1) ?_ (by unfold maxLen; omega) (by omega) (by have := HG.out.size; omega) ?_
          · intro u hu; simp at hu; rcases hu with rfl | rfl <;> rfl
          intro v' w2 hown' hgrow _
          refine wpList_nil ?_
          exact ⟨hgrow, v', rfl, by rw [HNX.out]; exact hown'⟩
      case fin =>
        intro u w1 b hG hF
        simp only [Sp.AllF, and_true] at hF; (try dsimp only); generalize u 0 = u0 at *; generalize u 1 = u1 at *; generalize u 2 = u2 at *; generalize u 3 = u3 at *; generalize u 4 = u4 at *; generalize u 5 = u5 at *; generalize u 6 = u6 at *; generalize u 7 = u7 at *; generalize u 8 = u8 at *; generalize u 9 = u9 at *; generalize u 10 = u10 at *; generalize u 11 = u11 at *; generalize u 12 = u12 at *; generalize u 13 = u13 at *; clear u
        obtain ⟨rfl, rfl, rfl, rfl, rfl, rfl, rfl, rfl, rfl, rfl, rfl, rfl, ⟨g, rfl, hg, hc0, hc1⟩, hown⟩ := hF
        have hg1 : wr.grownBy w1 u0.ownBlock := by cases b; exact grown_weak hG; exact hG
        have hb3 : Below w.heap.size w w1 := HB.out.grown hg1 hszw (fun j hj => (HO.out.lt j hj).1)
        have HO3 := Sp.hid hown
        have HB3 := Sp.hid hb3
        clear hG hg1 hown hb3 hc0 hc1
        simp only [List.getLast]
        refine wpList_plain rfl fun K hK => ?_
        simp only [Oper.wp, execOp, Sem.run_pure, Oper.upon]
        refine hK _ _ (stepEnd ?_)
        clear hK
        go_wp2
        go_roundw
        case rel => exact ⟨k + 1, by omega, by go_num, HO3.out, HB3.out⟩
        case measure => simp [intOf]; omega
    · obtain rfl : k = es.length := by omega
      have hown := HO.out
      rw [List.take_length] at hown
      obtain ⟨a', c', rfl, hq, hc, hsl⟩ := own_sl refS refCells (fun _ => rfl) (by decide) (fun x hx => ⟨rfl, HKS.out x hx⟩) hown
      have HSL := Sp.hid hsl
      clear hq hown hsl HO
      go_wp2
      go_ret
      exact ⟨a', c', rfl, hc, HSL.out, HB.out⟩

end Go.Proofs.Ytbhdkionphemdaa
