/- tree.Walk: it hands every node within a tree to a loop's body. Conditions: the tree is no deeper than 2 million. -/
import Derived.Test.YtoknglpfchjbjaaGreatDoorLeadX
import Derived.Test.YtoknglpfchjbjaaGreatDoorRows
import Derived.Shelf.Abstract
import Derived.Maps.OwnIn
import Derived.Laws.AppendOwnNone
import Derived.Great.BuildSlice
import Derived.Shelf.RegionOpen
import Derived.OwnWalkIn
import Derived.TacticsInMore
import Derived.LoopNIn
import Derived.LoopIn
namespace Go.Proofs.YtoknglpfchjbjaaGreatDoor
open Go.RowKit Go.Sp

attribute [local go_sem] Oper.semAt_some

theorem walk_any (vs : Array Value) (hv : vs.size = 4) (w : World) : Calls Tryz.prog 38 #[.agg vs] w (fun e w' => e = .returned (.func (.func 59) #[] #[.pointer (some ⟨w.heap.size, 0, none⟩)]) ∧ w' = w.alloc (.cells vs 29)) := by
  go_enter Tryz.func38, Tryz.ntmps38
  go_wp2
  go_ret
  exact ⟨rfl, rfl⟩

set_option maxRecDepth 100000 in
set_option maxHeartbeats 4000000 in
theorem walk_runs : ∀ (n : Nat), n ≤ 2000000 → ∀ (n₀ B nb pb : Nat) (T : TT) (vs : Array Value) (w : World), n₀ ≤ B → NodeAt n₀ n w vs T → RowIn nb B w → Mine nb B pb (.cells vs 29) w →
    SeqRuns Tryz.prog 59 #[.pointer (some ⟨pb, 0, none⟩)] encW (GoodW n₀ n) (WKeeps n₀ B nb) (fun xs => xs.map (·.2.2) = nodesM n T) (fun xs => xs.map (·.2.2) <+: nodesM n T) w := by
  intro n
  induction n with
  | zero => rintro _ n₀ B nb pb T vs w _ ⟨_, _, _, _, _, h⟩; exact h.elim
  | succ n ih =>
    intro hn n₀ B nb pb T vs w hnB hT hrow hmine N l J Jx W hKp hsz hJ hJx hstep hJ0
    have IH := Sp.hid (ih (by omega))
    have HJ := Sp.hid hJ
    have HJX := Sp.hid hJx
    have HST := Sp.hid hstep
    have HJ0 := Sp.hid hJ0
    have hsW := hKp.low.size
    have HT := Sp.hid (hT.below hKp.low)
    have HROW := Sp.hid (hrow.keep hKp)
    have HMINE := Sp.hid (hmine.keep hKp)
    clear ih hJ hJx hstep hJ0 hKp hT hrow hmine hsz hsW
    obtain ⟨aa, ca, ka, ck, rfl, hrep⟩ := HT.out
    obtain ⟨⟨hl1, hl2, hl3, hl4⟩, aa', ca', ka', ck', hvs, hat, hkd⟩ := tree_open hrep
    simp only [List.cons.injEq, Value.slice.injEq, true_and, and_true] at hvs
    obtain ⟨⟨rfl, rfl⟩, rfl, rfl⟩ := hvs
    have hBW := HROW.out.2.1
    have hl4' : T.kids.length ≤ 9223372036854775807 := hl4
    have HK := Sp.hid hkd
    have hpb := HMINE.out.lt
    have e0 := HMINE.out.cell 0
    have e1 := HMINE.out.cell 1
    have e2 := HMINE.out.cell 2
    have e3 := HMINE.out.cell 3
    simp at e0 e1 e2 e3
    clear hrep hat hkd
    obtain ⟨W1, hW1⟩ : ∃ W1, W1 = W.alloc (.cells #[.func (.yield l) #[] #[]] 134) := ⟨_, rfl⟩
    have hk1 : WKeeps n₀ B nb W W1 := by rw [hW1]; exact WKeeps.alloc hnB HROW.out.1 hBW _
    have hs1 : W1.heap.size = W.heap.size + 1 := by rw [hW1]; simp
    have hrow1 := HROW.out.keep hk1
    have hmy : Mine nb B W.heap.size (.cells #[.func (.yield l) #[] #[]] 134) W1 := by rw [hW1]; exact Mine.new HROW.out rfl
    have hJ1 : J [] W1 := by rw [hW1]; exact HJ.out.alloc _ HJ0.out
    have hm1 := HMINE.out.keep hk1
    obtain ⟨fn, tmps, assign, body, hy, hR⟩ := HST.out [] (.slice none 0 0, #[.string T.label, .string T.text, .slice aa T.attrs.length ca, .slice ka T.kids.length ck], T) W1 hJ1 ⟨.inl rfl, HT.out.below hk1.low⟩ (by simp [nodesM])
    dsimp only [encW] at hy
    have HR := Sp.hid hR
    have HK1 := Sp.hid hk1
    have HROW1 := Sp.hid hrow1
    have HM1 := Sp.hid hm1
    have HMY := Sp.hid hmy
    have HW1 := Sp.hid hW1
    rw [hW1] at hy
    clear hk1 hrow1 hm1 hmy hR hJ1 hW1
    refine callsIn_of_wp_marks Tryz.func59 rfl trivial ?_ rfl
    simp only [Tryz.ntmps59, List.size_toArray, List.length_cons, List.length_nil, Nat.reduceAdd, Nat.reduceSub, Array.replicate_succ, Array.replicate_zero, List.push_toArray, List.append_toArray, List.nil_append, List.cons_append]
    gi_wp2
    refine ⟨(fun h => nomatch h), ?_⟩
    rw [← HW1.out]
    refine (round_any HR.out).mono ?_
    clear hy
    rintro e W2 (⟨rfl, hJ2, hk2, hf2⟩ | ⟨rfl, hJ2, hf2⟩)
    · have HJ2 := Sp.hid hJ2
      have hs2 := hk2.low.size
      have hrel2 : WRel n₀ B nb J W [(pb, .cells #[.string T.label, .string T.text, .slice aa T.attrs.length ca, .slice ka T.kids.length ck] 29), (W.heap.size, .cells #[.func (.yield l) #[] #[]] 134)] [] (T :: (T.kids.take 0).flatMap (nodesM n)) W2 := by
        refine ⟨⟨_, ?_, hJ2⟩, HROW1.out.keep hk2, fun b hb => ?_, HK1.out.trans hk2, trivial⟩
        · simp
        · simp only [List.mem_cons, List.not_mem_nil, or_false] at hb
          rcases hb with rfl | rfl
          · exact HM1.out.keep hk2
          · exact HMY.out.keep hk2
      have hM2 := HM1.out.keep hk2
      have e0 := hM2.cell 0
      have e1 := hM2.cell 1
      have e2 := hM2.cell 2
      have e3 := hM2.cell 3
      simp at e0 e1 e2 e3
      have HREL2 := Sp.hid hrel2
      clear hJ2 hk2 hf2 hrel2 hM2
      obtain ⟨bs0, hbs0⟩ : ∃ bs0 : List (Nat × Obj), bs0 = [(pb, .cells #[.string T.label, .string T.text, .slice aa T.attrs.length ca, .slice ka T.kids.length ck] 29), (W.heap.size, .cells #[.func (.yield l) #[] #[]] 134)] := ⟨_, rfl⟩
      rw [← hbs0] at HREL2
      have HBS0 := Sp.hid hbs0
      clear hbs0
      gi_wp2
      clear e0 e1 e2 e3 hs2
      refine wpIn_loop (fun a wr => ∃ (k : Nat) (ds : List Deferred) (u3 u4 u5 u6 u15 u16 u17 u18 u19 u20 u21 u22 u23 u24 u25 u26 u27 u28 u29 u30 u31 : Value), (k ≤ T.kids.length ∧ WRel n₀ B nb J W bs0 ds (T :: (T.kids.take k).flatMap (nodesM n)) wr) ∧ a = ⟨#[Value.func (Fn.yield l) #[] #[], Value.pointer (some { block := pb, off := 0 }), Value.pointer (some { block := W.heap.size, off := 0 }), u3, u4, u5, u6, Value.func (Fn.yield l) #[] #[], Value.agg #[Value.string T.label, Value.string T.text, Value.slice aa T.attrs.length ca, Value.slice ka T.kids.length ck], Value.bool true, Value.bool false, Value.pointer (some { block := pb, off := 3 }), Value.slice ka T.kids.length ck, Value.int IntKind.i64 (T.kids.length : Nat), Value.int IntKind.i64 (k : Nat), u15, u16, u17, u18, u19, u20, u21, u22, u23, u24, u25, u26, u27, u28, u29, u30, u31], ds⟩) (fun a _ => T.kids.length - (intOf (a.tmps.getD 14 undef)).toNat) ⟨0, [], _, _, _, _, _, _, _, _, _, _, _, _, _, _, _, _, _, _, _, _, _, ⟨Nat.zero_le _, HREL2.out⟩, rfl⟩ ?_
      rintro _ wr ⟨k, ds, u3, u4, u5, u6, u15, u16, u17, u18, u19, u20, u21, u22, u23, u24, u25, u26, u27, u28, u29, u30, u31, ⟨hk, hrel⟩, rfl⟩
      dsimp only
      by_cases hlt : k < T.kids.length
      · have hkr := HK.out.frame (fun b hb => hrel.keep.low.block b hb)
        obtain ⟨b, o, aa1, ca1, ka1, ck1, rfl, fb, hkrep, e1, e2, e3, e4⟩ := tree_cells hkr k hlt
        have hbr : b < wr.heap.size := World.block_lt_of_cell? _ _ e1
        obtain ⟨kid, hkid⟩ : ∃ kid, kid = T.kids[k] := ⟨_, rfl⟩
        have htake : (T.kids.take (k + 1)).flatMap (nodesM n) = (T.kids.take k).flatMap (nodesM n) ++ nodesM n kid := by
          rw [List.take_succ_eq_append_getElem hlt, List.flatMap_append, ← hkid]; simp
        rw [← hkid] at e1 e2 e3 e4 hkrep
        have HKID := Sp.hid hkid
        have HREL := Sp.hid hrel
        have HKREP := Sp.hid hkrep
        have HTAKE := Sp.hid htake
        clear hrel hkrep hkr htake hkid
        gi_wp2
        refine ⟨trivial, (fun h => nomatch h), (callsIn_wide.2 (walk_any _ rfl _)).mono ?_⟩
        rintro e w5 ⟨rfl, rfl⟩
        gi_wp2
        have hr1 := (HREL.out.more hnB HJ.out (o := .cells #[.int .i64 (k : Nat)] 3) rfl).alloc hnB HJ.out (.cells #[.string kid.label, .string kid.text, .slice aa1 kid.attrs.length ca1, .slice ka1 kid.kids.length ck1] 29)
        have hr2 := hr1.more hnB HJ.out (o := .cells #[.string kid.label, .string kid.text, .slice aa1 kid.attrs.length ca1, .slice ka1 kid.kids.length ck1] 29) rfl
        obtain ⟨wl, hwl⟩ : ∃ wl, wl = ((wr.alloc (.cells #[.int .i64 (k : Nat)] 3)).alloc (.cells #[.string kid.label, .string kid.text, .slice aa1 kid.attrs.length ca1, .slice ka1 kid.kids.length ck1] 29)).alloc (.cells #[.string kid.label, .string kid.text, .slice aa1 kid.attrs.length ca1, .slice ka1 kid.kids.length ck1] 29) := ⟨_, rfl⟩
        have hsl : wl.heap.size = wr.heap.size + 3 := by rw [hwl]; simp
        have hbl : Below wr.heap.size wr wl := by rw [hwl]; exact (((Below.refl _ _).alloc (Nat.le_refl _) _).alloc (by simp) _).alloc (by simp; omega) _
        rw [← hwl] at hr2 ⊢
        simp only [World.size_alloc] at hr2
        have hnode : NodeAt n₀ n wl #[.string kid.label, .string kid.text, .slice aa1 kid.attrs.length ca1, .slice ka1 kid.kids.length ck1] kid := NodeAt.below ⟨_, _, _, _, rfl, HKREP.out⟩ (hbl.mono (by have := HREL.out.row.2.1; omega))
        have hwb : Mine nb B (wr.heap.size + 1 + 1) (.cells #[.string kid.label, .string kid.text, .slice aa1 kid.attrs.length ca1, .slice ka1 kid.kids.length ck1] 29) wl := hr2.box _ (List.mem_cons_self ..)
        have hrl := hr2.less
        have hib := hrl.box _ (List.mem_cons_self ..)
        have hBl := hrl.row.2.1
        have hnb := hrl.row.1
        have HIT := Sp.hid (IH.out n₀ B nb _ kid _ wl hnB hnode hrl.row hwb)
        have HRL := Sp.hid hrl
        have hsl2 : wr.heap.size + 3 ≤ wl.heap.size := by omega
        clear hr1 hr2 hwl hbl hnode hwb hrl hib hsl
        refine wpIn_rangeFunc_runs (α := WX) (encs := encW) (Good := GoodW n₀ n) (Kp := WKeeps n₀ B nb) (w0 := wl) (gf := 59) (lb := #[.pointer (some ⟨wr.heap.size + 1 + 1, 0, none⟩)]) rfl (enters_of Tryz.func59 (by kernel_rfl) rfl)
          HIT.out (fun h k => h.trans k) (fun W' l' o' o2 hl' h ho _ => WKeeps.putObj hnB hnb (Nat.le_trans hBl hl') o2 h ho) (fun W' o' hs' => WKeeps.alloc hnB hnb (Nat.le_trans hBl hs') o') (WKeeps.refl _ _ _ _) (Nat.le_refl _) (fun _ => rfl)
          (fun pre W' => WRel n₀ B nb J W ((wr.heap.size, .cells #[.int .i64 (k : Nat)] 3) :: bs0) ds (T :: (T.kids.take k).flatMap (nodesM n) ++ pre.map (·.2.2)) W')
          (fun c pre W' => c = .ret ∧ (∃ q : List WX, q.map (·.2.2) <+: nodesM (n + 1) T ∧ Jx q W') ∧ Marks W.heap.size ds W')
          ?own ?ownx ?start
          (fun pre x a' W' => WRel n₀ B nb J W ((wr.heap.size, .cells #[.int .i64 (k : Nat)] 3) :: bs0) ds (T :: (T.kids.take k).flatMap (nodesM n) ++ pre.map (·.2.2)) W' ∧ GoodW n₀ n x W' ∧ ∃ D, a' = ⟨#[Value.func (Fn.yield l) #[] #[], Value.pointer (some { block := pb, off := 0 }), Value.pointer (some { block := W.heap.size, off := 0 }), Value.pointer (some { block := wr.heap.size, off := 0 }), Value.pointer (some { block := wr.heap.size + 1, off := 0 }), x.1, Value.pointer (some { block := D, off := 0 }), Value.func (Fn.yield l) #[] #[], Value.agg #[Value.string T.label, Value.string T.text, Value.slice aa T.attrs.length ca, Value.slice (some { block := b, off := o }) T.kids.length ck], Value.bool true, Value.bool false, Value.pointer (some { block := pb, off := 3 }), Value.slice (some { block := b, off := o }) T.kids.length ck, Value.int IntKind.i64 (T.kids.length : Nat), Value.int IntKind.i64 (k : Nat), Value.bool true, Value.int IntKind.i64 (k : Nat), Value.pointer (some { block := b, off := o + k * 4 }), Value.agg #[Value.string kid.label, Value.string kid.text, Value.slice aa1 kid.attrs.length ca1, Value.slice ka1 kid.kids.length ck1], Value.agg #[Value.string kid.label, Value.string kid.text, Value.slice aa1 kid.attrs.length ca1, Value.slice ka1 kid.kids.length ck1], Value.func (Fn.func 59) #[] #[Value.pointer (some { block := wr.heap.size + 1 + 1, off := 0 })], x.1, Value.agg x.2.1, u23, u24, u25, u26, u27, u28, u29, u30, u31], []⟩ ∧ Mine nb B D (.cells x.2.1 29) W')
          ?ownax ?assign ?body ?done ?stop
        case own => exact fun pre X Y row h hg hr => WRel.own hnB hnb hBW HJ.out HRL.out (Nat.le_refl _) _ X Y row h hg hr
        case ownx => exact fun c pre X Y row h hg hr => ⟨h.1, by obtain ⟨q, hq1, hq⟩ := h.2.1; exact ⟨q, hq1, ownFrom_le HRL.out.keep.low.size HJX.out q X Y row hq hg hr⟩, marks_own (β := Unit) HRL.out.marks (Nat.le_refl _) () X Y row h.2.2 hg hr⟩
        case start => simpa using HRL.out
        case ownax =>
          intro pre x a' _ X Y row h hg hr
          obtain ⟨h1, h2, D, h3, h4⟩ := h
          refine ⟨WRel.own hnB hnb hBW HJ.out HRL.out (Nat.le_refl _) _ X Y row h1 hg hr, ⟨h2.1.grown hg (fun r e => (hr r e).2), h2.2.below ⟨hg.os, hg.tape, hg.output, hg.size, fun k hk => hg.block k (by have := h1.row.2.1; omega) (fun e => by have := (hr k e.symm).1; omega)⟩⟩, D, h3, mine_own' (β := Unit) hnb hBl () X Y row h4 hg hr⟩
        case assign =>
          intro l' pre x W3 K hI hG _ hs3 hK
          have hK' := Sp.hid (hK · (W3.alloc (.cells x.2.1 29)))
          clear hK
          have HI := Sp.hid hI
          have HG := Sp.hid hG
          obtain ⟨x1, x2, x3⟩ := x
          obtain ⟨_, xa, xc, xk, xck, hx2, hxr⟩ := hG
          dsimp only at hx2
          subst hx2
          clear hI hxr
          dsimp only [encW] at hK' ⊢
          gi_wp2
          refine hK'.out _ (KeepsFrom.of_below ((Below.refl _ _).alloc (Nat.le_refl _) _)) (WKeeps.alloc hnB hnb (Nat.le_trans hBl hs3) _) ⟨HI.out.alloc hnB HJ.out _, goodW_alloc _ (by omega) HG.out, W3.heap.size, rfl, Mine.new HI.out.row rfl⟩
        case body =>
          rintro l' pre x a' W3 ⟨hI, hG, D, rfl, hD⟩ hsp hs3
          obtain ⟨x1, x2, x3⟩ := x
          obtain ⟨hpath, hnd⟩ := hG
          have hnd' := hnd
          obtain ⟨xa, xc, xk, xck, hx2, hxr⟩ := hnd'
          dsimp only at hx2 hnd hpath hD ⊢
          subst hx2
          have HI := Sp.hid hI
          have HP := Sp.hid hpath
          have HND := Sp.hid hnd
          have HD := Sp.hid hD
          have HPRE := Sp.hid (prefix_more (n := n) hlt HKID.out hsp)
          clear hI hpath hnd hD hxr hsp
          gi_wp2
          refine wpIn_region_inv (by kernel_rfl) [some 23, some 24, some 25, some 26, some 27, some 28, some 29, some 30] rfl (by kernel_rfl) (by kernel_rfl) ?fr ?hfr
            (Inv8 (fun bb w' => KeepsFrom wl.heap.size W3 w' ∧ (if bb = true then WKeeps n₀ B nb W3 w' ∧ WRel n₀ B nb J W ((wr.heap.size, .cells #[.int .i64 (k : Nat)] 3) :: bs0) ds (T :: (T.kids.take k).flatMap (nodesM n) ++ (pre.map (·.2.2) ++ [x3])) w' else (∃ q : List WX, q.map (·.2.2) <+: nodesM (n + 1) T ∧ Jx q w') ∧ Marks W.heap.size ds w'))
              W3 n (.func (.yield l) #[] #[]) k x1 (.agg #[.string x3.label, .string x3.text, .slice xa x3.attrs.length xc, .slice xk x3.kids.length xck])) (fun u => inv8_start) ?step ?fin
          case hfr => intro u; simp only [Sp.fillFrom, Sp.idx_cons, Sp.idx_nil, Option.some.injEq, reduceCtorEq, reduceIte, Nat.reduceEqDiff, Nat.reduceAdd, Option.map_some, Option.map_none]; exact rfl
          case step =>
            have cY : W3.cell? ⟨W.heap.size, 0, none⟩ = some (.func (.yield l) #[] #[]) := by
              have h := (HI.out.less.box (W.heap.size, .cells #[.func (.yield l) #[] #[]] 134) (by rw [HBS0.out]; simp)).cell 0
              simpa using h
            have cI : W3.cell? ⟨wr.heap.size, 0, none⟩ = some (.int .i64 (k : Nat)) := by
              have h := (HI.out.box (wr.heap.size, .cells #[.int .i64 (k : Nat)] 3) (List.mem_cons_self ..)).cell 0
              simpa using h
            have d0 := HD.out.cell 0
            have d1 := HD.out.cell 1
            have d2 := HD.out.cell 2
            have d3 := HD.out.cell 3
            simp at d0 d1 d2 d3
            have bY : W.heap.size < W3.heap.size := World.block_lt_of_cell? _ _ cY
            have bI : wr.heap.size < W3.heap.size := World.block_lt_of_cell? _ _ cI
            have bD : D < W3.heap.size := World.block_lt_of_cell? _ _ d0
            have HCY := Sp.hid cY
            have HCI := Sp.hid cI
            have HD0 := Sp.hid d0
            have HD1 := Sp.hid d1
            have HD2 := Sp.hid d2
            have HD3 := Sp.hid d3
            clear cY cI d0 d1 d2 d3
            refine ⟨?_, ?_, ?_, ?_, ?_, ?_, ?_, ?_, trivial⟩
            · intro L u w1 hL hD hI
              obtain ⟨_, _, hb, _⟩ := inv8_first (by decide) hL hI
              have c := (hb.cell (p := ⟨W.heap.size, 0, none⟩) bY).trans HCY.out
              have HI8 := Sp.hid (inv8_0 hL hI)
              clear hL hD hI hb
              dsimp only
              gi_wp2
              exact ⟨_, rfl, HI8.out⟩
            · intro L u w1 hL hD hI
              obtain ⟨_, _, hb, _⟩ := inv8_first (by decide) hL hI
              have c := (hb.cell (p := ⟨wr.heap.size, 0, none⟩) bI).trans HCI.out
              have HI8 := Sp.hid (inv8_1 hL hI)
              clear hL hD hI hb
              dsimp only
              gi_wp2
              exact ⟨_, rfl, HI8.out⟩
            · intro L u w1 hL hD hI
              simp only [DepsDone, Region.binds, and_true, true_implies] at hD
              obtain ⟨_, _, hb, _, h1, _⟩ := inv8_first (by decide) hL hI
              have h1' := h1 hD
              have hs := hb.size
              have HI8 := Sp.hid (fun (v : Value) (w' : World) hb hv => inv8_2 (v := v) (w' := w') hL hI hD hb hv)
              clear hL hD hI h1 hb
              dsimp only
              rw [h1']
              gi_wp2
              exact ⟨_, rfl, HI8.out _ _ ((Below.refl _ _).alloc (Nat.le_refl _) _) ⟨rfl, .inr ⟨w1.heap.size, 1, #[.int .i64 (k : Nat)], rfl, hs, World.alloc_heap_new _ _, Nat.le_refl _, by unfold maxLen; omega, rfl, rfl⟩⟩⟩
            · intro L u w1 hL hD hI
              have HI8 := Sp.hid (inv8_3 hL hI)
              clear hL hD hI
              dsimp only
              gi_wp2
              exact ⟨_, rfl, HI8.out⟩
            · intro L u w1 hL hD hI
              simp only [DepsDone, Region.binds, and_true, true_implies] at hD
              obtain ⟨hd2, hd3⟩ := hD
              obtain ⟨_, _, hb, _, _, h2, h3, _⟩ := inv8_first (by decide) hL hI
              have hown := (h2 hd2).2 hL
              have h3' := h3 hd3
              have hs := hb.size
              have HB := Sp.hid hb
              have HI8 := Sp.hid (fun (v : Value) (w' : World) hb hv => inv8_4 (v := v) (w' := w') hL hI hd2 hd3 hb hv)
              have hpa : PathAt n w1 x1 := HP.out.below hb
              obtain ⟨uu, huu⟩ : ∃ uu, uu = u 2 := ⟨_, rfl⟩
              rw [← huu] at hown
              clear hL hI h2 h3 hb
              dsimp only
              rw [h3', ← huu]
              clear h3' huu hd2 hd3
              obtain ⟨i0, hi0, hz0, hz1, hz2⟩ := info_parts infoIntT
              obtain ⟨hl, hv⟩ := hown
              rcases hv with ⟨_, hv⟩ | ⟨g, cap, cur, hv, hbg, hg, hnc, hcm, hsz, htk⟩
              · cases hv
              subst hv
              have hown : w1.ownsRow W3.heap.size 3 1 (.slice (some ⟨g, 0, none⟩) 1 cap) 1 [.int .i64 (k : Nat)] := ⟨hl, .inr ⟨g, cap, cur, rfl, hbg, hg, hnc, hcm, hsz, htk⟩⟩
              have hgl : g < w1.heap.size := (Array.getElem?_eq_some_iff.1 hg).1
              have hpath1 : ∀ (v' : Value) (m : Nat) (xs : List Int) (w' : World), m ≤ n + 1 → w'.ownsRow W3.heap.size 3 1 v' m (xs.map (Value.int .i64)) → PathAt (n + 1) w' v' := fun v' m xs w' hm hr => pathAt_own hm hr
              rcases hpa with rfl | ⟨pbk, po, m, c, rfl, hm, hcell⟩
              · refine wpListIn_append_own_none rfl _ _ 51 rfl W3.heap.size 3 i0 1 Tryz.underlying51 hi0 _ 1 _ rfl hown rfl ?_
                exact ⟨_, rfl, HI8.out _ _ (Below.refl _ _) (hpath1 _ 1 [(k : Int)] _ (by omega) hown)⟩
              · obtain ⟨ys, hys, hyc⟩ := path_list hcell
                refine wpListIn_append_own_at _ rfl _ _ 51 rfl W3.heap.size 3 i0 _ 1 8 Tryz.underlying51 hi0 hz0 hz1 hz2 rfl (by decide) _ 1 _ rfl hown ⟨pbk, po, none⟩ m c (ys.map (Value.int .i64)) rfl (by simp [hys]) (path_news hyc) (fun u hu => by obtain ⟨y, _, rfl⟩ := List.mem_map.1 hu; rfl) (by unfold maxLen; omega) (by omega) (by omega) ?_
                intro v' w' r1 r2 _ _
                exact ⟨_, rfl, HI8.out _ _ ⟨r2.os, r2.tape, r2.output, r2.size, fun j hj => r2.block j (by omega) (fun e => by have e2 : j = g := Option.some.inj e; omega)⟩ (hpath1 v' (1 + m) ((k : Int) :: ys) w' (by omega) r1)⟩
            · intro L u w1 hL hD hI
              obtain ⟨_, _, hb, _⟩ := inv8_first (by decide) hL hI
              have c0 := (hb.cell (p := ⟨D, 0, none⟩) bD).trans HD0.out
              have c1 := (hb.cell (p := ⟨D, 1, none⟩) bD).trans HD1.out
              have c2 := (hb.cell (p := ⟨D, 2, none⟩) bD).trans HD2.out
              have c3 := (hb.cell (p := ⟨D, 3, none⟩) bD).trans HD3.out
              have HI8 := Sp.hid (inv8_5 hL hI)
              clear hL hD hI hb
              dsimp only
              gi_wp2
              exact ⟨_, rfl, HI8.out⟩
            · intro L u w1 hL hD hI
              simp only [DepsDone, Region.binds, and_true, true_implies] at hD
              obtain ⟨hd0, hd4, hd5, _⟩ := hD
              obtain ⟨hb, h0, h4, h5, hall⟩ := inv8_call hL hI hd0 hd4 hd5
              have hrel1 := HI.out.below hnB HJ.out hb
              obtain ⟨q, hq, hJq⟩ := hrel1.seq
              obtain ⟨fn2, tmps2, assign2, body2, hy2, hR2⟩ := HST.out q (u 4, #[.string x3.label, .string x3.text, .slice xa x3.attrs.length xc, .slice xk x3.kids.length xck], x3) w1 hJq ⟨h4, (HND.out.below (hb.mono (by omega))).up⟩ (by rw [List.map_append, hq]; exact HPRE.out)
              dsimp only [encW] at hy2
              have HI8 := Sp.hid (fun (bb : Bool) (w' : World) ha => inv8_6 (bb := bb) (w' := w') hL hI hall ha)
              have HR2 := Sp.hid hR2
              have HREL1 := Sp.hid hrel1
              have HQ := Sp.hid hq
              have HB := Sp.hid hb
              clear hL hI hd0 hd4 hd5 hall h4 hrel1 hR2 hJq hq hb
              dsimp only
              rw [h0, h5]
              clear h0 h5
              gi_wp2
              refine ⟨rfl, (round_in l' (round_any HR2.out)).mono ?_⟩
              clear hy2
              have hWl : W.heap.size ≤ wl.heap.size := HRL.out.keep.low.size
              rintro e w' (⟨rfl, hJ2, hk2, hf2⟩ | ⟨rfl, hJ2, hf2⟩)
              · have ha := HI8.out true w' ⟨(KeepsFrom.of_below HB.out).trans ⟨hf2.size, fun k o hk h1 h2 => hf2.same k o (by omega) h1 h2⟩, by
                  rw [if_pos rfl, ← List.append_assoc]
                  exact ⟨(WKeeps.of_below hnB hnb (Nat.le_trans hBl hs3) HB.out).trans hk2, HREL1.out.yield HQ.out hJ2 hk2 hf2⟩⟩
                have HA := Sp.hid ha
                clear ha hJ2 hk2 hf2
                gi_wp2
                exact ⟨_, rfl, HA.out⟩
              · have ha := HI8.out false w' ⟨(KeepsFrom.of_below HB.out).trans ⟨hf2.size, fun k o hk h1 h2 => hf2.same k o (by omega) h1 h2⟩, by
                  rw [if_neg (by decide)]
                  exact ⟨⟨_, by rw [List.map_append, HQ.out]; exact HPRE.out, hJ2⟩, HREL1.out.marks.keep hf2.same⟩⟩
                have HA := Sp.hid ha
                clear ha hJ2 hf2
                gi_wp2
                exact ⟨_, rfl, HA.out⟩
            · intro L u w1 hL hD hI
              simp only [DepsDone, Region.binds, and_true, true_implies] at hD
              obtain ⟨_, bb, hbb, _, _⟩ := inv8_done hD hI
              have HI8 := Sp.hid (inv8_7 hD hI hbb)
              clear hL hD hI
              dsimp only
              rw [hbb]
              gi_wp2
              exact ⟨_, rfl, HI8.out⟩
          case fin =>
            intro L u w1 hall hI
            obtain ⟨_, bb, hbb, ⟨hkf, haf⟩, h7⟩ := inv8_done (hall 6 (by decide)) hI
            have h7' := h7 (hall 7 (by decide))
            rw [hbb, h7']
            have HKF := Sp.hid hkf
            have HAF := Sp.hid haf
            clear hall hI h7 h7' hbb hkf haf
            cases bb
            · gi_wp2
              have h := HAF.out
              simp only [Bool.false_eq_true, if_false] at h
              exact ⟨HKF.out, rfl, h.1, h.2⟩
            · gi_wp2
              have h := HAF.out
              simp only [if_true] at h
              exact ⟨HKF.out, h.1, by simpa using h.2⟩
        case done =>
          intro D xs W' hD hS hI hd
          dsimp only
          rw [hS, List.cons_append, ← HTAKE.out] at hI
          have hm := Marks.cons HRL.out.marks hI.marks (by have := HRL.out.keep.low.size; omega) hD hd
          have hI' : WRel n₀ B nb J W bs0 ({ target := .collected D, args := #[] } :: ds) (T :: (T.kids.take (k + 1)).flatMap (nodesM n)) W' := ⟨hI.seq, hI.row, hI.less.box, hI.keep, hm⟩
          have HI := Sp.hid hI'
          clear hS hI hd hm hI'
          gi_wp2
          refine ⟨⟨k + 1, _, _, _, _, _, _, _, _, _, _, _, _, _, _, _, _, _, _, _, _, _, _, ⟨by omega, HI.out⟩, rfl⟩, ?_⟩
          simp [intOf]; omega
        case stop =>
          rintro D c pre W' hD _ ⟨rfl, ⟨q, hq, hJx⟩, hmk⟩ hd
          have hm := Marks.cons HRL.out.marks hmk (by have := HRL.out.keep.low.size; omega) hD hd
          dsimp only
          have HJQ := Sp.hid hJx
          have HM := Sp.hid hm
          have HQ := Sp.hid hq
          clear hJx hm hmk hd hq
          gi_wp2
          refine leaves_marks (B := W.heap.size) (K := fun _ W' => Jx q W') (fun _ X Y row h hg hr => HJX.out q X Y row h hg hr) (fun W' hJ' => ?_) HJQ.out HM.out
          exact ⟨.tuple #[], by simp [results, Tryz.f59, go_sem], ⟨_, rfl⟩, .inr ⟨q, HQ.out, hJ'⟩⟩
      · obtain rfl : k = T.kids.length := by omega
        have HREL := Sp.hid hrel
        clear hrel
        gi_wp2
        obtain ⟨⟨q, hq, hJq⟩, _, _, _, hmk⟩ := HREL.out
        refine leaves_marks (B := W.heap.size) (K := fun _ W' => J q W') (fun _ X Y row h hg hr => HJ.out q X Y row h hg hr) (fun W' hJ' => ?_) hJq hmk
        refine ⟨.tuple #[], by simp [results, Tryz.f59, go_sem], ⟨_, rfl⟩, .inl ⟨q, ?_, hJ'⟩⟩
        rw [List.take_length] at hq
        exact hq
    · gi_wp2
      refine ⟨.tuple #[], by simp [results, Tryz.f59, go_sem], ⟨_, rfl⟩, .inr ⟨_, by simp [nodesM], hJ2⟩⟩
end Go.Proofs.YtoknglpfchjbjaaGreatDoor
