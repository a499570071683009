/- path.lead at a step to children, and at any steps. Conditions: fewer than 2^12 nodes. -/
import Derived.Test.YtoknglpfchjbjaaGreatDoorLeadX
namespace Go.Proofs.YtoknglpfchjbjaaGreatDoor
open Go.RowKit Go.Sp Go.Maps

attribute [local go_sem] Oper.semAt_some

theorem callsIn_any {N N' : Nat} {f : FuncId} {args : Array Value} {w : World} {R : Ending → World → Prop} (h : CallsIn Fence.wide N Tryz.prog f args w R) : CallsIn Fence.wide N' Tryz.prog f args w R := callsIn_wide.2 (callsIn_wide.1 h)
theorem kids_le {m : Nat} {F : Nat → Prop} {w : World} {T : TT} {ka : Option Addr} (h : Sl (treeS m) F w ka T.kids) (hw : (nodesM (m + 1) T).length ≤ 4096) : T.kids.length ≤ 4096 := by
  cases m with
  | zero =>
    cases hk : T.kids with
    | nil => simp
    | cons x l =>
      rw [hk] at h
      obtain ⟨_, _, _, _, _, h, _⟩ := h 0 (by simp)
      exact h.elim
  | succ m =>
    have hall : ∀ l : List TT, l.length ≤ (l.flatMap (nodesM (m + 1))).length := by
      intro l
      induction l with
      | nil => simp
      | cons x l ih =>
        rw [List.flatMap_cons, List.length_append, List.length_cons]
        have : 1 ≤ (nodesM (m + 1) x).length := by simp [nodesM]
        omega
    have h2 : (nodesM (m + 1 + 1) T).length = (T.kids.flatMap (nodesM (m + 1))).length + 1 := rfl
    have := hall T.kids
    omega
theorem kidsM_length (s : StepM) (x : NX) : (kidsM s x).length ≤ x.2.kids.length := by
  unfold kidsM
  have main : ∀ (ps : List PredM) (l : List NX), (ps.foldl (fun l q => thoseM q l) l).length ≤ l.length := by
    intro ps
    induction ps with
    | nil => exact fun l => Nat.le_refl _
    | cons p ps ih => exact fun l => Nat.le_trans (ih _) (thoseM_length p l)
  exact Nat.le_trans (main _ _) (kids0_length _ _ _ _)
def FcK (kv sl s2 yv : Value) (i : Nat) (v : Value) (_ : World) : Prop :=
  match i with
  | 0 => v = kv | 1 => v = sl | 2 => v = s2 | 3 => v = yv | _ => False
theorem fcK_st {kv sl s2 yv : Value} (j : Nat) (v : Value) (X Y : World) (_ : Below X.heap.size X Y) (h : FcK kv sl s2 yv j v X) : FcK kv sl s2 yv j v Y := h
def AfterK (Post : Bool → World → Prop) (L : Nat → Bool) (u : Nat → Value) (w : World) : Prop := ∃ bb, u 4 = .bool bb ∧ (L 5 = true → u 5 = .bool !bb) ∧ Post bb w
theorem flat_next {α β : Type} (f : α → List β) (xs : List α) (k : Nat) (h : k < xs.length) : (xs.take (k + 1)).flatMap f = (xs.take k).flatMap f ++ f xs[k] := by
  rw [List.take_succ_eq_append_getElem h, List.flatMap_append]; simp
theorem flat_pre {α β : Type} (f : α → List β) (xs : List α) (k : Nat) : (xs.take k).flatMap f <+: xs.flatMap f := by
  conv => rhs; rw [← List.take_append_drop k xs, List.flatMap_append]
  exact List.prefix_append _ _

set_option maxRecDepth 100000 in
set_option maxHeartbeats 4000000 in
theorem lead_kids (s : StepM) (rest : List StepM) (hs : s.isAttr = false) (hIH : LeadRuns rest) : LeadRuns (s :: rest) := by
  intro m n₀ B nb C N l J Jx total pre ats T a aa ka sa c ca ck sc W hnB hCW hrow hJ hJx hst hJ0 hpre hats hrep hsl hsc hd hwide
  obtain _ | m := m
  · exact hrep.elim
  obtain ⟨⟨hl1, hl2, hl3, hl4⟩, aa', ca', ka', ck', hvs, hat, hkd⟩ := tree_open hrep
  simp only [List.cons.injEq, Value.slice.injEq, true_and, and_true] at hvs
  obtain ⟨⟨rfl, rfl⟩, rfl, rfl⟩ := hvs
  have hkl := kids_le hkd hwide
  obtain ⟨sb, so, pa, pc, rfl, fsb, hsn, hps, e0, e1, e2⟩ := pstep_cells hsl 0 (by simp)
  simp only [Nat.zero_mul, Nat.add_zero, List.getElem_cons_zero] at hsn hps e0 e1 e2
  rw [hs] at e0
  have hlead : leadM (s :: rest) (ats, T) = (kidsM s (ats, T)).flatMap (leadM rest) := by unfold leadM; rw [if_neg (by rw [hs]; decide)]
  rw [hlead] at hpre ⊢
  have hsbW := World.block_lt_of_cell? _ _ e0
  dsimp only at hsbW
  obtain ⟨w1, hw1⟩ : ∃ w1, w1 = (W.alloc (.cells #[.slice a ats.length c, .string T.label, .string T.text, .slice aa T.attrs.length ca, .slice ka T.kids.length ck] 117)).alloc (.cells #[.bool false, .string s.name, .slice pa s.preds.length pc] 68) := ⟨_, rfl⟩
  have hb1 : Below W.heap.size W w1 := by rw [hw1]; exact ((Below.refl _ _).alloc (Nat.le_refl _) _).alloc (by simp) _
  have hk1 : WKeeps n₀ B nb W w1 := WKeeps.of_below hnB hrow.1 hrow.2.1 hb1
  have hrow1 := hrow.keep hk1
  have hws1 : ∀ b, SafeB n₀ B nb w1 b → b < w1.heap.size := fun b h => h.lt hnB hrow1.2.1
  have hcall := kids_any m (SafeB n₀ B nb w1) s pa pc ats a c T aa ka ca ck w1 (sl_keep hps hk1) (sl_keep hats hk1) (sl_keep hkd hk1) hws1 hsn.2 (by omega) hkl
  rw [hs] at hcall
  have hL0 : (((s :: rest).length : Int) == 0) = false := by
    rw [List.length_cons]
    exact beq_eq_false_iff_ne.2 (by omega)
  have hL1 : (0 : Int) < ((s :: rest).length : Int) := by rw [List.length_cons]; omega
  obtain ⟨LL, hLL⟩ : ∃ LL, LL = (s :: rest).length := ⟨_, rfl⟩
  have hLL1 : LL ≤ rest.length + 1 := by rw [hLL]; simp
  have hLL2 : rest.length + 1 ≤ LL := by rw [hLL]; simp
  rw [← hLL] at hL0 hL1 hsc hd ⊢
  obtain ⟨sa2, hsa2⟩ : ∃ sa2 : Option Addr, sa2 = if sc = 1 then some ⟨sb, so, none⟩ else some ⟨sb, so + 3, none⟩ := ⟨_, rfl⟩
  have HSA2 := Sp.hid hsa2
  clear hsa2
  have HW1 := Sp.hid hw1
  have HB1 := Sp.hid hb1
  have HK1 := Sp.hid hk1
  have HROW1 := Sp.hid hrow1
  have HCALL := Sp.hid hcall
  have HJ := Sp.hid hJ
  have HJX := Sp.hid hJx
  have HJ0 := Sp.hid hJ0
  have HST := Sp.hid hst
  have HPRE := Sp.hid hpre
  have HSLW := Sp.hid hsl
  have HIH := Sp.hid hIH
  have HWIDE := Sp.hid hwide
  clear hw1 hb1 hk1 hrow1 hcall hJ hJx hJ0 hst hpre hats hrep hsl hat hkd hps hlead hLL hwide hrow fsb hIH hws1
  refine callsIn_of_wp_marks Tryz.func48 rfl trivial ?_ rfl
  simp only [Tryz.ntmps48, List.size_toArray, List.length_cons, List.length_nil, Nat.reduceAdd, Nat.reduceSub, Array.replicate_succ, Array.replicate_zero, List.push_toArray, List.append_toArray, List.nil_append, List.cons_append]
  gi_wp2
  refine ⟨trivial, (fun h => nomatch h), ?_⟩
  rw [← HW1.out]
  refine (callsIn_wide.2 HCALL.out).mono ?_
  rintro e w2 ⟨v', L, rfl, hnr, hmap, hb2⟩
  have hk2 : WKeeps n₀ B nb w1 w2 := WKeeps.of_below hnB HROW1.out.1 HROW1.out.2.1 hb2
  have hrow2 := HROW1.out.keep hk2
  obtain ⟨ra, rc, rfl, hrsl⟩ := own_sl (S := nodeS m) (F := SafeB n₀ B nb w2) hnr.row rfl (fun x hx => (nodeS m).mono (hnr.els x hx) (fun b hb => by
    rcases hb with hb | ⟨h1, h2, _⟩
    · exact (hb.keep hk2).2
    · exact safe_row n₀ HROW1.out hb2 b h1 h2)) (fun g hg => by obtain ⟨q1, q2⟩ := row_cel hnr.row g hg; exact safe_row n₀ HROW1.out hb2 g q1 q2)
  rw [hmap] at hrsl
  have hlen : L.length = (kidsM s (ats, T)).length := by rw [← hmap, List.length_map]
  have hkl2 : (kidsM s (ats, T)).length ≤ 4096 := Nat.le_trans (kidsM_length s (ats, T)) hkl
  have hmem : ∀ x ∈ kidsM s (ats, T), x.2 ∈ T.kids ∧ x.1.length = ats.length + 1 := fun x hx => ⟨(kidsM_mem hx).1, (kidsM_mem hx).2.1⟩
  rw [hlen]
  obtain ⟨kl, hkls⟩ : ∃ kl, kl = kidsM s (ats, T) := ⟨_, rfl⟩
  rw [← hkls] at hrsl hkl2 hmem ⊢
  have hprex := HPRE.out
  rw [← hkls] at hprex
  have hrel2 : LRel n₀ B nb C J w2 [] (pre.map (·.2) ++ (kl.take 0).flatMap (leadM rest)) w2 := ⟨⟨pre, by simp, own_below HJ.out (own_below HJ.out HJ0.out HB1.out) hb2⟩, hrow2, by simp, WKeeps.refl _ _ _ _, KeepsFrom.refl _ _⟩
  have hs2 : W.heap.size ≤ w2.heap.size := Nat.le_trans HB1.out.size hb2.size
  have hsl2 := sl_keep HSLW.out (HK1.out.trans hk2)
  have HPRE := Sp.hid hprex
  have HRSL := Sp.hid hrsl
  have HREL2 := Sp.hid hrel2
  have HSL := Sp.hid hsl2
  have HK2 := Sp.hid (HK1.out.trans hk2)
  have HB2 := Sp.hid (HB1.out.trans (hb2.mono HB1.out.size))
  have HMEM := Sp.hid hmem
  have HKLS := Sp.hid hkls
  clear hnr hmap hb2 hk2 hrow2 hrsl hlen hkls hrel2 hprex hsl2 hmem
  gi_wp2
  refine wpIn_loop (fun ac wr => ∃ (k : Nat) (u11 u55 u56 u57 u58 u59 u60 u61 u62 u63 u64 : Value), (k ≤ kl.length ∧ LRel n₀ B nb C J w2 [] (pre.map (·.2) ++ (kl.take k).flatMap (leadM rest)) wr) ∧ ac = ⟨#[pnodeV a c ats T aa ca ka ck, Value.slice (some { block := sb, off := so }) LL sc, Value.func (Fn.yield l) #[] #[], Value.pointer (some { block := W.heap.size, off := 0 }), undef, undef, Value.bool false, Value.pointer (some { block := W.heap.size + 1, off := 0 }), undef, undef, undef, u11, Value.slice (some { block := sb, off := so }) LL sc, Value.int IntKind.i64 LL, Value.bool false, undef, undef, undef, undef, undef, undef, Value.slice (some { block := sb, off := so }) LL sc, Value.pointer (some { block := sb, off := so }), Value.agg #[Value.bool false, Value.string s.name, Value.slice pa s.preds.length pc], Value.pointer (some { block := W.heap.size + 1, off := 0 }), Value.bool false, undef, undef, undef, undef, undef, undef, undef, undef, undef, undef, undef, undef, undef, undef, undef, undef, undef, undef, undef, undef, undef, undef, undef, undef, Value.agg #[Value.bool false, Value.string s.name, Value.slice pa s.preds.length pc], pnodeV a c ats T aa ca ka ck, Value.slice ra kl.length rc, Value.int IntKind.i64 (kl.length : Nat), Value.int IntKind.i64 (k : Nat), u55, u56, u57, u58, u59, u60, u61, u62, u63, u64], []⟩) (fun ac _ => kl.length - (intOf (ac.tmps.getD 54 undef)).toNat) ⟨0, _, _, _, _, _, _, _, _, _, _, _, ⟨Nat.zero_le _, HREL2.out⟩, rfl⟩ ?_
  rintro _ wr ⟨k, u11, u55, u56, u57, u58, u59, u60, u61, u62, u63, u64, ⟨hk, hrel⟩, rfl⟩
  dsimp only
  by_cases hlt : k < kl.length
  · have hkw := sl_keep HRSL.out hrel.keep
    obtain ⟨rb, ro, va, vc, xaa, xca, xka, xck, rfl, frb, hva, hxr, a0, a1, a2, a3, a4⟩ := nodeX_cells hkw k hlt
    have hrbr := World.block_lt_of_cell? _ _ a0
    dsimp only at hrbr
    have hnext := flat_next (leadM rest) kl k hlt
    have hnpre := flat_pre (leadM rest) kl (k + 1)
    have hmx := HMEM.out kl[k] (List.getElem_mem hlt)
    have hw4 := Nat.le_trans (nodes_kids (m := m) hmx.1).1 HWIDE.out
    obtain ⟨x, hx⟩ : ∃ x, x = kl[k] := ⟨_, rfl⟩
    rw [← hx] at hva hxr a0 a1 a2 a3 a4 hnext hmx hw4
    obtain ⟨w3, hw3⟩ : ∃ w3, w3 = wr.alloc (.cells #[.slice va x.1.length vc, .string x.2.label, .string x.2.text, .slice xaa x.2.attrs.length xca, .slice xka x.2.kids.length xck] 117) := ⟨_, rfl⟩
    have hb3 : Below wr.heap.size wr w3 := by rw [hw3]; exact (Below.refl _ _).alloc (Nat.le_refl _) _
    have hk3 : WKeeps n₀ B nb wr w3 := WKeeps.of_below hnB hrel.row.1 hrel.row.2.1 hb3
    have hrel3 : LRel n₀ B nb C J w2 [(wr.heap.size, .cells #[.slice va x.1.length vc, .string x.2.label, .string x.2.text, .slice xaa x.2.attrs.length xca, .slice xka x.2.kids.length xck] 117)] (pre.map (·.2) ++ (kl.take k).flatMap (leadM rest)) w3 := by rw [hw3]; exact hrel.more hnB HJ.out rfl
    have hA3 : w3.heap[wr.heap.size]? = some (.cells #[.slice va x.1.length vc, .string x.2.label, .string x.2.text, .slice xaa x.2.attrs.length xca, .slice xka x.2.kids.length xck] 117 (0, 0)) := (hrel3.box _ (List.mem_cons_self ..)).2.1
    have bA3 := (Array.getElem?_eq_some_iff.1 hA3).1
    have hs23 : w2.heap.size ≤ w3.heap.size := hrel3.keep.low.size
    have hmx1 : x.1.length ≤ ats.length + 1 := by rw [hmx.2]; exact Nat.le_refl _
    have HVA := Sp.hid (sl_keep hva hk3)
    have HXR := Sp.hid (rep_keep (treeS m) hxr hk3)
    have HW3 := Sp.hid hw3
    have HREL3 := Sp.hid hrel3
    have HA3 := Sp.hid hA3
    have HNX := Sp.hid hnext
    have HNP := Sp.hid hnpre
    clear hkw hrel hnext hnpre frb hva hxr hx hw3 hb3 hk3 hrel3 hA3 hmx
    gi_wp2
    rw [← HW3.out]
    refine wpIn_region_invc (by kernel_rfl) [some 58, some 59, some 60, some 61, some 62, some 63] rfl (by kernel_rfl) (by kernel_rfl) ?fr ?hfr (YInv w3 4 (FcK (pnodeV va vc x.1 x.2 xaa xca xka xck) (Value.slice (some { block := sb, off := so }) LL sc) (Value.slice sa2 rest.length (sc - 1)) (.func (.yield l) #[] #[])) (AfterK fun bb w' => if bb = true then LRel n₀ B nb C J w2 [] (pre.map (·.2) ++ (kl.take (k + 1)).flatMap (leadM rest)) w' else (∃ q : List HX, q.map (·.2) <+: total ∧ Jx q w') ∧ KeepsFrom C w2 w')) (fun u => yinv_start) ?step ?fin
    case hfr => intro u; simp only [Sp.fillFrom, Sp.idx_cons, Sp.idx_nil, Option.some.injEq, reduceCtorEq, reduceIte, Nat.reduceEqDiff, Nat.reduceAdd, Option.map_some, Option.map_none]; exact rfl
    case step =>
      refine ⟨?_, ?_, ?_, ?_, ?_, ?_, trivial⟩
      · intro L u w1 hL hcl hD hI
        have h4 : L 4 = false := clos_not hcl hL (by kernel_rfl)
        obtain ⟨hb, hv⟩ := yinv_first hI h4
        have hsb := hb.size
        have hX := (hb.block _ bA3).trans HA3.out
        have c0 : w1.cell? ⟨wr.heap.size, 0, none⟩ = some (.slice va x.1.length vc) := cell_at hX 0
        have c1 : w1.cell? ⟨wr.heap.size, 1, none⟩ = some (.string x.2.label) := cell_at hX 1
        have c2 : w1.cell? ⟨wr.heap.size, 2, none⟩ = some (.string x.2.text) := cell_at hX 2
        have c3 : w1.cell? ⟨wr.heap.size, 3, none⟩ = some (.slice xaa x.2.attrs.length xca) := cell_at hX 3
        have c4 : w1.cell? ⟨wr.heap.size, 4, none⟩ = some (.slice xka x.2.kids.length xck) := cell_at hX 4
        have HI8 := Sp.hid (yinv_step (i := 0) (v := (pnodeV va vc x.1 x.2 xaa xca xka xck)) fcK_st hI h4 (by decide) (Below.refl _ _) rfl)
        clear hL hcl hD hI hb hv h4 hX
        dsimp only
        gi_wp2
        exact ⟨_, rfl, HI8.out⟩
      · intro L u w1 hL hcl hD hI
        have h4 : L 4 = false := clos_not hcl hL (by kernel_rfl)
        obtain ⟨hb, hv⟩ := yinv_first hI h4
        have hsb := hb.size
        have HI8 := Sp.hid (yinv_step (i := 1) (v := (Value.slice (some { block := sb, off := so }) LL sc)) fcK_st hI h4 (by decide) (Below.refl _ _) rfl)
        clear hL hcl hD hI hb hv h4
        dsimp only
        gi_wp2
        exact ⟨_, rfl, HI8.out⟩
      · intro L u w1 hL hcl hD hI
        simp only [DepsDone, Region.binds, and_true, true_implies] at hD
        have h4 : L 4 = false := clos_not hcl hL (by kernel_rfl)
        obtain ⟨hb, hv⟩ := yinv_first hI h4
        have hsb := hb.size
        have r1 : u 1 = (Value.slice (some { block := sb, off := so }) LL sc) := hv 1 hD
        have HI8 := Sp.hid (fun (v : Value) (hv' : v = (Value.slice sa2 rest.length (sc - 1))) => yinv_step (i := 2) (v := v) fcK_st hI h4 (by decide) (Below.refl _ _) hv')
        clear hL hcl hD hI hb hv h4
        dsimp only
        rw [r1]
        clear r1
        by_cases hsc1 : sc = 1
        · subst hsc1
          gi_wp2
          refine ⟨_, rfl, HI8.out _ ?_⟩
          rw [HSA2.out, show rest.length = 0 by omega]
          simp
        · gi_wp2
          refine ⟨_, rfl, HI8.out _ ?_⟩
          rw [HSA2.out, if_neg hsc1, show LL - 1 = rest.length by omega]
      · intro L u w1 hL hcl hD hI
        have h4 : L 4 = false := clos_not hcl hL (by kernel_rfl)
        obtain ⟨hb, hv⟩ := yinv_first hI h4
        have hsb := hb.size
        have HI8 := Sp.hid (yinv_step (i := 3) (v := (Value.func (Fn.yield l) #[] #[])) fcK_st hI h4 (by decide) (Below.refl _ _) rfl)
        clear hL hcl hD hI hb hv h4
        dsimp only
        gi_wp2
        exact ⟨_, rfl, HI8.out⟩
      · intro L u w1 hL hcl hD hI
        simp only [DepsDone, Region.binds, and_true, true_implies] at hD
        have h4 : L 4 = false := hL
        obtain ⟨hb, hv⟩ := yinv_first hI h4
        have hsb := hb.size
        have r0 : u 0 = (pnodeV va vc x.1 x.2 xaa xca xka xck) := hv 0 hD.1
        have r2 : u 2 = (Value.slice sa2 rest.length (sc - 1)) := hv 2 hD.2.1
        have r3 : u 3 = (Value.func (Fn.yield l) #[] #[]) := hv 3 hD.2.2
        have hrel1 := (HREL3.out.below hnB HJ.out hb).less
        obtain ⟨q, hq, hJq⟩ := hrel1.seq
        have hk31 : WKeeps n₀ B nb w2 w1 := hrel1.keep
        have hCL := HIH.out m n₀ B nb C N l J Jx total q x.1 x.2 va xaa xka sa2 vc xca xck (sc - 1) w1 hnB (by omega) hrel1.row HJ.out HJX.out HST.out hJq (by rw [hq, List.append_assoc, ← HNX.out]; exact ((List.prefix_append_right_inj _).2 HNP.out).trans HPRE.out) (sl_keep HVA.out (WKeeps.of_below hnB HREL3.out.row.1 HREL3.out.row.2.1 hb)) (rep_keep (treeS m) HXR.out (WKeeps.of_below hnB HREL3.out.row.1 HREL3.out.row.2.1 hb)) (by
            rw [HSA2.out]
            by_cases h1 : sc = 1
            · have h2 : rest = [] := List.length_eq_zero_iff.1 (by omega)
              rw [h2]; exact Sl.nil
            · rw [if_neg h1]; exact (sl_keep HSL.out hk31).tail) (by omega) (by omega) hw4
        rw [hq, List.append_assoc, ← HNX.out] at hCL
        have HCL := Sp.hid hCL
        have HREL1 := Sp.hid hrel1
        have HI8 := Sp.hid (fun (bb : Bool) (w' : World) hp => yinv_one (v := .bool bb) (w' := w') hI h4 ⟨bb, rfl, (fun h => by have := hcl 5 4 h (by kernel_rfl); rw [hL] at this; cases this), hp⟩)
        clear hL hcl hD hI hb hv h4 hrel1 hq hJq hk31 hCL
        dsimp only
        rw [r0, r2, r3]
        clear r0 r2 r3
        gi_wp2
        refine ⟨trivial, (fun h => nomatch h), ?_⟩
        refine (callsIn_any HCL.out).mono ?_
        rintro e w' (⟨rfl, hJ2, hk2, hf2⟩ | ⟨rfl, hJ2, hf2⟩)
        · have H := Sp.hid (HI8.out true w' (by rw [if_pos rfl]; exact HREL1.out.yield hJ2 hk2 hf2))
          clear hJ2 hk2 hf2
          gi_wp2
          exact ⟨_, rfl, H.out⟩
        · have H := Sp.hid (HI8.out false w' (by rw [if_neg (by decide)]; exact ⟨hJ2, HREL1.out.far.trans hf2⟩))
          clear hJ2 hf2
          gi_wp2
          exact ⟨_, rfl, H.out⟩
      · intro L u w1 hL hcl hD hI
        simp only [DepsDone, Region.binds, and_true, true_implies] at hD
        obtain ⟨bb, q4, q5, hp⟩ := yinv_done hI hD
        have HI8 := Sp.hid (yinv_later (i := 5) (v := .bool !bb) hI hD (by decide) ⟨bb, q4, fun _ => rfl, hp⟩)
        clear hL hcl hD hI hp q5
        dsimp only
        rw [q4]
        clear q4
        gi_wp2
        exact ⟨_, rfl, HI8.out⟩
    case fin =>
      intro L u w1 hall hI
      obtain ⟨bb, _, h5, hp⟩ := yinv_done hI (hall 4 (by decide))
      have h5' := h5 (hall 5 (by decide))
      rw [h5']
      have HP := Sp.hid hp
      clear hall hI h5 h5' hp
      cases bb
      · have hp := HP.out
        simp only [Bool.false_eq_true, if_false] at hp
        have HP2 := Sp.hid hp
        clear hp
        gi_wp2
        exact ⟨.bool false, by simp [results, Tryz.f48, go_sem], .inr ⟨rfl, HP2.out.1, (KeepsFrom.of_below HB2.out).trans HP2.out.2⟩⟩
      · have hp := HP.out
        simp only [if_true] at hp
        have HP2 := Sp.hid hp
        clear hp
        gi_wp2
        refine ⟨⟨k + 1, ⟨by omega, HP2.out⟩, rfl⟩, ?_⟩
        simp [intOf]; omega
  · obtain rfl : k = kl.length := by omega
    have HREL := Sp.hid hrel
    clear hrel
    gi_wp2
    refine ⟨.bool true, by simp [results, Tryz.f48, go_sem], .inl ⟨rfl, ?_, HK2.out.trans HREL.out.keep, (KeepsFrom.of_below HB2.out).trans HREL.out.far⟩⟩
    have := HREL.out.seq
    rw [← HKLS.out]
    rwa [List.take_length] at this

theorem lead_runs : ∀ steps : List StepM, LeadRuns steps
  | [] => lead_nil
  | s :: rest => by
    cases hs : s.isAttr
    · exact lead_kids s rest hs (lead_runs rest)
    · exact lead_attr s rest hs

end Go.Proofs.YtoknglpfchjbjaaGreatDoor
