/- path.kids: the children of a node to which a step leads. Conditions: fewer than 2^12 children. -/
import Derived.Test.YtoknglpfchjbjaaGreatDoorKidsInv
namespace Go.Proofs.YtoknglpfchjbjaaGreatDoor
open Go.RowKit Go.Sp Go.Maps

def fitsB (s : StepM) (name : ByteArray) : Bool := s.name.toList == [42] || s.name.toList == name.toList
def goodKid (s : StepM) (t : TT) : Bool := !t.label.toList.isEmpty && fitsB s t.label
def kids0 (s : StepM) (ats : List Int) (kids : List TT) (k : Nat) : List NX := (List.range k).filterMap fun i : Nat => (kids[i]?).bind fun t => if goodKid s t then some (ats ++ [(i : Int)], t) else none
theorem kids0_succ (s : StepM) (ats : List Int) (kids : List TT) (k : Nat) (h : k < kids.length) : kids0 s ats kids (k + 1) = kids0 s ats kids k ++ (if goodKid s kids[k] then [(ats ++ [(k : Int)], kids[k])] else []) := by
  unfold kids0
  rw [List.range_succ, List.filterMap_append]
  congr 1
  simp only [List.filterMap_cons, List.filterMap_nil, List.getElem?_eq_getElem h, Option.bind_some]
  cases goodKid s kids[k] <;> rfl
theorem kids0_length (s : StepM) (ats : List Int) (kids : List TT) (k : Nat) : (kids0 s ats kids k).length ≤ k := by
  have := List.length_filterMap_le (fun i : Nat => (kids[i]?).bind fun t => if goodKid s t then some (ats ++ [(i : Int)], t) else none) (List.range k)
  simpa [kids0] using this
/-- The children of a node to which a step leads. -/
def kidsM (s : StepM) (x : NX) : List NX := s.preds.foldl (fun l q => thoseM q l) (kids0 s x.1 x.2.kids x.2.kids.length)
theorem thoseM_length (q : PredM) (l : List NX) : (thoseM q l).length ≤ l.length := thoseL_length _ _ _ _

/-- What one more node leaves. -/
def KFin (m : Nat) (F : Nat → Prop) (w0 : World) (Ls : List (List Value × NX)) (x : NX) (v' : Value) (w' : World) : Prop :=
  (∃ cells, NodesRow m F w0.heap.size w' v' (Ls ++ [(cells, x)])) ∧ Below w0.heap.size w0 w'

theorem kids_more {m : Nat} {F : Nat → Prop} {w0 W0 w w' : World} {v0 v' v6 : Value} {Ls : List (List Value × NX)} {ats : List Int} {k : Nat} {kid : TT} {tv : List Value} (hb0 : Below w0.heap.size w0 W0) (hn : NodesRow m F w0.heap.size W0 v0 Ls) (hF : ∀ b, F b → b < w0.heap.size) (hb : Below W0.heap.size W0 w)
    (hk : (treeS m).rep F W0 tv kid) (h6 : w.ownsRow W0.heap.size 3 1 v6 (ats.length + 1) (ats.map (Value.int .i64) ++ [.int .i64 (k : Nat)]))
    (hr : w'.ownsRow w0.heap.size 117 5 v' (Ls.length + 1) (Ls.flatMap (·.1) ++ (v6 :: tv))) (hg : w.grownBy w' v0.ownBlock) (ho : v'.ownBlock = v0.ownBlock ∨ v'.ownBlock = some w.heap.size) : KFin m F w0 Ls (ats ++ [(k : Int)], kid) v' w' := by
  have hs0 := hb0.size
  have hs := hb.size
  have hkeep := hn.keep (fun b hb' => by have := hF b hb'; omega) hb
  have hFF : ∀ b, F b → b < w.heap.size ∧ ∀ g, v0.ownBlock = some g → b ≠ g := fun b hb' => ⟨by have := hF b hb'; omega, fun g hg' => by have := (hn.row.lt g hg').1; have := hF b hb'; omega⟩
  refine ⟨⟨_, hkeep.more hFF hr hg (by rcases ho with h | h; exact .inl h; exact .inr ⟨_, h, Nat.le_refl _⟩) ?_⟩, ?_⟩
  · have h6' : w.ownsRow W0.heap.size 3 (Shape.int .i64).sz v6 (ats.length + 1) (((ats ++ [(k : Int)]).map fun x => ([Value.int .i64 x], x)).flatMap (·.1)) := by
      rw [List.flatMap_map]
      have e0 : ∀ l : List Int, l.flatMap (fun x => [Value.int .i64 x]) = l.map (Value.int .i64) := fun l => by
        induction l with
        | nil => rfl
        | cons x l ih => rw [List.flatMap_cons, ih]; rfl
      have e : (ats ++ [(k : Int)]).flatMap (fun x => [Value.int .i64 x]) = ats.map (Value.int .i64) ++ [.int .i64 (k : Nat)] := by
        rw [List.flatMap_append, e0]; rfl
      rw [show (fun a : Int => (([Value.int .i64 a], a) : List Value × Int).1) = fun x => [Value.int .i64 x] from rfl, e]
      exact h6
    obtain ⟨a, cap, hv, hsl⟩ := own_sl (S := Shape.int .i64) (F := fun b => F b ∨ Rest w0.heap.size w v0 b) h6' (by simp) (fun x hx => by
      obtain ⟨y, _, rfl⟩ := List.mem_map.1 hx; rfl) (fun g hg' => .inr ⟨by have := (h6.lt g hg').1; omega, by
        rcases h6.2 with ⟨rfl, _⟩ | ⟨g', _, cur, rfl, _, hh, _⟩
        · cases hg'
        · cases hg'; exact ⟨_, hh, rfl⟩, fun e => by have := (h6.lt g hg').1; have := (hn.row.lt g e.symm).2; omega⟩)
    refine ⟨a, cap, tv, ?_, ?_, ?_⟩
    · rw [hv]; simp
    · simpa [Function.comp_def] using hsl
    · exact (treeS m).mono ((treeS m).frame hk (fun b hb' => hb.block b (by have := hF b hb'; omega))) (fun b hb' => .inl hb')
  · exact (hb0.trans (hb.mono hs0)).grown hg (by omega) (fun j hj => (hn.row.lt j hj).1)

set_option maxRecDepth 100000 in
set_option maxHeartbeats 16000000 in
theorem kids_any (m : Nat) (F : Nat → Prop) (s : StepM) (pa : Option Addr) (pc : Nat) (ats : List Int) (a : Option Addr) (c : Nat) (T : TT) (aa ka : Option Addr) (ca ck : Nat) (w : World) (hps : Sl predS F w pa s.preds) (hats : Sl (Shape.int .i64) F w a ats) (hkd : Sl (treeS m) F w ka T.kids)
    (hF : ∀ b, F b → b < w.heap.size) (hpl : s.preds.length ≤ 9223372036854775807) (hal : ats.length ≤ 10000) (hkl : T.kids.length ≤ 4096) :
    Calls Tryz.prog 76 #[.agg #[.bool s.isAttr, .string s.name, .slice pa s.preds.length pc], .agg #[.slice a ats.length c, .string T.label, .string T.text, .slice aa T.attrs.length ca, .slice ka T.kids.length ck]] w fun e w' =>
      ∃ v' L, e = .returned v' ∧ NodesRow m F w.heap.size w' v' L ∧ L.map (·.2) = kidsM s (ats, T) ∧ Below w.heap.size w w' := by
  obtain ⟨i0, hi0, hz0, hz1, hz2⟩ := info_parts infoNode
  obtain ⟨j0, hj0, hy0, hy1, hy2⟩ := info_parts infoIntC
  have HP := Sp.hid hps
  have HA := Sp.hid hats
  have HK := Sp.hid hkd
  have HF := Sp.hid hF
  have HFIT := Sp.hid (fun name W => fits_any s pa pc name W)
  obtain ⟨w0, hw0⟩ : ∃ w0, w0 = (w.alloc (.cells #[.bool s.isAttr, .string s.name, .slice pa s.preds.length pc] 68)).alloc (.cells #[.slice a ats.length c, .string T.label, .string T.text, .slice aa T.attrs.length ca, .slice ka T.kids.length ck] 117) := ⟨_, rfl⟩
  have hb0 : Below w.heap.size w w0 := by rw [hw0]; exact ((Below.refl _ _).alloc (Nat.le_refl _) _).alloc (by simp) _
  have hs0 : w.heap.size + 2 ≤ w0.heap.size := by rw [hw0]; simp
  have hS0 : w0.heap[w.heap.size]? = some (.cells #[.bool s.isAttr, .string s.name, .slice pa s.preds.length pc] 68 (0, 0)) := by rw [hw0]; exact (Below.heap_alloc _ _ _ (by simp)).trans (heap_alloc_new _ _)
  have hN0 : w0.heap[w.heap.size + 1]? = some (.cells #[.slice a ats.length c, .string T.label, .string T.text, .slice aa T.attrs.length ca, .slice ka T.kids.length ck] 117 (0, 0)) := by
    rw [hw0]; have := heap_alloc_new (w.alloc (.cells #[.bool s.isAttr, .string s.name, .slice pa s.preds.length pc] 68)) (.cells #[.slice a ats.length c, .string T.label, .string T.text, .slice aa T.attrs.length ca, .slice ka T.kids.length ck] 117); simpa using this
  have HB0 := Sp.hid hb0
  have HS0 := Sp.hid hS0
  have HN0 := Sp.hid hN0
  have HW0 := Sp.hid hw0
  clear hps hats hkd hF hb0 hS0 hN0 hw0
  go_enter Tryz.func76, Tryz.ntmps76
  go_wp2
  rw [← HW0.out]
  go_loopw [5, 14] (fun v i wr => ∃ (k : Nat) (L : List (List Value × NX)), k ≤ T.kids.length ∧ i = .int .i64 k ∧ NodesRow m F w0.heap.size wr v L ∧ L.map (·.2) = kids0 s ats T.kids k ∧ Below w0.heap.size w0 wr) (fun _ i _ => T.kids.length - (intOf i).toNat)
  case atStart => exact ⟨0, [], Nat.zero_le _, rfl, NodesRow.nil _ _ _ _, rfl, Below.refl _ _⟩
  case round =>
    obtain ⟨k, L, hk, rfl, hnr, hL, hb⟩ := hrel
    have hsw := hb.size
    have HNR := Sp.hid hnr
    have HL := Sp.hid hL
    have HB := Sp.hid hb
    have hbw : Below w.heap.size w wr := HB0.out.trans (hb.mono (by omega))
    have HBW := Sp.hid hbw
    have hll : L.length ≤ k := by have := congrArg List.length hL; rw [List.length_map] at this; rw [this]; exact kids0_length _ _ _ _
    by_cases hlt : k < T.kids.length
    · obtain ⟨b, o, aa1, ca1, ka1, ck1, rfl, fb, hkrep, e1, e2, e3, e4⟩ := tree_cells (HK.out.below HF.out hbw) k hlt
      have hbr : b < wr.heap.size := World.block_lt_of_cell? _ _ e1
      have hnext := kids0_succ s ats T.kids k hlt
      obtain ⟨kid, hkid⟩ : ∃ kid, kid = T.kids[k] := ⟨_, rfl⟩
      rw [← hkid] at hkrep e1 e2 e3 e4 hnext
      have HNX := Sp.hid hnext
      obtain ⟨w2, hw2⟩ : ∃ w2, w2 = wr.alloc (.cells #[.string kid.label, .string kid.text, .slice aa1 kid.attrs.length ca1, .slice ka1 kid.kids.length ck1] 29) := ⟨_, rfl⟩
      have hb2 : Below wr.heap.size wr w2 := by rw [hw2]; exact (Below.refl _ _).alloc (Nat.le_refl _) _
      have hs2 : wr.heap.size + 1 ≤ w2.heap.size := by rw [hw2]; simp
      have hK2 : w2.heap[wr.heap.size]? = some (.cells #[.string kid.label, .string kid.text, .slice aa1 kid.attrs.length ca1, .slice ka1 kid.kids.length ck1] 29 (0, 0)) := by rw [hw2]; exact heap_alloc_new _ _
      have HB2 := Sp.hid hb2
      have HK2 := Sp.hid hK2
      have HW2 := Sp.hid hw2
      have HKREP := Sp.hid hkrep
      have hSr : wr.heap[w.heap.size]? = some (.cells #[.bool s.isAttr, .string s.name, .slice pa s.preds.length pc] 68 (0, 0)) := (hb.block _ (by omega)).trans HS0.out
      have s0 : wr.cell? ⟨w.heap.size, 0, none⟩ = some (.bool s.isAttr) := by simp [World.cell?, hSr]
      have s1 : wr.cell? ⟨w.heap.size, 1, none⟩ = some (.string s.name) := by simp [World.cell?, hSr]
      have s2 : wr.cell? ⟨w.heap.size, 2, none⟩ = some (.slice pa s.preds.length pc) := by simp [World.cell?, hSr]
      have hSw : w.heap.size < wr.heap.size := by omega
      clear hb2 hK2 hw2 hnext hkrep hkid hnr hL hb hbw hSr
      cases hl : kid.label.toList.isEmpty
      · go_wp2_with fail
        rw [← HW2.out]
        refine (HFIT.out _ _).mono ?_
        rintro e w3 ⟨rfl, hb3⟩
        have HB3 := Sp.hid (HB2.out.trans (hb3.mono (by omega)) : Below wr.heap.size wr w3)
        have hs3 := hb3.size
        obtain ⟨fq, hfq⟩ : ∃ fq, fq = (s.name.toList == [42] || s.name.toList == kid.label.toList) := ⟨_, rfl⟩
        rw [← hfq]
        have hgk : goodKid s kid = fq := by unfold goodKid fitsB; rw [hl, ← hfq]; rfl
        have HGK := Sp.hid hgk
        have HK3 := Sp.hid ((hb3.block _ (by omega)).trans HK2.out)
        clear hfq hgk hb3 e1 e2 e3 e4 s0 s1 s2
        cases fq
        · have hnx := HNX.out
          rw [HGK.out] at hnx
          simp only [Bool.false_eq_true, if_false, List.append_nil] at hnx
          have HNX2 := Sp.hid hnx
          clear hnx
          go_wp2
          go_roundw
          case rel => first | exact ⟨k + 1, L, by omega, by go_num, HNR.out.keep (fun b hb => by have := HF.out b hb; omega) HB3.out, by rw [HNX2.out]; exact HL.out, HB.out.trans (HB3.out.mono hsw)⟩ | ((repeat apply Exists.intro); refine ⟨⟨k + 1, L, by omega, by go_num, HNR.out.keep (fun b hb => by have := HF.out b hb; omega) HB3.out, by rw [HNX2.out]; exact HL.out, HB.out.trans (HB3.out.mono hsw)⟩, ?_⟩; rw [show ((k + 1 : Nat) : Int) = (k : Int) + 1 from rfl])
          case measure => simp [intOf]; omega
        · have hnr3 := HNR.out.keep (fun b hb => by have := HF.out b hb; omega) HB3.out
          have hN3 : w3.heap[w.heap.size + 1]? = some (.cells #[.slice a ats.length c, .string T.label, .string T.text, .slice aa T.attrs.length ca, .slice (some ⟨b, o, none⟩) T.kids.length ck] 117 (0, 0)) := (HB3.out.block _ (by omega)).trans ((HB.out.block _ (by omega)).trans HN0.out)
          have n0 : w3.cell? ⟨w.heap.size + 1, 0, none⟩ = some (.slice a ats.length c) := by simp [World.cell?, hN3]
          have k0 : w3.cell? ⟨wr.heap.size, 0, none⟩ = some (.string kid.label) := by simp [World.cell?, HK3.out]
          have k1 : w3.cell? ⟨wr.heap.size, 1, none⟩ = some (.string kid.text) := by simp [World.cell?, HK3.out]
          have k2 : w3.cell? ⟨wr.heap.size, 2, none⟩ = some (.slice aa1 kid.attrs.length ca1) := by simp [World.cell?, HK3.out]
          have k3 : w3.cell? ⟨wr.heap.size, 3, none⟩ = some (.slice ka1 kid.kids.length ck1) := by simp [World.cell?, HK3.out]
          have hN3l : w.heap.size + 1 < w3.heap.size := by omega
          have hK3l : wr.heap.size < w3.heap.size := by omega
          have hbw3 : Below w.heap.size w w3 := HBW.out.trans (HB3.out.mono (by omega))
          have HBW3 := Sp.hid hbw3
          have HAT3 := Sp.hid (HA.out.below HF.out hbw3)
          have HKR3 := Sp.hid ((treeS m).frame HKREP.out (fun j hj => HB3.out.block j (by have := HF.out j hj; omega)))
          have HNR3 := Sp.hid hnr3
          have HN0C := Sp.hid n0
          have HK0 := Sp.hid k0
          have HK1 := Sp.hid k1
          have HK2' := Sp.hid k2
          have HK3' := Sp.hid k3
          obtain ⟨v0, hv0⟩ : ∃ v0 : Value, v0 = u5 := ⟨_, rfl⟩
          rw [← hv0] at HNR3 HNR
          subst hv0
          clear hnr3 hN3 n0 k0 k1 k2 k3 hbw3
          go_wp2
          refine wp_region_inv_own (by kernel_rfl) [some 28, some 29, some 30, some 31, some 32, some 33, some 34, some 35, some 36, some 37, some 38, none] rfl (by kernel_rfl) (by kernel_rfl) (by kernel_rfl) ?fr ?hfr
            (KInv w3 v0 (.pointer (some ⟨w.heap.size + 1, 0, none⟩)) (.slice a ats.length c) ats k [.string kid.label, .string kid.text, .slice aa1 kid.attrs.length ca1, .slice ka1 kid.kids.length ck1] (KFin m F w0 L (ats ++ [(k : Int)], kid))) (fun u => kinv_start) ?step _ rfl ?fin
          case hfr => intro u; simp only [Sp.fillFrom, Sp.idx_cons, Sp.idx_nil, Option.some.injEq, reduceCtorEq, reduceIte, Nat.reduceEqDiff, Nat.reduceAdd, Option.map_some, Option.map_none]; exact rfl
          case step =>
            refine ⟨?_, ?_, ?_, ?_, ?_, ?_, ?_, ?_, ?_, ?_, ?_, trivial⟩
            · intro L' u w1 hL hcl hD hI
              have h10 : L' 10 = false := by
                cases h : L' 10 with
                | false => rfl
                | true => have h' := hcl 10 0 h (by kernel_rfl); rw [hL] at h'; cases h'
              obtain ⟨hbK, p0, p1, p2, p4, p7⟩ := kinv_first hI h10
              have hI' := kinv_side 0 (by simp) hI h10
              rw [if_pos rfl] at hI'
              have HI' := Sp.hid hI'
              clear hL hcl hD hI hI' h10 hbK p0 p1 p2 p4 p7
              dsimp only
              go_wp2
              exact ⟨_, rfl, HI'.out⟩
            · intro L' u w1 hL hcl hD hI
              have h10 : L' 10 = false := by
                cases h : L' 10 with
                | false => rfl
                | true => have h' := hcl 10 1 h (by kernel_rfl); rw [hL] at h'; cases h'
              obtain ⟨hbK, p0, p1, p2, p4, p7⟩ := kinv_first hI h10
              have hI' := kinv_side 1 (by simp) hI h10
              rw [if_neg (by decide), if_pos rfl] at hI'
              have HI' := Sp.hid hI'
              clear hL hcl hD hI hI' h10 hbK p0 p1 p2 p4 p7
              dsimp only
              go_wp2
              exact ⟨_, rfl, HI'.out⟩
            · intro L' u w1 hL hcl hD hI
              have h10 : L' 10 = false := by
                cases h : L' 10 with
                | false => rfl
                | true => have h' := hcl 10 2 h (by kernel_rfl); rw [hL] at h'; cases h'
              simp only [DepsDone, Region.binds, and_true, true_implies] at hD
              obtain ⟨hbK, p0, p1, p2, p4, p7⟩ := kinv_first hI h10
              have hI' := kinv_side 2 (by simp) hI h10
              rw [if_neg (by decide), if_neg (by decide), if_pos rfl] at hI'
              have hu := p1 hD
              have c := (hbK.cell (p := ⟨w.heap.size + 1, 0, none⟩) hN3l).trans HN0C.out
              have HI' := Sp.hid hI'
              clear hL hcl hD hI hI' h10 hbK p0 p1 p2 p4 p7
              dsimp only
              rw [hu]
              clear hu
              go_wp2
              exact ⟨_, rfl, HI'.out⟩
            · intro L' u w1 hL hcl hD hI
              have h10 : L' 10 = false := by
                cases h : L' 10 with
                | false => rfl
                | true => have h' := hcl 10 3 h (by kernel_rfl); rw [hL] at h'; cases h'
              have h6 : L' 6 = false := by
                cases h : L' 6 with
                | false => rfl
                | true => have h' := hcl 6 3 h (by kernel_rfl); rw [hL] at h'; cases h'
              simp only [DepsDone, Region.binds, and_true, true_implies] at hD
              obtain ⟨hbK, p0, p1, p2, p4, p7⟩ := kinv_first hI h10
              have hu := p2 hD
              have hats1 := HAT3.out.below (fun j hj => (by have := HF.out j hj; have := HBW3.out.size; omega : j < w3.heap.size)) hbK
              have HC := Sp.hid (clone_any F a c ats w1 hats1 (fun j hj => by have := HF.out j hj; have := HBW3.out.size; have := hbK.size; omega) (by omega))
              have HI' := Sp.hid (fun v w' (hb : Below w1.heap.size w1 w') (hv : w'.ownsRow w3.heap.size 3 1 v ats.length (ats.map (Value.int .i64))) => kinv_3 (kinv_world hI h10 hb) h10 h6 hv)
              have hsz := hbK.size
              clear hL hcl hD hI h10 h6 hbK p0 p1 p2 p4 p7 hats1
              dsimp only
              rw [hu]
              clear hu
              go_wp2_with fail
              refine HC.out.mono ?_
              rintro e w' ⟨v, rfl, hv, hb⟩
              have HX' := Sp.hid (HI'.out v w' hb (Joins.ownsRow_le hv hsz))
              clear hv hb
              go_wp2
              exact ⟨_, rfl, HX'.out⟩
            · intro L' u w1 hL hcl hD hI
              have h10 : L' 10 = false := by
                cases h : L' 10 with
                | false => rfl
                | true => have h' := hcl 10 4 h (by kernel_rfl); rw [hL] at h'; cases h'
              obtain ⟨hbK, p0, p1, p2, p4, p7⟩ := kinv_first hI h10
              have hI' := kinv_side 4 (by simp) hI h10
              rw [if_neg (by decide), if_neg (by decide), if_neg (by decide), if_pos rfl] at hI'
              have HI' := Sp.hid hI'
              clear hL hcl hD hI hI' h10 hbK p0 p1 p2 p4 p7
              dsimp only
              go_wp2
              exact ⟨_, rfl, HI'.out⟩
            · intro L' u w1 hL hcl hD hI
              have h10 : L' 10 = false := by
                cases h : L' 10 with
                | false => rfl
                | true => have h' := hcl 10 5 h (by kernel_rfl); rw [hL] at h'; cases h'
              have h6 : L' 6 = false := by
                cases h : L' 6 with
                | false => rfl
                | true => have h' := hcl 6 5 h (by kernel_rfl); rw [hL] at h'; cases h'
              simp only [DepsDone, Region.binds, and_true, true_implies] at hD
              obtain ⟨hbK, p0, p1, p2, p4, p7⟩ := kinv_first hI h10
              have hu := p4 hD
              have HI' := Sp.hid (fun w' z (hb : Below w1.heap.size w1 w') (hz : w'.cell? ⟨z, 0, none⟩ = some (.int .i64 (k : Nat))) => kinv_5 (kinv_world hI h10 hb) h10 h6 hz)
              clear hL hcl hD hI h10 h6 hbK p0 p1 p2 p4 p7
              dsimp only
              rw [hu]
              clear hu
              go_wp2
              exact ⟨_, rfl, HI'.out _ _ ((Below.refl _ _).alloc (Nat.le_refl _) _) (by simp)⟩
            · intro L' u w1 hL hcl hD hI
              have h10 : L' 10 = false := by
                cases h : L' 10 with
                | false => rfl
                | true => have h' := hcl 10 6 h (by kernel_rfl); rw [hL] at h'; cases h'
              have h8 : L' 8 = false := by
                cases h : L' 8 with
                | false => rfl
                | true => have h' := hcl 8 6 h (by kernel_rfl); rw [hL] at h'; cases h'
              have h9 : L' 9 = false := by
                cases h : L' 9 with
                | false => rfl
                | true => have h' := hcl 9 6 h (by kernel_rfl); rw [hL] at h'; cases h'
              simp only [DepsDone, Region.binds, and_true, true_implies] at hD
              obtain ⟨hrow3, ⟨z, h5, hz⟩, hI'⟩ := kinv_6 hI h10 hL h8 h9 hD.1 hD.2.1
              obtain ⟨hbK, _⟩ := kinv_first hI h10
              have hsz := hbK.size
              have HI' := Sp.hid hI'
              clear hL hcl hD hI h10 h8 h9 hbK hI'
              dsimp only
              rw [h5]
              refine wpList_append_own_at _ rfl _ _ 51 rfl w3.heap.size 3 j0 (.int .i64 0) 1 8 Tryz.underlying51 hj0 hy0 hy1 hy2 rfl (by decide) _ _ _ rfl hrow3 ⟨z, 0, none⟩ 1 1 [.int .i64 (k : Nat)] rfl rfl ?_ ?_ (by unfold maxLen; omega) (by omega) hsz ?_
              · intro j x hj
                have hj0 : j = 0 := by
                  have := (List.getElem?_eq_some_iff.1 hj).1
                  simpa using this
                subst hj0
                simp at hj
                subst hj
                exact hz
              · intro x hx; simp at hx; subst hx; rfl
              intro v' w' r1 r2 _ _
              exact ⟨_, rfl, HI'.out v' w' r1 r2⟩
            · intro L' u w1 hL hcl hD hI
              have h10 : L' 10 = false := by
                cases h : L' 10 with
                | false => rfl
                | true => have h' := hcl 10 7 h (by kernel_rfl); rw [hL] at h'; cases h'
              obtain ⟨hbK, p0, p1, p2, p4, p7⟩ := kinv_first hI h10
              have hI' := kinv_side 7 (by simp) hI h10
              rw [if_neg (by decide), if_neg (by decide), if_neg (by decide), if_neg (by decide)] at hI'
              have c0 := (hbK.cell (p := ⟨wr.heap.size, 0, none⟩) hK3l).trans HK0.out
              have c1 := (hbK.cell (p := ⟨wr.heap.size, 1, none⟩) hK3l).trans HK1.out
              have c2 := (hbK.cell (p := ⟨wr.heap.size, 2, none⟩) hK3l).trans HK2'.out
              have c3 := (hbK.cell (p := ⟨wr.heap.size, 3, none⟩) hK3l).trans HK3'.out
              have HI' := Sp.hid hI'
              clear hL hcl hD hI hI' h10 hbK p0 p1 p2 p4 p7
              dsimp only
              go_wp2
              exact ⟨_, rfl, HI'.out⟩
            · intro L' u w1 hL hcl hD hI
              have h10 : L' 10 = false := by
                cases h : L' 10 with
                | false => rfl
                | true => have h' := hcl 10 8 h (by kernel_rfl); rw [hL] at h'; cases h'
              simp only [DepsDone, Region.binds, and_true, true_implies] at hD
              obtain ⟨hbK, p0, p1, p2, p4, p7⟩ := kinv_first hI h10
              have h7 := p7 hD.2
              obtain ⟨hr6, _⟩ := kinv_row6 hI h10 hD.1
              obtain ⟨g6, c6, h6⟩ := Joins.ownsRow_form hr6 (Nat.succ_pos _)
              have hI' := kinv_8 hI h10
              have HI' := Sp.hid hI'
              clear hL hcl hD hI hI' h10 hbK p0 p1 p2 p4 p7 hr6
              dsimp only
              rw [h7]
              rw [h6] at HI' ⊢
              clear h7
              go_wp2
              exact ⟨_, rfl, HI'.out⟩
            · intro L' u w1 hL hcl hD hI
              have h10 : L' 10 = false := by
                cases h : L' 10 with
                | false => rfl
                | true => have h' := hcl 10 9 h (by kernel_rfl); rw [hL] at h'; cases h'
              simp only [DepsDone, Region.binds, and_true, true_implies] at hD
              have l6 : L' 6 = true := hcl 8 6 hD (by kernel_rfl)
              obtain ⟨hr6, h8⟩ := kinv_row6 hI h10 l6
              obtain ⟨g6, c6, h6⟩ := Joins.ownsRow_form hr6 (Nat.succ_pos _)
              have h8' := h8 hD
              have HI' := Sp.hid (fun w' z (hb : Below w1.heap.size w1 w') (hz : ∀ j x, (u 6 :: [.string kid.label, .string kid.text, .slice aa1 kid.attrs.length ca1, .slice ka1 kid.kids.length ck1])[j]? = some x → w'.cell? ((⟨z, 0, none⟩ : Addr).add j) = some x) => kinv_9 (kinv_world hI h10 hb) h10 hz)
              clear hL hcl hD hI h10 hr6 h8 l6
              dsimp only
              rw [h8']
              rw [h6] at HI' ⊢
              clear h8'
              go_wp2
              exact ⟨_, rfl, HI'.out _ _ ((Below.refl _ _).alloc (Nat.le_refl _) _) (news5 _ _ _ _ _ _ _)⟩
            · intro L' u w1 hL hcl hD hI
              simp only [DepsDone, Region.binds, and_true, true_implies] at hD
              obtain ⟨hbK, h0, hr6, ⟨z, h9, hz⟩, hfin⟩ := kinv_10 hI hL hD.1 hD.2.2 hD.2.1
              have hsz := hbK.size
              have hb03 : Below w0.heap.size w0 w3 := HB.out.trans (HB3.out.mono hsw)
              have hrow1 := own_same HNR3.out.row (fun j hj => hbK.block j (HNR3.out.row.lt j hj).2)
              have HI' := Sp.hid (fun v' w' r1 r2 r4 => hfin v' w' (kids_more hb03 HNR3.out (fun b hb => by have := HF.out b hb; omega) hbK HKR3.out hr6 r1 r2 r4))
              have hs03 := hb03.size
              obtain ⟨g6, c6, h6⟩ := Joins.ownsRow_form hr6 (Nat.succ_pos _)
              clear hL hcl hD hI hbK hfin hb03
              dsimp only
              rw [h0, h9]
              refine wpList_append_own_at _ rfl _ _ 141 rfl w0.heap.size 117 i0 _ 5 104 Tryz.underlying141 hi0 hz0 hz1 hz2 rfl (by decide) _ _ _ rfl hrow1 ⟨z, 0, none⟩ 1 1 (u 6 :: [.string kid.label, .string kid.text, .slice aa1 kid.attrs.length ca1, .slice ka1 kid.kids.length ck1]) rfl rfl hz ?_ (by unfold maxLen; omega) (by omega) (by omega) ?_
              · rw [h6]; intro x hx; simp at hx; rcases hx with rfl | rfl | rfl | rfl | rfl <;> rfl
              intro v' w' r1 r2 _ r4
              exact ⟨_, rfl, HI'.out v' w' r1 r2 r4⟩
          case fin =>
            intro L' u w1 hall hI
            obtain ⟨⟨cells, hnr'⟩, hb'⟩ := kinv_fin hI (hall 10 (by decide))
            have hnx := HNX.out
            rw [HGK.out] at hnx
            simp only [if_true] at hnx
            have hmap : (L ++ [(cells, (ats ++ [(k : Int)], kid))]).map (·.2) = kids0 s ats T.kids (k + 1) := by rw [hnx, List.map_append, HL.out]; rfl
            have HNR' := Sp.hid hnr'
            have HMAP := Sp.hid hmap
            have HB' := Sp.hid hb'
            clear hall hI hnr' hb' hnx hmap
            simp only [List.getLast]
            refine wpList_plain rfl fun K hK => ?_
            simp only [Oper.wp, execOp, Sem.run_pure, Oper.upon]
            refine hK _ _ (stepEnd ?_)
            clear hK
            go_wp2
            go_roundw
            case rel => exact ⟨k + 1, _, by omega, by go_num, HNR'.out, HMAP.out, HB'.out⟩
            case measure => simp [intOf]; omega
      · have hgk : goodKid s kid = false := by unfold goodKid; rw [hl]; rfl
        have hnx := HNX.out
        rw [hgk] at hnx
        simp only [Bool.false_eq_true, if_false, List.append_nil] at hnx
        have HNX2 := Sp.hid hnx
        clear hnx hgk
        go_wp2
        rw [← HW2.out]
        go_roundw
        case rel => exact ⟨k + 1, L, by omega, by go_num, HNR.out.keep (fun b hb => by have := HF.out b hb; omega) HB2.out, by rw [HNX2.out]; exact HL.out, HB.out.trans (HB2.out.mono hsw)⟩
        case measure => simp [intOf]; omega
    · obtain rfl : k = T.kids.length := by omega
      have hSr : wr.heap[w.heap.size]? = some (.cells #[.bool s.isAttr, .string s.name, .slice pa s.preds.length pc] 68 (0, 0)) := (hb.block _ (by omega)).trans HS0.out
      have s2 : wr.cell? ⟨w.heap.size, 2, none⟩ = some (.slice pa s.preds.length pc) := by simp [World.cell?, hSr]
      have hSw : w.heap.size < wr.heap.size := by omega
      have HP2 := Sp.hid (HP.out.below HF.out hbw)
      obtain ⟨wo, rfl⟩ : ∃ wo : World, wo = wr := ⟨_, rfl⟩
      clear hnr hL hb hbw hSr
      go_wp2
      go_loopw [5, 43] (fun v i wr => ∃ (q : Nat) (L2 : List (List Value × NX)), q ≤ s.preds.length ∧ i = .int .i64 q ∧ NodesRow m F w0.heap.size wr v L2 ∧ L2.map (·.2) = (s.preds.take q).foldl (fun l q => thoseM q l) (kids0 s ats T.kids T.kids.length) ∧ L2.length ≤ 4096 ∧ Below wo.heap.size wo wr) (fun _ i _ => s.preds.length - (intOf i).toNat)
      case atStart => exact ⟨0, L, Nat.zero_le _, rfl, HNR.out, HL.out, by omega, Below.refl _ _⟩
      case round =>
        obtain ⟨q, L2, hq, rfl, hnr2, hL2, hl2, hb2⟩ := hrel
        have hsi := hb2.size
        have HNR2 := Sp.hid hnr2
        have HL2 := Sp.hid hL2
        have HB2 := Sp.hid hb2
        by_cases hqlt : q < s.preds.length
        · obtain ⟨b2, o2, rfl, fb2, ⟨y1, y2, y3⟩, a1, a2, a3⟩ := pred_cells (HP2.out.below (fun j hj => by have := HF.out j hj; omega) hb2) q hqlt
          have hbl2 : b2 < wr.heap.size := World.block_lt_of_cell? _ _ a1
          have htk := List.take_succ_eq_append_getElem hqlt
          obtain ⟨x, hx⟩ : ∃ x, x = s.preds[q] := ⟨_, rfl⟩
          rw [← hx] at a1 a2 a3 htk
          have HTK := Sp.hid htk
          have HQU := Sp.hid (fun W => question_any x W)
          have HTH := Sp.hid (fun (W : World) (hb : Below wr.heap.size wr W) => those_any m F w0.heap.size u5 L2 x W (hnr2.keep (fun b hb' => by have := HF.out b hb'; omega) hb) (fun b hb' => by have := HF.out b hb'; omega) (by have := hb.size; omega) (by omega))
          dsimp only [predV] at HQU HTH
          have hbx : Below wr.heap.size wr (wr.alloc (.cells #[.string x.attr, .string x.value, .int .i64 x.place] 70)) := (Below.refl _ _).alloc (Nat.le_refl _) _
          have HBX := Sp.hid hbx
          obtain ⟨xa, xv, xp⟩ := x
          dsimp only at a1 a2 a3 HQU HTH HBX
          clear hx hnr2 hL2 hb2 htk hbx y1 y2 y3
          go_wp2_with fail
          refine (HQU.out _).mono ?_
          rintro e w4 ⟨rfl, hb4⟩
          have HB4 := Sp.hid (HBX.out.trans (hb4.mono (by simp)))
          clear hb4
          go_wp2_with fail
          refine (HTH.out _ HB4.out).mono ?_
          rintro e w5 ⟨v', rfl, hnr5, hb5⟩
          have hb5' : Below wo.heap.size wo w5 := HB2.out.trans ((HB4.out.trans (hb5.mono HB4.out.size)).mono hsi)
          have hmap5 : (thoseL ⟨xa, xv, xp⟩ (fun x : List Value × NX => x.2.2) L2 L2.length).map (·.2) = (s.preds.take (q + 1)).foldl (fun l q => thoseM q l) (kids0 s ats T.kids T.kids.length) := by
            rw [HTK.out, List.foldl_append, ← HL2.out]
            have := thoseL_map ⟨xa, xv, xp⟩ (fun x : NX => x.2) (fun x : List Value × NX => x.2) L2 L2.length
            rw [this]
            simp only [List.foldl_cons, List.foldl_nil, thoseM, List.length_map]
          have hl5 : (thoseL ⟨xa, xv, xp⟩ (fun x : List Value × NX => x.2.2) L2 L2.length).length ≤ 4096 := Nat.le_trans (thoseL_length _ _ _ _) hl2
          have HNR5 := Sp.hid hnr5
          have HB5 := Sp.hid hb5'
          have HM5 := Sp.hid hmap5
          have HL5 := Sp.hid hl5
          clear hnr5 hb5 hb5' hmap5 hl5
          go_wp2
          go_roundw
          case rel => first | exact ⟨q + 1, _, by omega, by go_num, HNR5.out, HM5.out, HL5.out, HB5.out⟩ | ((repeat apply Exists.intro); refine ⟨⟨q + 1, _, by omega, by go_num, HNR5.out, HM5.out, HL5.out, HB5.out⟩, ?_⟩; rw [show ((q + 1 : Nat) : Int) = (q : Int) + 1 from rfl])
          case measure => simp [intOf]; omega
        · obtain rfl : q = s.preds.length := by omega
          clear hnr2 hL2 hb2
          go_wp2
          go_ret
          refine ⟨_, L2, rfl, HNR2.out.le (by omega), ?_, HBW.out.trans (HB2.out.mono (by omega))⟩
          rw [HL2.out, List.take_length]
          rfl

end Go.Proofs.YtoknglpfchjbjaaGreatDoor
