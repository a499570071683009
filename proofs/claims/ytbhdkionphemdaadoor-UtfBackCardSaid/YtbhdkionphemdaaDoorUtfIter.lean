/- The function value that utf.All returns: it hands each character and its place to the loop's body. Conditions: the bytes that it has captured are characters. -/
import Derived.Test.YtbhdkionphemdaaDoorUtfAll
import Derived.RangeFuncNested
import Derived.RangeFuncBound
import Derived.RangeFuncCalls
import Derived.RangeFuncLeaves
import Derived.Shelf.Abstract
import Derived.Shelf.RegionOpen
import Derived.WalkKit
import Derived.OwnWalkIn
import Derived.TacticsInMore
import Derived.LoopNIn
import Derived.LoopIn
namespace Go.Proofs.YtbhdkionphemdaaDoor
open Go.RowKit Go.Sp Go.Shelf

attribute [local go_sem] Oper.semAt_some

/-- The characters with their places. -/
def places : Nat → List Int → List (Nat × Int)
  | _, [] => []
  | p, r :: rs => (p, r) :: places (p + sizeOf_ r) rs

theorem places_snoc : ∀ (p : Nat) (rs : List Int) (r : Int), places p (rs ++ [r]) = places p rs ++ [(p + (rs.flatMap encM).length, r)]
  | p, [], r => by simp [places]
  | p, x :: rs, r => by
    rw [List.cons_append, places, places_snoc (p + sizeOf_ x) rs r, places, List.flatMap_cons, List.length_append, encM_length, Nat.add_assoc]
    rfl
theorem places_length : ∀ (p : Nat) (rs : List Int), (places p rs).length = rs.length
  | _, [] => rfl
  | p, r :: rs => by simp [places, places_length _ rs]
theorem places_take : ∀ (p : Nat) (rs : List Int) (k : Nat), places p (rs.take k) = (places p rs).take k
  | _, [], k => by simp [places]
  | _, _ :: _, 0 => rfl
  | p, r :: rs, k + 1 => by simp [places, places_take _ rs k]

/-- A number, brought into its kind: a character is what it was. -/
def norm (r : Int) : Int := r % 2147483648
theorem norm_char {r : Int} (h : isChar r = true) : norm r = r := by
  obtain ⟨h0, h1⟩ := isChar_bounds h
  unfold norm; omega
theorem norm_bounds (r : Int) : 0 ≤ norm r ∧ norm r ≤ 2147483647 := by unfold norm; omega
def nrm (x : Nat × Int) : Nat × Int := (x.1, norm x.2)
theorem places_nrm : ∀ {rs : List Int} (p : Nat), rs.all isChar = true → (places p rs).map nrm = places p rs
  | [], _, _ => rfl
  | r :: rs, p, h => by
    simp only [List.all_cons, Bool.and_eq_true] at h
    rw [places, List.map_cons, places_nrm _ h.2]
    unfold nrm
    rw [norm_char h.1]

theorem places_next {rs : List Int} {q : Nat} (hq : q < rs.length) : (places 0 rs).take (q + 1) = (places 0 rs).take q ++ [(((rs.take q).flatMap encM).length, rs[q])] := by
  rw [← places_take, ← places_take, List.take_succ_eq_append_getElem hq, places_snoc, Nat.zero_add]
theorem came_next {rs : List Int} {pre : List (Nat × Int)} {x : Nat × Int} {k : Nat} (hch : rs.all isChar = true) (h : pre ++ [x] = (places 0 rs).take k) (hk : k ≤ rs.length) (hq : pre.length < rs.length) :
    nrm x = (((rs.take pre.length).flatMap encM).length, rs[pre.length]) := by
  have hkq : k = pre.length + 1 := by
    have := congrArg List.length h
    rw [List.length_append, List.length_take, places_length] at this
    simp at this
    omega
  subst hkq
  rw [places_next hq] at h
  obtain ⟨_, h2⟩ := List.append_inj' h rfl
  simp only [List.cons.injEq, and_true] at h2
  rw [h2]
  unfold nrm
  rw [norm_char (List.all_eq_true.1 hch _ (List.getElem_mem _))]
theorem came_more {rs : List Int} {pre : List (Nat × Int)} {x : Nat × Int} (hp : pre.map nrm = (places 0 rs).take pre.length) (hq : pre.length < rs.length) (h1 : x.1 = ((rs.take pre.length).flatMap encM).length) (h2 : norm x.2 = rs[pre.length]) :
    (pre ++ [x]).map nrm = (places 0 rs).take (pre ++ [x]).length := by
  rw [List.map_append, hp, List.length_append, List.length_singleton, places_next hq]
  simp [nrm, h1, h2]

theorem grown_of_below {w w1 : World} (h : Below w.heap.size w w1) : w.grownBy w1 none := ⟨h.os, h.tape, h.output, h.size, fun j hj _ => h.block j hj⟩

theorem text_at {rs : List Int} {j : Nat} (hj : j < rs.length) : (rs.flatMap encM).drop ((rs.take j).flatMap encM).length = encM rs[j] ++ (rs.drop (j + 1)).flatMap encM := by
  have h : rs.flatMap encM = (rs.take j).flatMap encM ++ (encM rs[j] ++ (rs.drop (j + 1)).flatMap encM) := by
    rw [← List.flatMap_cons, ← List.drop_eq_getElem_cons hj, ← List.flatMap_append, List.take_append_drop]
  rw [h, List.drop_left]

set_option maxRecDepth 100000 in
set_option maxHeartbeats 4000000 in
theorem iter1_in (n : Nat) (hn : 1 ≤ n) (l Bs n₀ : Nat) (a : Option Addr) (cap : Nat) (rs : List Int) (J Jx : List (Nat × Int) → World → Prop)
    (hJ : ∀ s W1 W2, J s W1 → Below W1.heap.size W1 W2 → J s W2)
    (hY : ∀ pre x W, J pre W → pre.length < rs.length → YieldAt Fence.wide (n - 1) Tryd.prog l #[.int .i64 (x.1 : Int), .int .i32 (norm x.2)] W fun e W' =>
      (e = .returned (.bool true) ∧ J (pre ++ [x]) W' ∧ Below n₀ W W') ∨ (e = .returned (.bool false) ∧ Jx (pre ++ [x]) W'))
    (W : World) (hn0 : n₀ ≤ W.heap.size) (hch : rs.all isChar = true) (hcap : (rs.flatMap encM).length ≤ cap) (hlen : (rs.flatMap encM).length ≤ 1000)
    (hB : Bs < n₀) (hBs : W.cell? ⟨Bs, 0, none⟩ = some (.slice a (rs.flatMap encM).length cap)) (hsl : Sl (Shape.int .u8) (· < n₀) W a (rs.flatMap encM)) (hsp : SpansAt W) (hg : 0 < n₀) (h0 : J [] W) :
    CallsIn Fence.wide n Tryd.prog 21 #[.func (.yield l) #[] #[], .pointer (some ⟨Bs, 0, none⟩)] W fun e W' => (∃ v, e = .returned v) ∧
      ((∃ ys, ys = places 0 rs ∧ J ys W') ∨ (∃ pre, (∃ k, k ≤ rs.length ∧ pre = (places 0 rs).take k) ∧ Jx pre W')) := by
  have HJ := Sp.hid hJ
  have HY := Sp.hid hY
  have HCH := Sp.hid hch
  have HSL := Sp.hid hsl
  have HSP := Sp.hid hsp
  have HBS := Sp.hid hBs
  have H0 := Sp.hid h0
  obtain ⟨T, hT⟩ : ∃ T, T = (rs.flatMap encM).length := ⟨_, rfl⟩
  have HT := Sp.hid hT
  rw [← hT] at hcap hlen hBs HBS
  clear hJ hY hch hsl hsp h0 hT
  refine callsIn_of_wp Tryd.func21 rfl trivial ?_ rfl
  simp only [Tryd.ntmps21, List.size_toArray, List.length_cons, List.length_nil, Nat.reduceAdd, Nat.reduceSub, Array.replicate_succ, Array.replicate_zero, List.push_toArray, List.append_toArray, List.nil_append, List.cons_append]
  gi_wp2
  gi_loopw [3] (fun i wr => ∃ j : Nat, j ≤ rs.length ∧ i = .int .i64 (((rs.take j).flatMap encM).length : Nat) ∧ J (places 0 (rs.take j)) wr ∧ Below n₀ W wr) (fun i _ => T - (intOf i).toNat)
  case atStart => exact ⟨0, Nat.zero_le _, rfl, H0.out, Below.refl _ _⟩
  case round =>
    obtain ⟨j, hj, rfl, hJs, hb⟩ := hrel
    have hcB : wr.cell? ⟨Bs, 0, none⟩ = some (.slice a T cap) := (hb.cell (p := ⟨Bs, 0, none⟩) hB).trans HBS.out
    by_cases hlt : j < rs.length
    · have htx := text_at hlt
      have hcr : isChar rs[j] = true := List.all_eq_true.1 HCH.out _ (List.getElem_mem hlt)
      have hnx : ((rs.take (j + 1)).flatMap encM).length = ((rs.take j).flatMap encM).length + sizeOf_ rs[j] := by
        rw [List.take_succ_eq_append_getElem hlt, List.flatMap_append, List.length_append]; simp [encM_length]
      have hps := places_snoc 0 (rs.take j) rs[j]
      rw [← List.take_succ_eq_append_getElem hlt, Nat.zero_add] at hps
      have hpl : (places 0 (rs.take j)).length < rs.length := by rw [places_length, List.length_take]; omega
      obtain ⟨r, hr⟩ : ∃ r, r = rs[j] := ⟨_, rfl⟩
      rw [← hr] at htx hcr hnx hps
      obtain ⟨p, hp⟩ : ∃ p, p = ((rs.take j).flatMap encM).length := ⟨_, rfl⟩
      rw [← hp] at htx hnx hps ⊢
      have hsz := size_pos r
      have hsz4 : sizeOf_ r ≤ 4 := by unfold sizeOf_; split; decide; split; decide; split <;> decide
      have hpT : p < T := by
        have h1 := congrArg List.length htx
        rw [List.length_drop, List.length_append, encM_length, ← HT.out] at h1
        omega
      have hd := decode_any (· < n₀) a cap p (rs.flatMap encM) wr (HSL.out.below (fun _ h => h) hb) (fun x hx => by
        obtain ⟨y, hy, hxy⟩ := List.mem_flatMap.1 hx
        exact enc_bounds (List.all_eq_true.1 HCH.out y hy) x hxy) (by rw [← HT.out]; exact hpT) (by rw [← HT.out]; exact hcap) (by rw [← HT.out]; exact hlen) (CellsAt.frame HSP.out (hb.block _ hg))
      have hdv : decV ((rs.flatMap encM).drop p) = .tuple #[.int .i32 r, .int .i64 (sizeOf_ r : Nat), .int .i64 0] := by
        rw [htx]; unfold decV; rw [dec_enc r _ hcr]
      rw [hdv, ← HT.out] at hd
      obtain ⟨z, hz⟩ : ∃ z, z = sizeOf_ r := ⟨_, rfl⟩
      rw [← hz] at hd hnx hsz hsz4
      have HD := Sp.hid hd
      have HJS := Sp.hid hJs
      have HB := Sp.hid hb
      have HNX := Sp.hid hnx
      have HPS := Sp.hid hps
      have HNR := Sp.hid (norm_char hcr)
      clear hd hdv hJs hb hnx hps htx hcr hr hp hz
      gi_wp2_with (refine ⟨trivial, ?_⟩; gi_at_call 16; refine (callsIn_wide.2 HD.out).mono ?_; rintro e w1 ⟨rfl, hb1⟩; obtain ⟨fn, tmps, assign, body, hy, hR⟩ := HY.out _ (p, r) w1 (HJ.out _ _ _ HJS.out hb1) hpl; dsimp only at hy; rw [HNR.out] at hy; have HB1 := Sp.hid hb1; clear hb1)
      refine hR.mono ?_
      rintro e W3 (⟨rfl, hJ3, hk3⟩ | ⟨rfl, hJx3⟩)
      · have HJ3 := Sp.hid hJ3
        have HK3 := Sp.hid (HB.out.trans ((HB1.out.mono (by have := HB.out.size; omega)).trans hk3))
        clear hJ3 hk3 hR hy
        gi_wp2
        go_roundw
        case rel => exact ⟨j + 1, by omega, by rw [HNX.out]; go_num, by rw [HPS.out]; exact HJ3.out, HK3.out⟩
        case measure => simp [intOf]; omega
      · gi_wp2
        refine bodyPost_ret (results_none rfl _ _ _) rfl ?_
        refine ⟨⟨_, rfl⟩, .inr ⟨_, ⟨j + 1, by omega, ?_⟩, hJx3⟩⟩
        rw [← HPS.out, places_take]
    · obtain rfl : j = rs.length := by omega
      have htk : ((rs.take rs.length).flatMap encM).length = T := by rw [List.take_length]; exact HT.out.symm
      rw [htk]
      have hJ9 : J (places 0 rs) wr := by rw [List.take_length] at hJs; exact hJs
      have HJ9 := Sp.hid hJ9
      clear htk hJs hb hJ9
      gi_wp2
      go_end0
      exact ⟨⟨_, rfl⟩, .inl ⟨_, rfl, HJ9.out⟩⟩

/-- The contract that a loop over it asks for. -/
theorem all_stops (n : Nat) (hn : 1 ≤ n) (Bs n₀ : Nat) (a : Option Addr) (cap : Nat) (rs : List Int) (w : World) (hn0 : n₀ ≤ w.heap.size) (hch : rs.all isChar = true) (hcap : (rs.flatMap encM).length ≤ cap) (hlen : (rs.flatMap encM).length ≤ 1000)
    (hB : Bs < n₀) (hBs : w.cell? ⟨Bs, 0, none⟩ = some (.slice a (rs.flatMap encM).length cap)) (hsl : Sl (Shape.int .u8) (· < n₀) w a (rs.flatMap encM)) (hsp : SpansAt w) (hg : 0 < n₀) :
    SeqStopsK Fence.wide n Tryd.prog 21 #[.pointer (some ⟨Bs, 0, none⟩)] (fun x : Nat × Int => #[Value.int .i64 (x.1 : Int), Value.int .i32 (norm x.2)]) (Below n₀) (fun ys => ys = places 0 rs)
      (fun pre => ∃ k, k ≤ rs.length ∧ pre = (places 0 rs).take k) rs.length w := fun l J Jx W hW hJ _ hY h0 =>
  iter1_in n hn l Bs n₀ a cap rs J Jx (fun s W1 W2 hs hb => hJ s W1 W2 none hs (grown_of_below hb) (fun r e => by cases e)) hY W (Nat.le_trans hn0 hW.size) hch hcap hlen hB ((hW.cell (p := ⟨Bs, 0, none⟩) (by show Bs < _; omega)).trans hBs)
    (hsl.below (fun k hk => by omega) hW) (hsp.below hW (Nat.le_refl _)) hg h0

end Go.Proofs.YtbhdkionphemdaaDoor
