/- tree.bounded: it ends, and changes nothing but the number that is left. Conditions: the number that is left is 0 or more. -/
import Derived.Test.YtoknglpfchjbjaaGreatDoorTree
import Derived.Test.YtoknglpfchjbjaaGreatDoorRegion
import Derived.Test.YtoknglpfchjbjaaGreatDoorRows
import Derived.WalkKit
namespace Go.Proofs.YtoknglpfchjbjaaGreatDoor
open Go.RowKit Go.Sp

/-- The arguments' value of a tree. -/
abbrev nodeV (l t : ByteArray) (aa ka : Option Addr) (na ca nk ck : Nat) : Value := .agg #[.string l, .string t, .slice aa na ca, .slice ka nk ck]

/-- A node with these children is no deeper, and has no more nodes, than that. -/
def Fits (n d left : Nat) (kids : List TT) : Prop := 0 < d ∧ (∀ k ∈ kids, shallow (d - 1) k = true) ∧ 1 + (kids.flatMap (nodesM n)).length ≤ left
theorem Fits.kid {m d lf left k : Nat} {kids : List TT} (hlt : k < kids.length) (hlf : lf + ((kids.take k).flatMap (nodesM (m + 1))).length = left) (h : Fits (m + 1) (d + 1) (left + 1) kids) : Fits m d lf (kids[k]).kids := by
  obtain ⟨_, h2, h3⟩ := h
  have h4 := h2 kids[k] (List.getElem_mem hlt)
  rw [Nat.add_sub_cancel] at h4
  obtain ⟨h5, h6⟩ := shallow_iff.1 h4
  refine ⟨h5, h6, ?_⟩
  have e : kids = kids.take k ++ (kids[k] :: kids.drop (k + 1)) := by rw [List.getElem_cons_drop, List.take_append_drop]
  have h7 : (kids.flatMap (nodesM (m + 1))).length = ((kids.take k).flatMap (nodesM (m + 1))).length + (1 + ((kids[k]).kids.flatMap (nodesM m)).length) + ((kids.drop (k + 1)).flatMap (nodesM (m + 1))).length := by
    conv => lhs; rw [e]
    rw [List.flatMap_append, List.flatMap_cons, List.length_append, List.length_append]
    show _ + (((kids[k]).kids.flatMap (nodesM m)).length + 1 + _) = _
    omega
  omega
theorem Fits.shallow {m d lf : Nat} {x : TT} (h : Fits m d lf x.kids) : shallow d x = true := shallow_iff.2 ⟨h.1, h.2.1⟩

def BoundedPost (p left n d : Nat) (kids : List TT) (w : World) (e : Ending) (w' : World) : Prop :=
  ∃ (b : Bool) (left' : Nat), e = .returned (.bool b) ∧ left' ≤ left ∧ (b = true ↔ Fits n d left kids) ∧ (b = true → left' + (1 + (kids.flatMap (nodesM n)).length) = left) ∧ w.grownBy w' (some p) ∧ w'.cell? ⟨p, 0, none⟩ = some (.int .i64 (left' : Nat)) ∧ w'.frozen? ⟨p, 0, none⟩ = false

theorem grown_alloc {w w1 : World} {p : Nat} (h : w.grownBy w1 (some p)) (o : Obj) : w.grownBy (w1.alloc o) (some p) := grown_trans h (World.grownBy_alloc _ _ _)

theorem grown_set (w : World) (p : Nat) (v : Value) : w.grownBy (w.setCell ⟨p, 0, none⟩ v) (some p) :=
  ⟨rfl, rfl, rfl, by rw [World.size_setCell]; exact Nat.le_refl _, fun k _ hne => Below.heap_setCell w ⟨p, 0, none⟩ v k (fun e => hne (by rw [e]))⟩

set_option maxHeartbeats 2000000 in
theorem bounded_any (n : Nat) : ∀ (F : Nat → Prop) (l t : ByteArray) (aa ka : Option Addr) (na ca : Nat) (kids : List TT) (ck d p left : Nat) (w : World), Sl (treeS n) F w ka kids → (∀ k, F k → k < w.heap.size ∧ k ≠ p) → kids.length ≤ 9223372036854775807 →
    d ≤ 1000 → left ≤ 100000 → w.cell? ⟨p, 0, none⟩ = some (.int .i64 (left : Nat)) → w.frozen? ⟨p, 0, none⟩ = false →
    Calls Tryz.prog 37 #[.agg #[.string l, .string t, .slice aa na ca, .slice ka kids.length ck], .int .i64 d, .pointer (some ⟨p, 0, none⟩)] w (BoundedPost p left n d kids w) := by
  induction n using Nat.strongRecOn with
  | ind n ih =>
    intro F l t aa ka na ca kids ck d p left w hks hF hlen hd hleft hc hf
    have IH := Sp.hid ih
    have HK := Sp.hid hks
    have HF := Sp.hid hF
    clear ih hks hF
    have hpw : p < w.heap.size := World.block_lt_of_cell? w _ hc
    have g0 : w.grownBy (w.alloc (.cells #[.string l, .string t, .slice aa na ca, .slice ka kids.length ck] 29)) (some p) := World.grownBy_alloc _ _ _
    have q1 : (w.alloc (.cells #[.string l, .string t, .slice aa na ca, .slice ka kids.length ck] 29)).cell? ⟨p, 0, none⟩ = some (.int .i64 (left : Nat)) := by rw [World.cell?_alloc_lt _ _ _ hpw]; exact hc
    have q2 : (w.alloc (.cells #[.string l, .string t, .slice aa na ca, .slice ka kids.length ck] 29)).frozen? ⟨p, 0, none⟩ = false := by rw [World.frozen?_of_block (a := ⟨p, 0, none⟩) (Below.heap_alloc _ _ _ hpw)]; exact hf
    cases d with
    | zero =>
      have G0 := Sp.hid g0
      clear g0 hf
      go_enter Tryz.func37, Tryz.ntmps37
      go_wp2
      go_ret
      exact ⟨false, left, rfl, Nat.le_refl _, ⟨by simp, fun h => absurd h.1 (by omega)⟩, (by simp), G0.out, q1, q2⟩
    | succ d =>
      obtain ⟨D, hD⟩ : ∃ D : Int, D = ((d + 1 : Nat) : Int) := ⟨_, rfl⟩
      rw [← hD]
      have hd0 : (D == 0) = false := by rw [hD]; simp; omega
      have hDl : 0 ≤ D := by omega
      have hDu : D ≤ 1000 := by omega
      have hD1 : D - 1 = (d : Int) := by omega
      clear hD
      cases left with
      | zero =>
        have G0 := Sp.hid g0
        clear g0
        go_enter Tryz.func37, Tryz.ntmps37
        go_wp2
        go_ret
        exact ⟨false, 0, rfl, Nat.le_refl _, ⟨by simp, fun h => absurd h.2.2 (by omega)⟩, (by simp), G0.out, q1, q2⟩
      | succ left =>
        have hl0 : ((left : Int) + 1 == 0) = false := by simp; omega
        have G0 := Sp.hid g0
        clear g0
        go_enter Tryz.func37, Tryz.ntmps37
        go_wp2
        obtain ⟨w1, hw1⟩ : ∃ w1, w1 = (w.setCell ⟨p, 0, none⟩ (.int .i64 (left : Nat))).alloc (.cells #[.string l, .string t, .slice aa na ca, .slice ka kids.length ck] 29) := ⟨_, rfl⟩
        have hsz : (w.setCell ⟨p, 0, none⟩ (.int .i64 (left : Nat))).heap.size = w.heap.size := World.size_setCell _ _ _
        have g1 : w.grownBy w1 (some p) := by rw [hw1]; exact grown_alloc (grown_set w p _) _
        have r1 : w1.cell? ⟨p, 0, none⟩ = some (.int .i64 (left : Nat)) := by
          rw [hw1, World.cell?_alloc_lt _ _ _ (by rw [hsz]; exact hpw)]
          exact World.cell?_setCell_same' _ _ _ (by rw [hc]; rfl)
        have r2 : w1.frozen? ⟨p, 0, none⟩ = false := by
          rw [hw1, World.frozen?_of_block (a := ⟨p, 0, none⟩) (Below.heap_alloc _ _ _ (by rw [hsz]; exact hpw)), World.frozen?_setCell]
          exact hf
        rw [← hw1]
        have G1 := Sp.hid g1
        have hs1 := g1.size
        clear g1 hw1 hsz hc hf q1 q2 G0
        go_loopw [25] (fun i wr => ∃ k : Nat, k ≤ kids.length ∧ i = .int .i64 k ∧ ∃ lf : Nat, lf + ((kids.take k).flatMap (nodesM n)).length = left ∧ (∀ x ∈ kids.take k, shallow d x = true) ∧ w.grownBy wr (some p) ∧ wr.cell? ⟨p, 0, none⟩ = some (.int .i64 (lf : Nat)) ∧ wr.frozen? ⟨p, 0, none⟩ = false) (fun i _ => kids.length - (intOf i).toNat)
        case atStart => exact ⟨0, Nat.zero_le _, rfl, left, by simp, by simp, G1.out, r1, r2⟩
        case round =>
          obtain ⟨k, hk, rfl, lf, hlf, hsh, hg, hcp, hfp⟩ := hrel
          have hsg := hg.size
          have HLF := Sp.hid hlf
          have HSH := Sp.hid hsh
          have hlf' : lf ≤ left := by omega
          clear hlf hsh
          by_cases hlt : k < kids.length
          · have hfr : Sl (treeS n) F wr ka kids := HK.out.frame (fun b hb => hg.block b (HF.out b hb).1 (fun e => (HF.out b hb).2 (by cases e; rfl)))
            obtain ⟨b, o, ka1, kc1, kk, kkc, rfl, fb, hrep, e1, e2, e3, e4⟩ := tree_cells hfr k hlt
            cases n with
            | zero => exact hrep.elim
            | succ m =>
              obtain ⟨⟨_, _, _, hkl⟩, aa', ca', ka', ck', hvs, hat, hkd⟩ := tree_open hrep
              simp only [List.cons.injEq, Value.slice.injEq, true_and, and_true] at hvs
              obtain ⟨⟨rfl, rfl⟩, rfl, rfl⟩ := hvs
              obtain ⟨wa, hwa⟩ : ∃ wa, wa = wr.alloc (.cells #[.string kids[k].label, .string kids[k].text, .slice ka1 kids[k].attrs.length kc1, .slice kk kids[k].kids.length kkc] 29) := ⟨_, rfl⟩
              have hpr : p < wr.heap.size := by omega
              have ga : w.grownBy wa (some p) := by rw [hwa]; exact grown_alloc hg _
              have a1 : wa.cell? ⟨p, 0, none⟩ = some (.int .i64 (lf : Nat)) := by rw [hwa, World.cell?_alloc_lt _ _ _ hpr]; exact hcp
              have a2 : wa.frozen? ⟨p, 0, none⟩ = false := by rw [hwa, World.frozen?_of_block (a := ⟨p, 0, none⟩) (Below.heap_alloc _ _ _ hpr)]; exact hfp
              have HNX := Sp.hid (show ((kids.take (k + 1)).flatMap (nodesM (m + 1))).length = ((kids.take k).flatMap (nodesM (m + 1))).length + (1 + (kids[k].kids.flatMap (nodesM m)).length) by
                rw [List.take_succ_eq_append_getElem hlt, List.flatMap_append, List.length_append]
                simp [nodesM]; omega)
              have hka : Sl (treeS m) F wa kk kids[k].kids := hkd.frame (fun b hb => by rw [hwa]; exact Below.heap_alloc _ _ _ (by have := (HF.out b hb).1; omega))
              have HR := Sp.hid (IH.out m (Nat.lt_succ_self m) F kids[k].label kids[k].text ka1 kk kids[k].attrs.length kc1 kids[k].kids kkc d p lf wa hka (fun b hb => ⟨by have := (HF.out b hb).1; have := ga.size; omega, (HF.out b hb).2⟩) hkl (by omega) (by omega) a1 a2)
              have HTK := Sp.hid (List.take_succ_eq_append_getElem hlt)
              have HFK := Sp.hid (fun h => Fits.kid (m := m) (d := d) hlt HLF.out h)
              obtain ⟨x1, hx1⟩ : ∃ x1, x1 = kids[k].label := ⟨_, rfl⟩
              obtain ⟨x2, hx2⟩ : ∃ x2, x2 = kids[k].text := ⟨_, rfl⟩
              obtain ⟨x3, hx3⟩ : ∃ x3, x3 = kids[k].attrs.length := ⟨_, rfl⟩
              obtain ⟨x4, hx4⟩ : ∃ x4, x4 = kids[k].kids.length := ⟨_, rfl⟩
              rw [← hx1] at e1 hwa HR
              rw [← hx2] at e2 hwa HR
              rw [← hx3] at e3 hwa HR
              rw [← hx4] at e4 hwa HR
              have hbw : b < wr.heap.size := World.block_lt_of_cell? _ _ e1
              have GA := Sp.hid ga
              have HWA := Sp.hid hwa
              clear ga a1 a2 hka hwa hx1 hx2 hx3 hx4 hg hcp hfp hat hkd hrep hfr
              go_wp2_with fail
              rw [← HWA.out]
              refine HR.out.mono ?_
              rintro e w2 ⟨b', lf', rfl, hle, hfit, hsz2, hg2, hc2, hf2⟩
              have HFIT := Sp.hid hfit
              have HSZ := Sp.hid hsz2
              have hg3 := grown_trans GA.out hg2
              have HG3 := Sp.hid hg3
              have HC2 := Sp.hid hc2
              have HF2 := Sp.hid hf2
              clear hg2 hg3 hc2 hf2 hsz2 hfit
              have HALL : Fits m d lf (kids[k]).kids → ∀ x ∈ kids.take (k + 1), shallow d x = true := fun hf x hx => by
                rw [HTK.out] at hx
                rcases List.mem_append.1 hx with hx | hx
                · exact HSH.out x hx
                · rw [List.mem_singleton.1 hx]; exact hf.shallow
              cases b'
              · go_wp2
                go_ret
                exact ⟨false, lf', rfl, by omega, ⟨by simp, fun h => absurd (HFIT.out.2 (HFK.out h)) (by decide)⟩, (by simp), HG3.out, HC2.out, HF2.out⟩
              · go_wp2
                go_roundw
                case rel => exact ⟨k + 1, by omega, by go_num, lf', by rw [HNX.out]; have := HSZ.out (by trivial); have := HLF.out; omega, HALL (HFIT.out.1 (by trivial)), HG3.out, HC2.out, HF2.out⟩
                case measure => simp [intOf]; omega
          · obtain rfl : k = kids.length := by omega
            have HG := Sp.hid hg
            have HC := Sp.hid hcp
            have HFP := Sp.hid hfp
            clear hg hcp hfp
            go_wp2
            go_ret
            exact ⟨true, lf, rfl, by omega, ⟨fun _ => ⟨Nat.succ_pos d, fun x hx => HSH.out x (by rw [List.take_length]; exact hx), by have := HLF.out; rw [List.take_length] at this; omega⟩, fun _ => rfl⟩, (fun _ => by have := HLF.out; rw [List.take_length] at this; omega), HG.out, HC.out, HFP.out⟩

end Go.Proofs.YtoknglpfchjbjaaGreatDoor
