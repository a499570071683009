/- spyglassref04.Raw, spyglasslaw04.Raw: the tree of steps. Conditions: up to 2^20 steps. -/
import Derived.Test.YtoknglpfchjbjaaDoorRawN
namespace Go.Proofs.YtoknglpfchjbjaaDoor
open Go.RowKit Go.Sp Go.Maps

/-- What is known where steps are a tree's. -/
def RawIs (xs : List Stp) (T : TT) : Prop := parL (2 * xs.length + 1) none xs = some (T, []) ∧ 0 < xs.length
/-- A tree's value. -/
def TreeVals (vs : List Value) : Prop := ∃ (l t : ByteArray) (aa : Option Addr) (na ca : Nat) (ka : Option Addr) (nk ck : Nat), vs = [.string l, .string t, .slice aa na ca, .slice ka nk ck]
def RefRawPost (xs : List Stp) (w : World) (e : Ending) (w' : World) : Prop := Below w.heap.size w w' ∧
  ∃ (vs : List Value) (b : Bool), TreeVals vs ∧ e = .returned (.tuple #[.agg vs.toArray, .bool b]) ∧ (b = true → ∃ T, RawIs xs T ∧ (treeS xs.length).rep (fun b => w.heap.size ≤ b ∧ b < w'.heap.size) w' vs T)

set_option maxRecDepth 100000 in
set_option maxHeartbeats 4000000 in
theorem refRaw_any (xs : List Stp) (hxl : xs.length ≤ 1048576) (a : Option Addr) (c : Nat) (w : World) (hs : Sl stpS (· < w.heap.size) w a xs) :
    Calls Tryd.prog 24 #[.slice a xs.length c] w (RefRawPost xs w) := by
  obtain ⟨w1, hw1⟩ : ∃ w1, w1 = w.alloc (.cells #[.string ⟨#[]⟩, .string ⟨#[]⟩, .slice none 0 0, .slice none 0 0] 27) := ⟨_, rfl⟩
  have hb1 : Below w.heap.size w w1 := by rw [hw1]; exact (Below.refl _ _).alloc (Nat.le_refl _) _
  have hres : w1.heap[w.heap.size]? = some (.cells #[.string ⟨#[]⟩, .string ⟨#[]⟩, .slice none 0 0, .slice none 0 0] 27 (0, 0)) := by rw [hw1]; exact World.alloc_heap_new _ _
  have hl1 : w.heap.size + 1 ≤ w1.heap.size := by rw [hw1]; simp
  have HND := Sp.hid (node_any xs hxl a c xs.length 0 (2 * xs.length + 1) w1 (by omega) (Nat.zero_le _) (by omega) ((hs.below (fun k h => h) hb1).mono fun k hk => by have : k < w.heap.size := hk; omega))
  have HW1 := Sp.hid hw1
  have HB1 := Sp.hid hb1
  have HR1 := Sp.hid hres
  clear hs hw1 hb1 hres
  go_enter Tryd.func24, Tryd.ntmps24
  go_wp2_with fail
  rw [← HW1.out]
  refine HND.out.mono ?_
  rintro e w2 ⟨hb2, ⟨T, q, vs, hpar, hq1, hq2, rfl, hrep⟩ | ⟨hpar, rfl⟩⟩
  · have hs2 := hb2.size
    rw [List.drop_zero, Nat.sub_zero] at *
    obtain ⟨d, hd⟩ : ∃ d, xs.length = d + 1 := ⟨xs.length - 1, by omega⟩
    have hrep' := hrep
    rw [hd] at hrep'
    obtain ⟨-, aa, ca, ka, ck, hvs, -, -⟩ := tree_open hrep'
    subst hvs
    have hxp : 0 < xs.length := by omega
    clear hd
    have HREP := Sp.hid hrep
    have HPAR := Sp.hid hpar
    have hres2 := (hb2.block _ (by omega)).trans HR1.out
    have HB2 := Sp.hid (HB1.out.trans (hb2.mono (by omega)))
    have hres3 : (w2.alloc (.cells #[.string T.label, .string T.text, .slice aa T.attrs.length ca, .slice ka T.kids.length ck] 27)).heap[w.heap.size]? = some (.cells #[.string ⟨#[]⟩, .string ⟨#[]⟩, .slice none 0 0, .slice none 0 0] 27 (0, 0)) := (Below.heap_alloc _ _ _ (by omega)).trans hres2
    have r0 : (w2.alloc (.cells #[.string T.label, .string T.text, .slice aa T.attrs.length ca, .slice ka T.kids.length ck] 27)).cell? ⟨w.heap.size, 0, none⟩ = some (.string ⟨#[]⟩) := cell_at hres3 0
    have r1 : (w2.alloc (.cells #[.string T.label, .string T.text, .slice aa T.attrs.length ca, .slice ka T.kids.length ck] 27)).cell? ⟨w.heap.size, 1, none⟩ = some (.string ⟨#[]⟩) := cell_at hres3 1
    have r2 : (w2.alloc (.cells #[.string T.label, .string T.text, .slice aa T.attrs.length ca, .slice ka T.kids.length ck] 27)).cell? ⟨w.heap.size, 2, none⟩ = some (.slice none 0 0) := cell_at hres3 2
    have r3 : (w2.alloc (.cells #[.string T.label, .string T.text, .slice aa T.attrs.length ca, .slice ka T.kids.length ck] 27)).cell? ⟨w.heap.size, 3, none⟩ = some (.slice none 0 0) := cell_at hres3 3
    have fr := frozenN hres3
    have hxpos : (0 : Int) < ((xs.length : Nat) : Int) := by omega
    have HB3 := Sp.hid (show Below w.heap.size w (w2.alloc (.cells #[.string T.label, .string T.text, .slice aa T.attrs.length ca, .slice ka T.kids.length ck] 27)) from HB2.out.alloc HB2.out.size _)
    clear hrep hrep' hpar hb2 hres2 hres3
    by_cases hqe : q = xs.length
    · have hqi : (((q : Nat) : Int) == ((xs.length : Nat) : Int)) = true := by rw [hqe]; simp
      have HRI := Sp.hid (show RawIs xs T from ⟨by rw [HPAR.out, hqe, List.drop_length], by omega⟩)
      clear hqe
      go_wp2
      all_goals
        refine bodyPost_ret (v := .tuple #[.agg #[.string T.label, .string T.text, .slice aa T.attrs.length ca, .slice ka T.kids.length ck], .bool true]) (by simp [results, Tryd.f24, go_sem, r0, r1, r2, r3]) rfl ⟨?_, [.string T.label, .string T.text, .slice aa T.attrs.length ca, .slice ka T.kids.length ck], true, ⟨_, _, _, _, _, _, _, _, rfl⟩, rfl, fun _ => ⟨T, HRI.out, ?_⟩⟩
        · exact (((HB3.out.setCell (Nat.le_refl _) _).setCell (Nat.le_refl _) _).setCell (Nat.le_refl _) _).setCell (Nat.le_refl _) _
        · refine (treeS _).mono ((treeS _).frame HREP.out fun b hb => ?_) fun b hb => ⟨by have := hb.1; omega, by have := hb.2; simp only [World.size_setCell, World.size_alloc]; omega⟩
          have h1 := hb.1
          rw [Below.heap_setCell _ _ _ _ (by show b ≠ w.heap.size; omega), Below.heap_setCell _ _ _ _ (by show b ≠ w.heap.size; omega), Below.heap_setCell _ _ _ _ (by show b ≠ w.heap.size; omega), Below.heap_setCell _ _ _ _ (by show b ≠ w.heap.size; omega)]
          exact Below.heap_alloc _ _ _ hb.2
    · have hqi : (((q : Nat) : Int) == ((xs.length : Nat) : Int)) = false := by rw [beq_eq_false_iff_ne]; omega
      clear hqe
      go_wp2
      all_goals
        refine bodyPost_ret (v := .tuple #[.agg #[.string T.label, .string T.text, .slice aa T.attrs.length ca, .slice ka T.kids.length ck], .bool false]) (by simp [results, Tryd.f24, go_sem, r0, r1, r2, r3]) rfl ⟨?_, [.string T.label, .string T.text, .slice aa T.attrs.length ca, .slice ka T.kids.length ck], false, ⟨_, _, _, _, _, _, _, _, rfl⟩, rfl, fun h => by cases h⟩
        exact (((HB3.out.setCell (Nat.le_refl _) _).setCell (Nat.le_refl _) _).setCell (Nat.le_refl _) _).setCell (Nat.le_refl _) _
  · have hs2 := hb2.size
    have hres2 := (hb2.block _ (by omega)).trans HR1.out
    have HB2 := Sp.hid (HB1.out.trans (hb2.mono (by omega)))
    have hres3 : (w2.alloc (.cells #[.string ⟨#[]⟩, .string ⟨#[]⟩, .slice none 0 0, .slice none 0 0] 27)).heap[w.heap.size]? = some (.cells #[.string ⟨#[]⟩, .string ⟨#[]⟩, .slice none 0 0, .slice none 0 0] 27 (0, 0)) := (Below.heap_alloc _ _ _ (by omega)).trans hres2
    have r0 : (w2.alloc (.cells #[.string ⟨#[]⟩, .string ⟨#[]⟩, .slice none 0 0, .slice none 0 0] 27)).cell? ⟨w.heap.size, 0, none⟩ = some (.string ⟨#[]⟩) := cell_at hres3 0
    have r1 : (w2.alloc (.cells #[.string ⟨#[]⟩, .string ⟨#[]⟩, .slice none 0 0, .slice none 0 0] 27)).cell? ⟨w.heap.size, 1, none⟩ = some (.string ⟨#[]⟩) := cell_at hres3 1
    have r2 : (w2.alloc (.cells #[.string ⟨#[]⟩, .string ⟨#[]⟩, .slice none 0 0, .slice none 0 0] 27)).cell? ⟨w.heap.size, 2, none⟩ = some (.slice none 0 0) := cell_at hres3 2
    have r3 : (w2.alloc (.cells #[.string ⟨#[]⟩, .string ⟨#[]⟩, .slice none 0 0, .slice none 0 0] 27)).cell? ⟨w.heap.size, 3, none⟩ = some (.slice none 0 0) := cell_at hres3 3
    have fr := frozenN hres3
    have HB3 := Sp.hid (show Below w.heap.size w (w2.alloc (.cells #[.string ⟨#[]⟩, .string ⟨#[]⟩, .slice none 0 0, .slice none 0 0] 27)) from HB2.out.alloc HB2.out.size _)
    have hqi : ((-1 : Int) == ((xs.length : Nat) : Int)) = false := by rw [beq_eq_false_iff_ne]; omega
    clear hpar hb2 hres2 hres3
    go_wp2
    all_goals
      refine bodyPost_ret (v := .tuple #[.agg #[.string ⟨#[]⟩, .string ⟨#[]⟩, .slice none 0 0, .slice none 0 0], .bool false]) (by simp [results, Tryd.f24, go_sem, r0, r1, r2, r3]) rfl ⟨?_, [.string ⟨#[]⟩, .string ⟨#[]⟩, .slice none 0 0, .slice none 0 0], false, ⟨_, _, _, _, _, _, _, _, rfl⟩, rfl, fun h => by cases h⟩
      first | exact HB3.out | exact (((HB3.out.setCell (Nat.le_refl _) _).setCell (Nat.le_refl _) _).setCell (Nat.le_refl _) _).setCell (Nat.le_refl _) _

theorem forall_take_nextR {α : Type} {p : α → Prop} {l : List α} {k : Nat} (hk : k < l.length) (h : ∀ x ∈ l.take k, p x) (hp : p l[k]) : ∀ x ∈ l.take (k + 1), p x := by
  rw [List.take_succ_eq_append_getElem hk]
  intro x hx
  rcases List.mem_append.1 hx with hx | hx
  · exact h x hx
  · rw [List.mem_singleton.1 hx]; exact hp
def LawRawPost (xs : List Stp) (w : World) (e : Ending) (w' : World) : Prop := Below w.heap.size w w' ∧
  ∃ (vs : List Value) (b : Bool), TreeVals vs ∧ e = .returned (.tuple #[.agg vs.toArray, .bool b]) ∧ (b = true → (∀ s ∈ xs, s.kind = 1 → s.name.toList.isEmpty = false) ∧ ∃ T, RawIs xs T ∧ (treeS xs.length).rep (fun b => w.heap.size ≤ b ∧ b < w'.heap.size) w' vs T)

set_option maxRecDepth 100000 in
set_option maxHeartbeats 8000000 in
theorem lawRaw_any (xs : List Stp) (hxl : xs.length ≤ 1048576) (a : Option Addr) (c : Nat) (w : World) (hs : Sl stpS (· < w.heap.size) w a xs) :
    Calls Tryd.prog 10 #[.slice a xs.length c] w (LawRawPost xs w) := by
  obtain ⟨w1, hw1⟩ : ∃ w1, w1 = w.alloc (.cells #[.string ⟨#[]⟩, .string ⟨#[]⟩, .slice none 0 0, .slice none 0 0] 27) := ⟨_, rfl⟩
  have hb1 : Below w.heap.size w w1 := by rw [hw1]; exact (Below.refl _ _).alloc (Nat.le_refl _) _
  have hres : w1.heap[w.heap.size]? = some (.cells #[.string ⟨#[]⟩, .string ⟨#[]⟩, .slice none 0 0, .slice none 0 0] 27 (0, 0)) := by rw [hw1]; exact World.alloc_heap_new _ _
  have hl1 : w.heap.size + 1 ≤ w1.heap.size := by rw [hw1]; simp
  have hs1 := (hs.below (fun k h => h) hb1).mono (G := (· < w1.heap.size)) fun k hk => by have : k < w.heap.size := hk; show k < w1.heap.size; omega
  have HS1 := Sp.hid hs1
  have HPL := Sp.hid (law4Plain_any (· < w1.heap.size) xs a c w1 hs1 (fun k h => h) hxl)
  have HW1 := Sp.hid hw1
  have HB1 := Sp.hid hb1
  have HR1 := Sp.hid hres
  clear hs hs1 hw1 hb1 hres
  go_enter Tryd.func10, Tryd.ntmps10
  go_wp2
  rw [← HW1.out]
  go_loopw [4] (fun i wr => ∃ k : Nat, k ≤ xs.length ∧ i = .int .i64 k ∧ wr = w1 ∧ (∀ s ∈ xs.take k, s.kind = 1 → s.name.toList.isEmpty = false)) (fun i _ => xs.length - (intOf i).toNat)
  case atStart => exact ⟨0, Nat.zero_le _, rfl, rfl, by simp⟩
  case round =>
    obtain ⟨k, hk, rfl, hwr, hall⟩ := hrel
    subst hwr
    by_cases hlt : k < xs.length
    · obtain ⟨b, o, rfl, fb, -, -, e1, e2, e3⟩ := stp_cells HS1.out k hlt
      have HALL := Sp.hid (fun h => forall_take_nextR (p := fun s : Stp => s.kind = 1 → s.name.toList.isEmpty = false) hlt hall h)
      obtain ⟨q, hq⟩ : ∃ q, q = xs[k] := ⟨_, rfl⟩
      rw [← hq] at e1 e2 e3 HALL
      have hbl : b < wr.heap.size := fb
      clear hq hall fb
      by_cases h1 : q.kind = 1
      · have h1' : (q.kind == 1) = true := by rw [h1]; rfl
        cases hn : q.name.toList.isEmpty
        · have hn' : (q.name.toList == []) = false := by rw [beq_eq_false_iff_ne]; intro e; rw [e] at hn; cases hn
          have HNX := Sp.hid (HALL.out (fun _ => hn))
          clear HALL
          go_wp2
          go_roundw
          case rel => exact ⟨k + 1, by omega, by go_num, (by first | trivial | rfl), HNX.out⟩
          case measure => simp [intOf]; omega
        · have hn' : (q.name.toList == []) = true := by rw [beq_iff_eq]; exact List.isEmpty_iff.1 hn
          have hres := HR1.out
          have r0 : wr.cell? ⟨w.heap.size, 0, none⟩ = some (.string ⟨#[]⟩) := cell_at hres 0
          have r1 : wr.cell? ⟨w.heap.size, 1, none⟩ = some (.string ⟨#[]⟩) := cell_at hres 1
          have r2 : wr.cell? ⟨w.heap.size, 2, none⟩ = some (.slice none 0 0) := cell_at hres 2
          have r3 : wr.cell? ⟨w.heap.size, 3, none⟩ = some (.slice none 0 0) := cell_at hres 3
          have fr := frozenN hres
          clear HALL hres
          go_wp2
          refine bodyPost_ret (v := .tuple #[.agg #[.string ⟨#[]⟩, .string ⟨#[]⟩, .slice none 0 0, .slice none 0 0], .bool false]) (by simp [results, Tryd.f10, go_sem, r0, r1, r2, r3]) rfl ⟨?_, [.string ⟨#[]⟩, .string ⟨#[]⟩, .slice none 0 0, .slice none 0 0], false, ⟨_, _, _, _, _, _, _, _, rfl⟩, rfl, fun h => by cases h⟩
          first | exact HB1.out | exact (((HB1.out.setCell (Nat.le_refl _) _).setCell (Nat.le_refl _) _).setCell (Nat.le_refl _) _).setCell (Nat.le_refl _) _
      · have h1' : (q.kind == 1) = false := by simpa using h1
        have HNX := Sp.hid (HALL.out (fun h => absurd h h1))
        clear HALL h1
        go_wp2
        go_roundw
        case rel => exact ⟨k + 1, by omega, by go_num, (by first | trivial | rfl), HNX.out⟩
        case measure => simp [intOf]; omega
    · obtain rfl : k = xs.length := by omega
      rw [List.take_length] at hall
      have HALL := Sp.hid hall
      clear hall
      go_wp2_with fail
      refine HPL.out.mono ?_
      rintro e w2 ⟨hb2, a2, c2, rfl, hs2⟩
      have hz2 := hb2.size
      have HRW := Sp.hid (refRaw_any xs hxl a2 c2 w2 (hs2.mono fun k hk => hk.2))
      have HB2 := Sp.hid (HB1.out.trans (hb2.mono (by omega)))
      have HR2 := Sp.hid ((hb2.block _ (by omega)).trans HR1.out)
      clear hb2 hs2
      go_wp2_with fail
      refine HRW.out.mono ?_
      rintro e w3 ⟨hb3, vs, bb, hvl, rfl, hrep⟩
      obtain ⟨l0, l1, aa, na, ca, ka, nk, ck, rfl⟩ := hvl
      have hz3 := hb3.size
      have HB3 := Sp.hid (HB2.out.trans (hb3.mono HB2.out.size))
      have hres := (hb3.block _ (by omega)).trans HR2.out
      have r0 : w3.cell? ⟨w.heap.size, 0, none⟩ = some (.string ⟨#[]⟩) := cell_at hres 0
      have r1 : w3.cell? ⟨w.heap.size, 1, none⟩ = some (.string ⟨#[]⟩) := cell_at hres 1
      have r2 : w3.cell? ⟨w.heap.size, 2, none⟩ = some (.slice none 0 0) := cell_at hres 2
      have r3 : w3.cell? ⟨w.heap.size, 3, none⟩ = some (.slice none 0 0) := cell_at hres 3
      have fr := frozenN hres
      have HREP := Sp.hid hrep
      clear hb3 hres hrep
      go_wp2
      refine bodyPost_ret (v := .tuple #[.agg #[.string l0, .string l1, .slice aa na ca, .slice ka nk ck], .bool bb]) (by simp [results, Tryd.f10, go_sem, r0, r1, r2, r3]) rfl ⟨?_, [.string l0, .string l1, .slice aa na ca, .slice ka nk ck], bb, ⟨_, _, _, _, _, _, _, _, rfl⟩, rfl, fun hbt => ⟨HALL.out, ?_⟩⟩
      · exact (((HB3.out.setCell (Nat.le_refl _) _).setCell (Nat.le_refl _) _).setCell (Nat.le_refl _) _).setCell (Nat.le_refl _) _
      · obtain ⟨T, h1, h2⟩ := HREP.out hbt
        refine ⟨T, h1, ?_⟩
        refine (treeS _).mono ((treeS _).frame h2 fun b hb => ?_) fun b hb => ⟨by have := hb.1; omega, by have := hb.2; simp only [World.size_setCell]; omega⟩
        have h1 := hb.1
        rw [Below.heap_setCell _ _ _ _ (by show b ≠ w.heap.size; omega), Below.heap_setCell _ _ _ _ (by show b ≠ w.heap.size; omega), Below.heap_setCell _ _ _ _ (by show b ≠ w.heap.size; omega), Below.heap_setCell _ _ _ _ (by show b ≠ w.heap.size; omega)]

end Go.Proofs.YtoknglpfchjbjaaDoor
