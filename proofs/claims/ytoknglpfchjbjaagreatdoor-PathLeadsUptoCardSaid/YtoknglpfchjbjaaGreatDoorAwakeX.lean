/- Merged: The statements' ints of layer 16 · The example of the statements of layer 16, as data · The example of the statements of layer 16: it returns true · The statements' bound on steps (layer 4): Few. Conditions: those of the parts. -/
import Derived.Test.YtoknglpfchjbjaaGreatDoorReadI
import Derived.Test.YtoknglpfchjbjaaGreatDoorValues
import Derived.Deep.QuietTactic
import Derived.Test.YtoknglpfchjbjaaGreatDoorStp
/- The statements' ints of layer 16. Conditions: none. -/
namespace Go.Proofs.YtoknglpfchjbjaaGreatDoor
open Go.RowKit Go.Sp Go.Maps

def Is16 (b : Bool) (w : World) (e : Ending) (w' : World) : Prop := e = .returned (.bool b) ∧ Below w.heap.size w w'

theorem take_next16 {xs ys : List Int} {k : Nat} (hx : k < xs.length) (hy : k < ys.length) (h : xs.take k = ys.take k) (he : xs[k] = ys[k]) : xs.take (k + 1) = ys.take (k + 1) := by
  rw [List.take_succ_eq_append_getElem hx, List.take_succ_eq_append_getElem hy, h, he]

set_option maxRecDepth 100000 in
set_option maxHeartbeats 1000000 in
theorem ints16_any (F G : Nat → Prop) (a b : Option Addr) (ca cb : Nat) (xs ys : List Int) (w : World) (hx : Sl (Shape.int .i64) F w a xs) (hy : Sl (Shape.int .i64) G w b ys) (hF : ∀ k, F k → k < w.heap.size) (hG : ∀ k, G k → k < w.heap.size) (hxl : xs.length ≤ 100000) (hyl : ys.length ≤ 100000) :
    Calls Tryz.prog 16 #[.slice a xs.length ca, .slice b ys.length cb] w (Is16 (decide (xs = ys)) w) := by
  have HX := Sp.hid hx
  have HY := Sp.hid hy
  have HF := Sp.hid hF
  have HG := Sp.hid hG
  clear hx hy hF hG
  by_cases hl : xs.length = ys.length
  · have hne : ((xs.length : Int) != (ys.length : Int)) = false := by rw [bne_eq_false_iff_eq]; omega
    have HL := Sp.hid hl
    clear hl
    go_enter Tryz.func16, Tryz.ntmps16
    go_wp2
    go_loopw [5] (fun i wr => ∃ k : Nat, k ≤ xs.length ∧ i = .int .i64 k ∧ xs.take k = ys.take k ∧ Below w.heap.size w wr) (fun i _ => xs.length - (intOf i).toNat)
    case atStart => exact ⟨0, by omega, rfl, rfl, Below.refl _ _⟩
    case round =>
      obtain ⟨k, hk, rfl, ht, hb⟩ := hrel
      have HT := Sp.hid ht
      have HB := Sp.hid hb
      clear ht hb
      by_cases hlt : k < xs.length
      · have hlt2 : k < ys.length := by rw [← HL.out]; exact hlt
        obtain ⟨b1, o1, rfl, f1, e1⟩ := HX.out.int_cell k hlt
        obtain ⟨b2, o2, rfl, f2, e2⟩ := HY.out.int_cell k hlt2
        have c1 : wr.cell? ⟨b1, o1 + k, none⟩ = some (.int .i64 xs[k]) := by rw [HB.out.cell (p := ⟨b1, _, none⟩) (HF.out _ f1)]; exact e1
        have c2 : wr.cell? ⟨b2, o2 + k, none⟩ = some (.int .i64 ys[k]) := by rw [HB.out.cell (p := ⟨b2, _, none⟩) (HG.out _ f2)]; exact e2
        have hi0 : ((k : Int) < (xs.length : Int)) := by omega
        have hk0 : ((k : Int) < (ys.length : Int)) := by omega
        clear e1 e2
        cases hne2 : (xs[k] != ys[k])
        · have heq : xs[k] = ys[k] := by simpa using hne2
          have HE := Sp.hid heq
          clear heq
          go_wp2_with fail
          go_quiet (fail)
          go_wp2
          go_roundw
          case rel => exact ⟨k + 1, by omega, by go_num, take_next16 hlt hlt2 HT.out HE.out, below_drewN HB.out _⟩
          case measure => simp [intOf]; omega
        · have hneq : ¬ xs = ys := by intro e; subst e; simp at hne2
          have HN := Sp.hid hneq
          clear hneq
          go_wp2_with fail
          go_quiet (fail)
          go_wp2
          go_ret
          exact ⟨by rw [decide_eq_false HN.out]; rfl, below_drewN HB.out _⟩
      · obtain rfl : k = xs.length := by omega
        have heq : xs = ys := by
          have := HT.out
          rw [List.take_length] at this
          rw [this, HL.out, List.take_length]
        have HE := Sp.hid heq
        clear heq
        go_wp2
        go_ret
        exact ⟨by rw [decide_eq_true HE.out]; rfl, HB.out⟩
  · have hne : ((xs.length : Int) != (ys.length : Int)) = true := by rw [bne_iff_ne]; omega
    have hneq : ¬ xs = ys := by intro e; subst e; exact hl rfl
    have HN := Sp.hid hneq
    clear hneq hl
    go_enter Tryz.func16, Tryz.ntmps16
    go_wp2
    go_ret
    exact ⟨by rw [decide_eq_false HN.out]; rfl, Below.refl _ _⟩


end Go.Proofs.YtoknglpfchjbjaaGreatDoor

/- The example of the statements of layer 16, as data. Plain. Conditions: none. -/
namespace Go.Proofs.YtoknglpfchjbjaaGreatDoor
open Go.RowKit Go.Sp Go.Maps

abbrev awId : ByteArray := ⟨#[105, 100]⟩
abbrev awBook : ByteArray := ⟨#[98, 111, 111, 107]⟩
abbrev awTitle : ByteArray := ⟨#[116, 105, 116, 108, 101]⟩
abbrev awLib : ByteArray := ⟨#[108, 105, 98]⟩
abbrev awX : TT := .mk ⟨#[]⟩ ⟨#[120]⟩ [] []
abbrev awTi : TT := .mk awTitle ⟨#[]⟩ [] [awX]
abbrev awT1 : TT := .mk awBook ⟨#[]⟩ [(awId, ⟨#[49]⟩)] []
abbrev awT2 : TT := .mk awBook ⟨#[]⟩ [(awId, ⟨#[50]⟩)] [awTi]
abbrev awT : TT := .mk awLib ⟨#[]⟩ [] [awT1, awT2]
abbrev awText : ByteArray := ⟨#[98, 111, 111, 107, 91, 64, 105, 100, 61, 34, 50, 34, 93, 47, 116, 105, 116, 108, 101]⟩
abbrev awSteps : List StepM := [⟨false, awBook, [⟨awId, ⟨#[50]⟩, 0⟩]⟩, ⟨false, awTitle, []⟩]

/-- Plain letters are a text. -/
theorem text_plain {s : ByteArray} (h : (bytesOf s).all (fun x => decide (x < 128) && isChar x) = true) : textB s = true := by
  refine textB_yes ⟨bytesOf s, ?_⟩
  have e : ∀ l : List Int, l.all (fun x => decide (x < 128) && isChar x) = true → l.flatMap encM = l ∧ l.all isChar = true := by
    intro l
    induction l with
    | nil => exact fun _ => ⟨rfl, rfl⟩
    | cons x l ih =>
      intro h
      simp only [List.all_cons, Bool.and_eq_true, decide_eq_true_eq] at h
      obtain ⟨h1, h2⟩ := ih h.2
      refine ⟨?_, by simp only [List.all_cons, h.1.2, h2, Bool.and_self]⟩
      rw [List.flatMap_cons, h1]
      unfold encM
      rw [if_pos h.1.1]; rfl
  obtain ⟨h1, h2⟩ := e _ h
  have := chars_enc h2
  rw [h1] at this
  exact this
theorem text_none : textB ⟨#[]⟩ = true := text_plain (by decide)
theorem text_x : textB ⟨#[120]⟩ = true := text_plain (by decide)
theorem text_1 : textB ⟨#[49]⟩ = true := text_plain (by decide)
theorem text_2 : textB ⟨#[50]⟩ = true := text_plain (by decide)

theorem aw_pcheck : pcheckM awSteps = 0 := by
  unfold pcheckM
  rw [if_neg (by decide), if_neg (by rw [show formedM awSteps = true by kernel_rfl]; decide), if_neg (by rw [show (awSteps.any fun s => !namedS s) = false by kernel_rfl]; decide), if_neg ?_]
  simp [writtenS, text_2]
theorem aw_parse : parseM awText = .ok awSteps := by
  rw [parseM_some (l := awSteps) (by decide) (by rw [if_neg (by decide)]; rfl), if_pos aw_pcheck]
abbrev awAll : List TT := [awT, awT1, awT2, awTi, awX]
theorem aw_f0 : (awAll.all fun T => !fault1B T.label T.text T.attrs.length T.kids.length) = true := by kernel_rfl
theorem aw_f1 : (awAll.all fun T => !fault2B T.label T.attrs) = true := by kernel_rfl
theorem aw_f3 : (awAll.all fun T => !(T.label.toList.isEmpty && T.text.toList.isEmpty)) = true := by kernel_rfl
theorem aw_f4 : (awAll.all fun T => rises T.attrs) = true := by kernel_rfl
theorem aw_f5 : (awAll.all fun T => apartT T.kids) = true := by kernel_rfl
theorem aw_check : checkM 4 awT = 0 := by
  unfold checkM
  rw [if_pos ⟨by kernel_rfl, by rw [show nodesM 4 awT = awAll from rfl]; decide⟩]
  refine firstFault_none fun p hp T hT => ?_
  rw [show nodesM 4 awT = awAll from rfl] at hT
  have hp' : p = 0 ∨ p = 1 ∨ p = 2 ∨ p = 3 ∨ p = 4 ∨ p = 5 := by omega
  rcases hp' with rfl | rfl | rfl | rfl | rfl | rfl
  · have := List.all_eq_true.1 aw_f0 T hT; simpa [faultB] using this
  · have := List.all_eq_true.1 aw_f1 T hT; simpa [faultB] using this
  · have hT' : T = awT ∨ T = awT1 ∨ T = awT2 ∨ T = awTi ∨ T = awX := by simpa using hT
    rcases hT' with rfl | rfl | rfl | rfl | rfl <;> simp [faultB, fault3B, TT.text, TT.attrs, text_none, text_x, text_1, text_2]
  · have := List.all_eq_true.1 aw_f3 T hT; rw [Bool.not_eq_true'] at this; exact this
  · have := List.all_eq_true.1 aw_f4 T hT; simpa [faultB] using this
  · have := List.all_eq_true.1 aw_f5 T hT; simpa [faultB] using this
theorem aw_lead : leadM awSteps ([], awT) = [([1, 0], ⟨#[]⟩)] := by kernel_rfl
theorem aw_vals : valuesM 4 awT [([1, 0], ⟨#[]⟩)] = [⟨#[120]⟩] := by kernel_rfl

end Go.Proofs.YtoknglpfchjbjaaGreatDoor

/- The example of the statements of layer 16: it returns true. Conditions: the table of spans as laid. -/
namespace Go.Proofs.YtoknglpfchjbjaaGreatDoor
open Go.RowKit Go.Sp Go.Maps

theorem cellsAt_of {W : World} {b o : Nat} {vs : List Value} {arr : Array Value} {t : TypeId} (h : W.heap[b]? = some (.cells arr t (0, 0))) (hv : ∀ j, j < vs.length → arr[o + j]? = vs[j]?) : CellsAt W b o vs := fun j hj => by
  rw [cell_at h (o + j), hv j hj, List.getElem?_eq_getElem hj]

def awA (v : ByteArray) : Obj := .cells #[.string awId, .string v] 72
def awK2 : Obj := .cells #[.string ⟨#[]⟩, .string ⟨#[120]⟩, .slice none 0 0, .slice none 0 0] 29
def awK3 (n : Nat) : Obj := .cells #[.string awTitle, .string ⟨#[]⟩, .slice none 0 0, .slice (some ⟨n + 1 + 1, 0, none⟩) 1 1] 29
def awK4 (n : Nat) : Obj := .cells #[.string awBook, .string ⟨#[]⟩, .slice (some ⟨n, 0, none⟩) 1 1, .slice none 0 0, .string awBook, .string ⟨#[]⟩, .slice (some ⟨n + 1, 0, none⟩) 1 1, .slice (some ⟨n + 1 + 1 + 1, 0, none⟩) 1 1] 29
structure AwAt (n : Nat) (W : World) : Prop where
  a0 : W.heap[n]? = some (awA ⟨#[49]⟩)
  a1 : W.heap[n + 1]? = some (awA ⟨#[50]⟩)
  k2 : W.heap[n + 1 + 1]? = some awK2
  k3 : W.heap[n + 1 + 1 + 1]? = some (awK3 n)
  k4 : W.heap[n + 1 + 1 + 1 + 1]? = some (awK4 n)

theorem aw_bd (T : TT) (h : T = awT ∨ T = awT1 ∨ T = awT2 ∨ T = awTi ∨ T = awX) : T.label.size ≤ maxLen ∧ T.text.size ≤ maxLen ∧ T.attrs.length ≤ 1048576 ∧ T.kids.length ≤ maxLen := by
  rcases h with rfl | rfl | rfl | rfl | rfl <;> decide
theorem aw_ba : awId.size ≤ maxLen ∧ (⟨#[49]⟩ : ByteArray).size ≤ maxLen ∧ (⟨#[50]⟩ : ByteArray).size ≤ maxLen := by decide
theorem four {j : Nat} (h : j < 4) : j = 0 ∨ j = 1 ∨ j = 2 ∨ j = 3 := by omega
theorem AwAt.rep {n : Nat} {W : World} (h : AwAt n W) : (treeS 4).rep (fun b => b < n + 5) W [.string awLib, .string ⟨#[]⟩, .slice none 0 0, .slice (some ⟨n + 1 + 1 + 1 + 1, 0, none⟩) 2 2] awT := by
  have sA0 : Sl attrS (fun b => b < n + 5) W (some ⟨n, 0, none⟩) [(awId, ⟨#[49]⟩)] := fun i hi => by
    obtain rfl : i = 0 := by simpa using hi
    refine ⟨n, 0, [.string awId, .string ⟨#[49]⟩], rfl, by omega, ⟨rfl, aw_ba.1, aw_ba.2.1⟩, cellsAt_of h.a0 fun j hj => ?_⟩
    have : j = 0 ∨ j = 1 := by simp at hj; omega
    rcases this with rfl | rfl <;> rfl
  have sA1 : Sl attrS (fun b => b < n + 5) W (some ⟨n + 1, 0, none⟩) [(awId, ⟨#[50]⟩)] := fun i hi => by
    obtain rfl : i = 0 := by simpa using hi
    refine ⟨n + 1, 0, [.string awId, .string ⟨#[50]⟩], rfl, by omega, ⟨rfl, aw_ba.1, aw_ba.2.2⟩, cellsAt_of h.a1 fun j hj => ?_⟩
    have : j = 0 ∨ j = 1 := by simp at hj; omega
    rcases this with rfl | rfl <;> rfl
  have sX : Sl (treeS 1) (fun b => b < n + 5) W (some ⟨n + 1 + 1, 0, none⟩) [awX] := fun i hi => by
    obtain rfl : i = 0 := by simpa using hi
    refine ⟨n + 1 + 1, 0, [.string ⟨#[]⟩, .string ⟨#[120]⟩, .slice none 0 0, .slice none 0 0], rfl, by omega, ⟨aw_bd awX (by simp), none, 0, none, 0, rfl, Sl.nil, Sl.nil⟩, cellsAt_of h.k2 fun j hj => ?_⟩
    rcases four hj with rfl | rfl | rfl | rfl <;> rfl
  have sTi : Sl (treeS 2) (fun b => b < n + 5) W (some ⟨n + 1 + 1 + 1, 0, none⟩) [awTi] := fun i hi => by
    obtain rfl : i = 0 := by simpa using hi
    refine ⟨n + 1 + 1 + 1, 0, [.string awTitle, .string ⟨#[]⟩, .slice none 0 0, .slice (some ⟨n + 1 + 1, 0, none⟩) 1 1], rfl, by omega, ⟨aw_bd awTi (by simp), none, 0, some ⟨n + 1 + 1, 0, none⟩, 1, rfl, Sl.nil, sX⟩, cellsAt_of h.k3 fun j hj => ?_⟩
    rcases four hj with rfl | rfl | rfl | rfl <;> rfl
  have sB : Sl (treeS 3) (fun b => b < n + 5) W (some ⟨n + 1 + 1 + 1 + 1, 0, none⟩) [awT1, awT2] := fun i hi => by
    have : i = 0 ∨ i = 1 := by simp at hi; omega
    rcases this with rfl | rfl
    · refine ⟨n + 1 + 1 + 1 + 1, 0, [.string awBook, .string ⟨#[]⟩, .slice (some ⟨n, 0, none⟩) 1 1, .slice none 0 0], rfl, by omega, ⟨aw_bd awT1 (by simp), some ⟨n, 0, none⟩, 1, none, 0, rfl, sA0, Sl.nil⟩, cellsAt_of h.k4 fun j hj => ?_⟩
      rcases four hj with rfl | rfl | rfl | rfl <;> rfl
    · refine ⟨n + 1 + 1 + 1 + 1, 0, [.string awBook, .string ⟨#[]⟩, .slice (some ⟨n + 1, 0, none⟩) 1 1, .slice (some ⟨n + 1 + 1 + 1, 0, none⟩) 1 1], rfl, by omega, ⟨aw_bd awT2 (by simp), some ⟨n + 1, 0, none⟩, 1, some ⟨n + 1 + 1 + 1, 0, none⟩, 1, rfl, sA1, sTi⟩, cellsAt_of h.k4 fun j hj => ?_⟩
      rcases four hj with rfl | rfl | rfl | rfl <;> rfl
  exact ⟨aw_bd awT (.inl rfl), none, 0, some ⟨n + 1 + 1 + 1 + 1, 0, none⟩, 2, rfl, Sl.nil, sB⟩
theorem AwAt.node {n n₀ : Nat} {W : World} (h : AwAt n W) (hn : n + 5 ≤ n₀) : NodeAt n₀ 4 W #[.string awLib, .string ⟨#[]⟩, .slice none 0 0, .slice (some ⟨n + 1 + 1 + 1 + 1, 0, none⟩) 2 2] awT :=
  ⟨none, 0, some ⟨n + 1 + 1 + 1 + 1, 0, none⟩, 2, rfl, (treeS 4).mono h.rep fun k hk => by omega⟩
theorem AwAt.below {n : Nat} {W W' : World} (h : AwAt n W) (hb : Below W.heap.size W W') : AwAt n W' := by
  have hl := (Array.getElem?_eq_some_iff.1 h.k4).1
  exact ⟨(hb.block _ (by omega)).trans h.a0, (hb.block _ (by omega)).trans h.a1, (hb.block _ (by omega)).trans h.k2, (hb.block _ (by omega)).trans h.k3, (hb.block _ (by omega)).trans h.k4⟩

theorem alloc_new' (w : World) (o : Obj) (k : Nat) (hk : k = w.heap.size) : (w.alloc o).heap[k]? = some o := by subst hk; exact World.alloc_heap_new _ _
theorem alloc_old (w : World) (o : Obj) (k : Nat) (hk : k < w.heap.size) : (w.alloc o).heap[k]? = w.heap[k]? := Below.heap_alloc _ _ _ hk
theorem alloc_size (w : World) (o : Obj) : (w.alloc o).heap.size = w.heap.size + 1 := by simp

def awRoot (n : Nat) : Obj := .cells #[.string awLib, .string ⟨#[]⟩, .slice none 0 0, .slice (some ⟨n + 1 + 1 + 1 + 1, 0, none⟩) 2 2] 29
abbrev awRootV (n : Nat) : Value := .agg #[.string awLib, .string ⟨#[]⟩, .slice none 0 0, .slice (some ⟨n + 1 + 1 + 1 + 1, 0, none⟩) 2 2]

theorem aw_texts : ∀ t ∈ nodesM 4 awT, t.text.size ≤ 1048576 := by
  intro t ht
  rw [show nodesM 4 awT = awAll from rfl] at ht
  have hT' : t = awT ∨ t = awT1 ∨ t = awT2 ∨ t = awTi ∨ t = awX := by simpa using ht
  rcases hT' with rfl | rfl | rfl | rfl | rfl <;> decide

theorem aw_select (n : Nat) (W : World) (h : AwAt n W) (la : Option Addr) (lc : Nat) (hl : Sl pstepS (fun b => b < W.heap.size) W la awSteps) (hc : 2 ≤ lc) (hsp : SpansAt W) (hn : n + 5 ≤ W.heap.size) :
    Calls Tryz.prog 9 #[awRootV n, .agg #[.slice la 2 lc]] W fun e W' => Below W.heap.size W W' ∧ ∃ a c, e = .returned (.tuple #[.slice a 1 c, .int .i64 0]) ∧ Sl hitS (fun b => b < W'.heap.size) W' a [([1, 0], ⟨#[]⟩)] := by
  refine (select_any 4 (by decide) W.heap.size _ awT awSteps la lc W (h.node hn) hl (Nat.le_refl _) hc (by decide) hsp).mono ?_
  rintro e W' ⟨hb, ⟨h1, _⟩ | ⟨_, h1, _⟩ | ⟨_, _, a, c, rfl, hs⟩⟩
  · exact absurd aw_check h1
  · exact absurd aw_pcheck h1
  · rw [aw_lead] at hs
    exact ⟨hb, a, c, by rw [aw_lead]; rfl, hs⟩
theorem aw_values (n : Nat) (W : World) (h : AwAt n W) (la : Option Addr) (lc : Nat) (hl : Sl pstepS (fun b => b < W.heap.size) W la awSteps) (hc : 2 ≤ lc) (hsp : SpansAt W) (hn : n + 5 ≤ W.heap.size) :
    Calls Tryz.prog 10 #[awRootV n, .agg #[.slice la 2 lc]] W fun e W' => Below W.heap.size W W' ∧ ∃ g c, e = .returned (.tuple #[.slice (some ⟨g, 0, none⟩) 1 c, .int .i64 0]) ∧ W'.cell? ⟨g, 0, none⟩ = some (.string ⟨#[120]⟩) ∧ g < W'.heap.size := by
  refine (values_any 4 (by decide) W.heap.size _ awT awSteps la lc W (h.node hn) hl (Nat.le_refl _) hc (by decide) hsp (fun _ => aw_texts)).mono ?_
  rintro e W' ⟨hb, ⟨h1, _⟩ | ⟨_, h1, _⟩ | ⟨_, _, v, rfl, hs⟩⟩
  · exact absurd aw_check h1
  · exact absurd aw_pcheck h1
  · rw [aw_lead, aw_vals] at hs
    obtain ⟨g, cap, rfl⟩ := Joins.ownsRow_form hs (Nat.succ_pos _)
    have := hs.cells (g := g) rfl 0 (.string ⟨#[120]⟩) rfl
    have hadd : (⟨g, 0, none⟩ : Addr).add 0 = ⟨g, 0, none⟩ := by unfold Addr.add; split <;> simp_all
    rw [hadd] at this
    exact ⟨hb, g, cap, rfl, this, (hs.lt g rfl).2⟩

set_option maxRecDepth 100000 in
set_option maxHeartbeats 2000000 in
theorem awake16_any (w : World) (hsp : SpansAt w) : Calls Tryz.prog 8 #[] w (Is16 true w) := by
  obtain ⟨w6, hw6⟩ : ∃ w6, w6 = ((((((w.alloc (awA ⟨#[49]⟩)).alloc (awA ⟨#[50]⟩)).alloc awK2).alloc (awK3 w.heap.size)).alloc (awK4 w.heap.size)).alloc (awRoot w.heap.size)) := ⟨_, rfl⟩
  have hs6 : w6.heap.size = w.heap.size + 6 := by rw [hw6]; simp
  have hb6 : Below w.heap.size w w6 := by
    rw [hw6]
    exact ((((((Below.refl _ _).alloc (Nat.le_refl _) _).alloc (by simp) _).alloc (by simp; omega) _).alloc (by simp; omega) _).alloc (by simp; omega) _).alloc (by simp; omega) _
  have haw : AwAt w.heap.size w6 := by
    refine ⟨?_, ?_, ?_, ?_, ?_⟩ <;> rw [hw6]
    · iterate 5 (refine (alloc_old _ _ _ (by simp only [alloc_size]; omega)).trans ?_)
      exact alloc_new' _ _ _ (by simp only [alloc_size])
    · iterate 4 (refine (alloc_old _ _ _ (by simp only [alloc_size]; omega)).trans ?_)
      exact alloc_new' _ _ _ (by simp only [alloc_size])
    · iterate 3 (refine (alloc_old _ _ _ (by simp only [alloc_size]; omega)).trans ?_)
      exact alloc_new' _ _ _ (by simp only [alloc_size])
    · iterate 2 (refine (alloc_old _ _ _ (by simp only [alloc_size]; omega)).trans ?_)
      exact alloc_new' _ _ _ (by simp only [alloc_size])
    · iterate 1 (refine (alloc_old _ _ _ (by simp only [alloc_size]; omega)).trans ?_)
      exact alloc_new' _ _ _ (by simp only [alloc_size])
  have hroot : w6.heap[w.heap.size + 1 + 1 + 1 + 1 + 1]? = some (awRoot w.heap.size) := by rw [hw6]; exact alloc_new' _ _ _ (by simp only [alloc_size])
  have HPA := Sp.hid (parse_any awText w6 (hsp.below hb6 (Nat.le_refl _)))
  unfold awA awK2 awK3 awK4 awRoot at hw6
  have HW6 := Sp.hid hw6
  have HB6 := Sp.hid hb6
  have HAW := Sp.hid haw
  have HROOT := Sp.hid hroot
  clear hw6 hb6 haw hroot
  go_enter Tryz.func8, Tryz.ntmps8
  go_wp2_with fail
  rw [← HW6.out]
  refine HPA.out.mono ?_
  rintro e w7 ⟨hb7, ⟨l, la, lc, hpm, hl6, rfl, hlc, hsl⟩ | ⟨er, hpm, _⟩⟩
  rotate_left
  · rw [aw_parse] at hpm; cases hpm
  rw [aw_parse] at hpm
  obtain rfl : awSteps = l := by injection hpm
  have hs7 := hb7.size
  obtain ⟨w8, hw8⟩ : ∃ w8, w8 = w7.alloc (.cells #[.slice la 2 lc] 25) := ⟨_, rfl⟩
  have hb8 : Below w7.heap.size w7 w8 := by rw [hw8]; exact (Below.refl _ _).alloc (Nat.le_refl _) _
  have hs8 : w8.heap.size = w7.heap.size + 1 := by rw [hw8]; simp
  have hb68 := hb7.trans (hb8.mono hs7)
  have haw8 := HAW.out.below hb68
  have hr8 := (hb68.block _ (by omega)).trans HROOT.out
  have hsl8 : Sl pstepS (fun b => b < w8.heap.size) w8 la awSteps := (hsl.frame fun b hb => hb8.block b hb.2).mono fun b hb => by have := hb.2; omega
  have hsp8 := hsp.below (HB6.out.trans (hb68.mono (by omega))) (Nat.le_refl _)
  have HSE := Sp.hid (aw_select w.heap.size w8 haw8 la lc hsl8 hlc hsp8 (by omega))
  have c0 : w7.cell? ⟨w.heap.size + 1 + 1 + 1 + 1 + 1, 0, none⟩ = _ := cell_at ((hb7.block _ (by omega)).trans HROOT.out) 0
  have c1 : w7.cell? ⟨w.heap.size + 1 + 1 + 1 + 1 + 1, 1, none⟩ = _ := cell_at ((hb7.block _ (by omega)).trans HROOT.out) 1
  have c2 : w7.cell? ⟨w.heap.size + 1 + 1 + 1 + 1 + 1, 2, none⟩ = _ := cell_at ((hb7.block _ (by omega)).trans HROOT.out) 2
  have c3 : w7.cell? ⟨w.heap.size + 1 + 1 + 1 + 1 + 1, 3, none⟩ = _ := cell_at ((hb7.block _ (by omega)).trans HROOT.out) 3
  have hlt7 : w.heap.size + 1 + 1 + 1 + 1 + 1 < w7.heap.size := by omega
  have HP8 := Sp.hid (show w8.heap[w7.heap.size]? = some (.cells #[.slice la 2 lc] 25 (0, 0)) by rw [hw8]; exact World.alloc_heap_new _ _)
  have HW8 := Sp.hid hw8
  have HB8 := Sp.hid (HB6.out.trans (hb68.mono (by omega)) : Below w.heap.size w w8)
  have HAW8 := Sp.hid haw8
  have HR8 := Sp.hid hr8
  have HSL8 := Sp.hid hsl8
  have HSP8 := Sp.hid hsp8
  have HLC := Sp.hid (show 2 ≤ lc from hlc)
  clear hw8 hb8 hb68 haw8 hr8 hsl8 hsp8 hb7 hsl hpm hlc hl6 HW6 HPA
  go_wp2_with fail
  rw [← HW8.out]
  refine HSE.out.mono ?_
  rintro e w9 ⟨hb9, ha, hc, rfl, hhits⟩
  have hs9 := hb9.size
  have haw9 := HAW8.out.below hb9
  have hr9 := (hb9.block _ (by omega)).trans HR8.out
  have hp9 := (hb9.block _ (by omega)).trans HP8.out
  have hsl9 : Sl pstepS (fun b => b < w9.heap.size) w9 la awSteps := (HSL8.out.frame fun b hb => hb9.block b hb).mono fun b hb => by omega
  have HVA := Sp.hid (aw_values w.heap.size w9 haw9 la lc hsl9 HLC.out (hsp.below (HB8.out.trans (hb9.mono (by omega))) (Nat.le_refl _)) (by omega))
  clear c0 c1 c2 c3
  have c0 : w9.cell? ⟨w.heap.size + 1 + 1 + 1 + 1 + 1, 0, none⟩ = _ := cell_at hr9 0
  have c1 : w9.cell? ⟨w.heap.size + 1 + 1 + 1 + 1 + 1, 1, none⟩ = _ := cell_at hr9 1
  have c2 : w9.cell? ⟨w.heap.size + 1 + 1 + 1 + 1 + 1, 2, none⟩ = _ := cell_at hr9 2
  have c3 : w9.cell? ⟨w.heap.size + 1 + 1 + 1 + 1 + 1, 3, none⟩ = _ := cell_at hr9 3
  have p0 : w9.cell? ⟨w7.heap.size, 0, none⟩ = _ := cell_at hp9 0
  have HB9 := Sp.hid (HB8.out.trans (hb9.mono (by omega)) : Below w.heap.size w w9)
  have HH := Sp.hid hhits
  clear hb9 haw9 hr9 hp9 hsl9 hhits HSE
  go_wp2_with fail
  refine HVA.out.mono ?_
  rintro e w10 ⟨hb10, vg, vc, rfl, hvx, hvl⟩
  have hs10 := hb10.size
  obtain ⟨hb_, ho_, ia, ic, rfl, fhb, hints, q0, _⟩ := hit_cells HH.out 0 (by decide)
  simp only [List.getElem_cons_zero, List.length_cons, List.length_nil, Nat.reduceAdd, Nat.zero_mul, Nat.add_zero] at q0 hints
  have q10 : w10.cell? ⟨hb_, ho_, none⟩ = some (.slice ia 2 ic) := (hb10.cell (p := ⟨hb_, ho_, none⟩) fhb).trans q0
  have hbl : hb_ < w10.heap.size := by have : hb_ < w9.heap.size := fhb; omega
  have hi10 : Sl (Shape.int .i64) (fun b => b < w10.heap.size) w10 ia [1, 0] := (hints.frame fun b hb => hb10.block b hb).mono fun b hb => by have : b < w9.heap.size := hb; omega
  obtain ⟨w11, hw11⟩ : ∃ w11, w11 = w10.alloc (.cells #[.int .i64 1, .int .i64 0] 3) := ⟨_, rfl⟩
  have hb11 : Below w10.heap.size w10 w11 := by rw [hw11]; exact (Below.refl _ _).alloc (Nat.le_refl _) _
  have hs11 : w11.heap.size = w10.heap.size + 1 := by rw [hw11]; simp
  have hn11 : w11.heap[w10.heap.size]? = some (.cells #[.int .i64 1, .int .i64 0] 3 (0, 0)) := by rw [hw11]; exact World.alloc_heap_new _ _
  have hy : Sl (Shape.int .i64) (fun b => b < w11.heap.size) w11 (some ⟨w10.heap.size, 0, none⟩) [1, 0] := fun i hi => by
    have : i = 0 ∨ i = 1 := by simp at hi; omega
    rcases this with rfl | rfl
    · exact ⟨w10.heap.size, 0, [.int .i64 1], rfl, by omega, rfl, cellsAt_of hn11 fun j hj => by obtain rfl : j = 0 := (by simpa using hj); rfl⟩
    · exact ⟨w10.heap.size, 0, [.int .i64 0], rfl, by omega, rfl, cellsAt_of hn11 fun j hj => by obtain rfl : j = 0 := (by simpa using hj); rfl⟩
  have hx11 : Sl (Shape.int .i64) (fun b => b < w11.heap.size) w11 ia [1, 0] := (hi10.frame fun b hb => hb11.block b hb).mono fun b hb => by have : b < w10.heap.size := hb; omega
  have hin : Calls Tryz.prog 16 #[.slice ia 2 ic, .slice (some ⟨w10.heap.size, 0, none⟩) 2 2] w11 fun e w' => e = .returned (.bool true) ∧ Below w11.heap.size w11 w' := (ints16_any (fun b => b < w11.heap.size) (fun b => b < w11.heap.size) ia (some ⟨w10.heap.size, 0, none⟩) ic 2 [1, 0] [1, 0] w11 hx11 hy (fun k h => h) (fun k h => h) (by decide) (by decide)).mono (by rintro e w' ⟨rfl, hb⟩; exact ⟨by simp, hb⟩)
  have HIN := Sp.hid hin
  have HW11 := Sp.hid hw11
  have HB11 := Sp.hid (HB9.out.trans ((hb10.mono (by omega)).trans (hb11.mono (by omega))) : Below w.heap.size w w11)
  have HVX := Sp.hid ((hb11.cell (p := ⟨vg, 0, none⟩) hvl).trans hvx)
  clear hin hw11 hb11 hn11 hy hx11 hi10 hb10 hints q0 c0 c1 c2 c3 p0 HVA HH hvx fhb
  go_wp2_with fail
  rw [← HW11.out]
  refine HIN.out.mono ?_
  rintro e w12 ⟨rfl, hb12⟩
  have v0 : w12.cell? ⟨vg, 0, none⟩ = some (.string ⟨#[120]⟩) := (hb12.cell (p := ⟨vg, 0, none⟩) (by show vg < _; omega)).trans HVX.out
  have HB12 := Sp.hid (HB11.out.trans (hb12.mono (by omega)) : Below w.heap.size w w12)
  clear hb12 HIN HW11 q10
  go_wp2
  go_ret
  exact ⟨rfl, HB12.out⟩

end Go.Proofs.YtoknglpfchjbjaaGreatDoor

/- The statements' bound on steps (layer 4): Few. Conditions: none. -/
namespace Go.Proofs.YtoknglpfchjbjaaGreatDoor
open Go.RowKit Go.Sp Go.Maps

def FewIs (xs : List Stp) : Prop := xs.length ≤ 60 ∧ ∀ x ∈ xs, x.name.size ≤ 100 ∧ x.text.size ≤ 100

def FewPost (xs : List Stp) (w : World) (e : Ending) (w' : World) : Prop := ∃ b, e = .returned (.bool b) ∧ (b = true → FewIs xs) ∧ w = w'

set_option maxRecDepth 100000 in
set_option maxHeartbeats 2000000 in
theorem few_any (F : Nat → Prop) (a : Option Addr) (cap : Nat) (xs : List Stp) (w : World) (hxs : Sl stpS F w a xs) (hlen : xs.length ≤ 9223372036854775807) :
    Calls Tryz.prog 6 #[.slice a xs.length cap] w (FewPost xs w) := by
  have HX := Sp.hid hxs
  clear hxs
  go_enter Tryz.func6, Tryz.ntmps6
  go_wp2
  go_loop [3] (fun i => ∃ k : Nat, k ≤ xs.length ∧ i = .int .i64 k ∧ ∀ x ∈ xs.take k, x.name.size ≤ 100 ∧ x.text.size ≤ 100) (fun i => xs.length - (intOf i).toNat)
  case atStart => exact ⟨0, by omega, rfl, by simp⟩
  case round =>
    obtain ⟨k, hk, rfl, hall⟩ := hrel
    have HALL := Sp.hid hall
    clear hall
    by_cases hlt : k < xs.length
    · obtain ⟨b, o, rfl, _, hn1, hn2, c0, c1, c2⟩ := stp_cells HX.out k hlt
      obtain ⟨x, hx⟩ : ∃ x, x = xs[k] := ⟨_, rfl⟩
      rw [← hx] at c0 c1 c2
      have HTK := Sp.hid (show ∀ (h : x.name.size ≤ 100 ∧ x.text.size ≤ 100), ∀ y ∈ xs.take (k + 1), y.name.size ≤ 100 ∧ y.text.size ≤ 100 from fun h y hy => by
        rw [List.take_succ_eq_append_getElem hlt, List.mem_append] at hy
        rcases hy with hy | hy
        · exact HALL.out y hy
        · rw [List.mem_singleton.1 hy, ← hx]; exact h)
      clear hx hn1 hn2
      by_cases h1 : (100 : Int) < (x.name.size : Int)
      · go_wp2
        go_ret
        exact ⟨false, rfl, (fun h => by cases h), rfl⟩
      · by_cases h2 : (100 : Int) < (x.text.size : Int)
        · go_wp2
          go_ret
          exact ⟨false, rfl, (fun h => by cases h), rfl⟩
        · have HT2 := Sp.hid (HTK.out ⟨by omega, by omega⟩)
          go_wp2
          go_round
          case rel => exact ⟨k + 1, by omega, by go_num, HT2.out⟩
          case measure => simp [intOf]; omega
    · obtain rfl : k = xs.length := by omega
      go_wp2
      go_ret
      refine ⟨_, rfl, fun h => ⟨?_, fun x hx => HALL.out x (by rw [List.take_length]; exact hx)⟩, rfl⟩
      have := of_decide_eq_true h
      omega

end Go.Proofs.YtoknglpfchjbjaaGreatDoor
