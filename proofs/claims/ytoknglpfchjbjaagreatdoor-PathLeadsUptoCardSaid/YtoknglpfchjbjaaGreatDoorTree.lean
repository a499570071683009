/- Trees: as data, in memory, and what is told of them. Conditions: none. -/
import Derived.Test.YtoknglpfchjbjaaGreatDoorBase
import Derived.Sort.Walk0
namespace Go.Proofs.YtoknglpfchjbjaaGreatDoor
open Go.RowKit Go.Sp

inductive TT where
  | mk (label text : ByteArray) (attrs : List (ByteArray × ByteArray)) (kids : List TT)
def TT.label : TT → ByteArray | .mk l _ _ _ => l
def TT.text : TT → ByteArray | .mk _ t _ _ => t
def TT.attrs : TT → List (ByteArray × ByteArray) | .mk _ _ a _ => a
def TT.kids : TT → List TT | .mk _ _ _ k => k

def attrS : Shape (ByteArray × ByteArray) where
  sz := 2
  rep _ _ vs x := vs = [.string x.1, .string x.2] ∧ x.1.size ≤ maxLen ∧ x.2.size ≤ maxLen
  len := by rintro _ _ _ _ ⟨rfl, _⟩; rfl
  frame := by intro _ _ _ _ _ h _; exact h
  mono := by intro _ _ _ _ _ h _; exact h

/-- A tree of depth n at most. -/
def treeS : Nat → Shape TT
  | 0 => { sz := 4, rep := fun _ _ _ _ => False, len := fun h => h.elim, frame := fun h _ => h.elim, mono := fun h _ => h.elim }
  | n + 1 =>
    { sz := 4
      rep := fun F w vs T => (T.label.size ≤ maxLen ∧ T.text.size ≤ maxLen ∧ T.attrs.length ≤ 1048576 ∧ T.kids.length ≤ maxLen) ∧ ∃ aa ca ka ck, vs = [.string T.label, .string T.text, .slice aa T.attrs.length ca, .slice ka T.kids.length ck] ∧ Sl attrS F w aa T.attrs ∧ Sl (treeS n) F w ka T.kids
      len := by rintro F w vs T ⟨_, aa, ca, ka, ck, rfl, _, _⟩; rfl
      frame := by rintro F w w' vs T ⟨h1, aa, ca, ka, ck, rfl, h3, h4⟩ hw; exact ⟨h1, aa, ca, ka, ck, rfl, h3.frame hw, h4.frame hw⟩
      mono := by rintro F G w vs T ⟨h1, aa, ca, ka, ck, rfl, h3, h4⟩ hF; exact ⟨h1, aa, ca, ka, ck, rfl, h3.mono hF, h4.mono hF⟩ }

theorem treeS_sz (n : Nat) : (treeS n).sz = 4 := by cases n <;> rfl

theorem tree_open {n : Nat} {F : Nat → Prop} {w : World} {vs : List Value} {T : TT} (h : (treeS (n + 1)).rep F w vs T) :
    (T.label.size ≤ maxLen ∧ T.text.size ≤ maxLen ∧ T.attrs.length ≤ maxLen ∧ T.kids.length ≤ maxLen) ∧ ∃ aa ca ka ck, vs = [.string T.label, .string T.text, .slice aa T.attrs.length ca, .slice ka T.kids.length ck] ∧ Sl attrS F w aa T.attrs ∧ Sl (treeS n) F w ka T.kids := ⟨⟨h.1.1, h.1.2.1, Nat.le_trans h.1.2.2.1 (by decide), h.1.2.2.2⟩, h.2⟩
theorem tree_thin {n : Nat} {F : Nat → Prop} {w : World} {vs : List Value} {T : TT} (h : (treeS (n + 1)).rep F w vs T) : T.attrs.length ≤ 1048576 := h.1.2.2.1

theorem treeS_up : ∀ {n : Nat} {F : Nat → Prop} {w : World} {vs : List Value} {T : TT}, (treeS n).rep F w vs T → (treeS (n + 1)).rep F w vs T
  | 0, _, _, _, _, h => h.elim
  | n + 1, F, w, vs, T, h => by
    obtain ⟨h1, aa, ca, ka, ck, rfl, h3, h4⟩ := h
    refine ⟨h1, aa, ca, ka, ck, rfl, h3, fun i hi => ?_⟩
    obtain ⟨b, o, vs, e1, e2, e3, e4⟩ := h4 i hi
    rw [treeS_sz] at e4
    exact ⟨b, o, vs, e1, e2, treeS_up e3, by rw [treeS_sz]; exact e4⟩
theorem treeS_le {n m : Nat} (hnm : n ≤ m) {F : Nat → Prop} {w : World} {vs : List Value} {T : TT} (h : (treeS n).rep F w vs T) : (treeS m).rep F w vs T := by
  obtain ⟨k, rfl⟩ := Nat.exists_eq_add_of_le hnm
  clear hnm
  induction k with
  | zero => exact h
  | succ k ih => exact treeS_up ih

/-- A tree's cells in a row, one by one. -/
theorem tree_cells {n : Nat} {F : Nat → Prop} {w : World} {a : Option Addr} {Ts : List TT} (h : Sl (treeS n) F w a Ts) (i : Nat) (hi : i < Ts.length) :
    ∃ b o aa ca ka ck, a = some ⟨b, o, none⟩ ∧ F b ∧ (treeS n).rep F w [.string Ts[i].label, .string Ts[i].text, .slice aa Ts[i].attrs.length ca, .slice ka Ts[i].kids.length ck] Ts[i] ∧
      w.cell? ⟨b, o + i * 4, none⟩ = some (.string Ts[i].label) ∧ w.cell? ⟨b, o + i * 4 + 1, none⟩ = some (.string Ts[i].text) ∧
      w.cell? ⟨b, o + i * 4 + 2, none⟩ = some (.slice aa Ts[i].attrs.length ca) ∧ w.cell? ⟨b, o + i * 4 + 3, none⟩ = some (.slice ka Ts[i].kids.length ck) := by
  obtain ⟨b, o, vs, h1, h2, h3, h4⟩ := h i hi
  cases n with
  | zero => exact h3.elim
  | succ n =>
    obtain ⟨q1, aa, ca, ka, ck, rfl, q3, q4⟩ := tree_open h3
    rw [treeS_sz] at h4
    exact ⟨b, o, aa, ca, ka, ck, h1, h2, h3, h4 0 (by simp), h4 1 (by simp), h4 2 (by simp), h4 3 (by simp)⟩
theorem attr_cells {F : Nat → Prop} {w : World} {a : Option Addr} {xs : List (ByteArray × ByteArray)} (h : Sl attrS F w a xs) (i : Nat) (hi : i < xs.length) :
    ∃ b o, a = some ⟨b, o, none⟩ ∧ F b ∧ xs[i].1.size ≤ maxLen ∧ xs[i].2.size ≤ maxLen ∧ w.cell? ⟨b, o + i * 2, none⟩ = some (.string xs[i].1) ∧ w.cell? ⟨b, o + i * 2 + 1, none⟩ = some (.string xs[i].2) := by
  obtain ⟨b, o, vs, h1, h2, ⟨rfl, h3, h4⟩, h5⟩ := h i hi
  exact ⟨b, o, h1, h2, h3, h4, h5 0 (by simp), h5 1 (by simp)⟩

/-- All trees within a tree, in the order of the document. -/
def nodesM : Nat → TT → List TT
  | 0, _ => []
  | n + 1, T => T :: T.kids.flatMap (nodesM n)

/-- No deeper than that. -/
def shallow : Nat → TT → Bool
  | 0, _ => false
  | d + 1, T => T.kids.all (shallow d)
theorem shallow_iff {d : Nat} {T : TT} : shallow d T = true ↔ 0 < d ∧ ∀ k ∈ T.kids, shallow (d - 1) k = true := by
  cases d with
  | zero => simp [shallow]
  | succ d => simp [shallow]

/-- Names that rise. -/
def rises : List (ByteArray × ByteArray) → Bool
  | a :: b :: l => Op.bytesLess a.1.toList b.1.toList && rises (b :: l)
  | _ => true

theorem rises_lt : ∀ {l : List (ByteArray × ByteArray)} {a : ByteArray × ByteArray}, rises (a :: l) = true → ∀ x ∈ l, a.1.toList < x.1.toList
  | [], _, _, x, hx => by simp at hx
  | b :: l, a, h, x, hx => by
    simp only [rises, Bool.and_eq_true, bytesLess_eq, decide_eq_true_eq] at h
    rcases List.mem_cons.1 hx with rfl | hx
    · exact h.1
    · exact List.lt_trans h.1 (rises_lt h.2 x hx)
theorem rises_tail {l : List (ByteArray × ByteArray)} {a : ByteArray × ByteArray} (h : rises (a :: l) = true) : rises l = true := by
  cases l with
  | nil => rfl
  | cons b l => simp only [rises, Bool.and_eq_true] at h; exact h.2

end Go.Proofs.YtoknglpfchjbjaaGreatDoor
