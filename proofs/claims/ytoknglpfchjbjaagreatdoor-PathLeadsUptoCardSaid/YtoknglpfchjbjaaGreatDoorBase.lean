/- Shapes of data in memory, rows of cells, maps as functions, and small lists: general, no program in sight. Conditions: none. -/
import Derived.WalkKit
import Derived.WalkSpells
import Derived.WalkLawsBesides
import Derived.Maps.Keyed
import Derived.Maps.AppendAt
import Derived.Maps.OwnOps
import Derived.DeepKeys5
namespace Go.Sp
open Go.RowKit Go.Maps

theorem hid {p : Prop} (h : p) : Hid p := h

/-- A kind of data: how many cells, and which cells stand for which datum, in blocks of a footprint alone. -/
structure Shape (α : Type) where
  sz : Nat
  rep : (Nat → Prop) → World → List Value → α → Prop
  len : ∀ {F w vs x}, rep F w vs x → vs.length = sz
  frame : ∀ {F w w' vs x}, rep F w vs x → (∀ k, F k → w'.heap[k]? = w.heap[k]?) → rep F w' vs x
  mono : ∀ {F G : Nat → Prop} {w vs x}, rep F w vs x → (∀ k, F k → G k) → rep G w vs x

/-- Cells in a row. -/
def CellsAt (w : World) (b o : Nat) (vs : List Value) : Prop := ∀ i (h : i < vs.length), w.cell? ⟨b, o + i, none⟩ = some vs[i]

theorem CellsAt.frame {w w' : World} {b o : Nat} {vs : List Value} (h : CellsAt w b o vs) (hw : w'.heap[b]? = w.heap[b]?) : CellsAt w' b o vs :=
  fun i hi => (World.cell?_of_block (a := ⟨b, o + i, none⟩) hw).trans (h i hi)

/-- The elements behind a slice's address. -/
def Sl {α : Type} (S : Shape α) (F : Nat → Prop) (w : World) (a : Option Addr) (xs : List α) : Prop :=
  ∀ i (h : i < xs.length), ∃ b o vs, a = some ⟨b, o, none⟩ ∧ F b ∧ S.rep F w vs xs[i] ∧ CellsAt w b (o + i * S.sz) vs

section
variable {α : Type} {S : Shape α} {F G : Nat → Prop} {w w' : World} {a : Option Addr} {xs : List α}

theorem Sl.frame (h : Sl S F w a xs) (hw : ∀ k, F k → w'.heap[k]? = w.heap[k]?) : Sl S F w' a xs := fun i hi => by
  obtain ⟨b, o, vs, h1, h2, h3, h4⟩ := h i hi
  exact ⟨b, o, vs, h1, h2, S.frame h3 hw, h4.frame (hw b h2)⟩

theorem Sl.mono (h : Sl S F w a xs) (hF : ∀ k, F k → G k) : Sl S G w a xs := fun i hi => by
  obtain ⟨b, o, vs, h1, h2, h3, h4⟩ := h i hi
  exact ⟨b, o, vs, h1, hF b h2, S.mono h3 hF, h4⟩

theorem Sl.nil : Sl S F w a [] := fun _ hi => absurd hi (Nat.not_lt_zero _)

theorem Sl.tail {x : α} {b o : Nat} (h : Sl S F w (some ⟨b, o, none⟩) (x :: xs)) : Sl S F w (some ⟨b, o + S.sz, none⟩) xs := fun i hi => by
  obtain ⟨b', o', vs, h1, h2, h3, h4⟩ := h (i + 1) (by simp; omega)
  simp only [Option.some.injEq, Addr.mk.injEq, and_true] at h1
  obtain ⟨rfl, rfl⟩ := h1
  refine ⟨b, o + S.sz, vs, rfl, h2, by simpa using h3, ?_⟩
  have e : o + S.sz + i * S.sz = o + (i + 1) * S.sz := by rw [Nat.add_mul]; omega
  rw [e]; exact h4

theorem Sl.below {B : Nat} (h : Sl S F w a xs) (hF : ∀ k, F k → k < B) (hb : Below B w w') : Sl S F w' a xs := h.frame fun k hk => hb.block k (hF k hk)
end

/-- A slice of such data as one value. -/
def Shape.slice {α : Type} (S : Shape α) : Shape (List α) where
  sz := 1
  rep F w vs xs := ∃ a cap, vs = [.slice a xs.length cap] ∧ Sl S F w a xs
  len := by rintro F w vs x ⟨a, cap, rfl, _⟩; rfl
  frame := by rintro F w w' vs x ⟨a, cap, rfl, h⟩ hw; exact ⟨a, cap, rfl, h.frame hw⟩
  mono := by rintro F G w vs x ⟨a, cap, rfl, h⟩ hF; exact ⟨a, cap, rfl, h.mono hF⟩

def Shape.int (q : IntKind) : Shape Int where
  sz := 1
  rep _ _ vs x := vs = [.int q x]
  len := by rintro _ _ _ _ rfl; rfl
  frame := by intro _ _ _ _ _ h _; exact h
  mono := by intro _ _ _ _ _ h _; exact h

def Shape.str : Shape ByteArray where
  sz := 1
  rep _ _ vs x := vs = [.string x] ∧ x.size ≤ maxLen
  len := by rintro _ _ _ _ ⟨rfl, _⟩; rfl
  frame := by intro _ _ _ _ _ h _; exact h
  mono := by intro _ _ _ _ _ h _; exact h

def Shape.bool : Shape Bool where
  sz := 1
  rep _ _ vs x := vs = [.bool x]
  len := by rintro _ _ _ _ rfl; rfl
  frame := by intro _ _ _ _ _ h _; exact h
  mono := by intro _ _ _ _ _ h _; exact h

/-- One-cell elements: what stands where. -/
theorem Sl.int_cell {q : IntKind} {F : Nat → Prop} {w : World} {a : Option Addr} {xs : List Int} (h : Sl (Shape.int q) F w a xs) (i : Nat) (hi : i < xs.length) :
    ∃ b o, a = some ⟨b, o, none⟩ ∧ F b ∧ w.cell? ⟨b, o + i, none⟩ = some (.int q xs[i]) := by
  obtain ⟨b, o, vs, h1, h2, h3, h4⟩ := h i hi
  simp only [Shape.int] at h3 h4
  subst h3
  have := h4 0 (by simp)
  simp only [Nat.mul_one, Nat.add_zero] at this
  exact ⟨b, o, h1, h2, this⟩

/-- An owned row of one-cell integers, as a slice. -/
theorem own_ints {w : World} {base : Nat} {e : TypeId} {q : IntKind} {v : Value} {n : Nat} {xs : List Int} (h : w.ownsRow base e 1 v n (xs.map (Value.int q))) :
    ∃ a cap, v = .slice a n cap ∧ n = xs.length ∧ n ≤ cap ∧ cap ≤ maxLen ∧ (∀ x, a = some x → base ≤ x.block ∧ x.block < w.heap.size) ∧ Sl (Shape.int q) (fun b => base ≤ b ∧ b < w.heap.size) w a xs := by
  have hn : n = xs.length := by have := h.1; simp at this; omega
  rcases h.2 with ⟨rfl, h0⟩ | ⟨g, cap, cur, rfl, hg, hh, hc, hm, hs, ht⟩
  · refine ⟨none, 0, by rw [h0], hn, by omega, by simp [maxLen], by simp, ?_⟩
    have : xs = [] := List.length_eq_zero_iff.1 (by omega)
    subst this; exact Sl.nil
  · have hlt : g < w.heap.size := (Array.getElem?_eq_some_iff.1 hh).1
    refine ⟨some ⟨g, 0, none⟩, cap, rfl, hn, hc, hm, by intro x hx; cases hx; exact ⟨hg, hlt⟩, fun i hi => ⟨g, 0, [.int q xs[i]], rfl, ⟨hg, hlt⟩, rfl, ?_⟩⟩
    intro j hj
    have hj0 : j = 0 := by simpa using hj
    subst hj0
    have := h.cells (g := g) rfl i (.int q xs[i]) (by simp [hi])
    simp only [Shape.int, Nat.mul_one, Nat.add_zero, Nat.zero_add]
    have hadd : (⟨g, 0, none⟩ : Addr).add i = ⟨g, i, none⟩ := by unfold Addr.add; split <;> simp_all
    rw [hadd] at this
    simpa using this

/-! ### Maps as functions -/

/-- Block m is a map that holds f. -/
def MapIs (P : Program) (K : TypeId) (w : World) (m : Nat) (f : Value → Option Value) : Prop :=
  ∃ es clock, w.heap[m]? = some (.map es clock) ∧ (∀ e ∈ es.toList, ∃ l, keyOf P K e.key = some l) ∧ es.toList.Pairwise (fun x y => x.key ≠ y.key) ∧
    (∀ e ∈ es.toList, f e.key = some e.val) ∧ ∀ k v, f k = some v → ∃ e ∈ es.toList, e.key = k ∧ e.val = v

section
variable {P : Program} {K : TypeId} {w w' : World} {m : Nat} {f : Value → Option Value}

theorem MapIs.lt (h : MapIs P K w m f) : m < w.heap.size := by
  obtain ⟨es, clock, hb, _⟩ := h
  exact (Array.getElem?_eq_some_iff.1 hb).1

theorem MapIs.frame (h : MapIs P K w m f) (hw : w'.heap[m]? = w.heap[m]?) : MapIs P K w' m f := by
  obtain ⟨es, clock, hb, r⟩ := h
  exact ⟨es, clock, hw.trans hb, r⟩

theorem MapIs.made (w : World) : MapIs P K (w.alloc (.map #[] 0)) w.heap.size (fun _ => none) :=
  ⟨#[], 0, (MapKept.heap_alloc w _).1, by simp, by simp, by simp, by simp⟩

theorem MapIs.none (h : MapIs P K w m f) {k : Value} (hk : ∀ l, keyOf P K k ≠ some l) : f k = none := by
  obtain ⟨es, clock, hb, h1, h2, h3, h4⟩ := h
  cases hf : f k with
  | none => rfl
  | some v =>
    obtain ⟨e, he, rfl, rfl⟩ := h4 k v hf
    obtain ⟨l, hl⟩ := h1 e he
    exact absurd hl (hk l)

theorem MapIs.look (h : MapIs P K w m f) (L : Keyed P K) {t E : TypeId} (ht : P.underlying t = some (.map K E)) {z : Value} (hz : (zeroValue E).run P w = .ok z w) {k : Value} {l : Lit} (hk : keyOf P K k = some l) (ok : Bool) :
    (Instr.lookup t (.map (some m)) k ok).run P w = .ok (if ok then .tuple #[(f k).getD z, .bool (f k).isSome] else (f k).getD z) w := by
  obtain ⟨es, clock, hb, h1, h2, h3, h4⟩ := h
  rcases L.find w hk es.toList h1 with ⟨hr, hne⟩ | ⟨j, e, hr, he, hek⟩
  · have hf : f k = Option.none := by
      cases hf : f k with
      | none => rfl
      | some v =>
        obtain ⟨e, he, hek, _⟩ := h4 k v hf
        exact absurd hek (hne e he)
    cases ok <;> simp [Instr.lookup, run_underlying ht, MapKept.run_getObj_map hb, L.check w _ hk, hr, hz, hf, Result.andThen]
  · have hf : f k = some e.val := by rw [← hek]; exact h3 e (List.mem_of_getElem? he)
    cases ok <;> simp [Instr.lookup, run_underlying ht, MapKept.run_getObj_map hb, L.check w _ hk, hr, hf, Result.andThen]

open Classical in
/-- f with a value at a key. -/
noncomputable def upd (f : Value → Option Value) (k v : Value) : Value → Option Value := fun x => if x = k then some v else f x

theorem upd_same (f : Value → Option Value) (k v : Value) : upd f k v k = some v := by simp [upd]
theorem upd_other (f : Value → Option Value) {k x : Value} (v : Value) (h : x ≠ k) : upd f k v x = f x := by simp [upd, h]

theorem MapIs.store (h : MapIs P K w m f) (L : Keyed P K) {t E : TypeId} (ht : P.underlying t = some (.map K E)) {k v : Value} {l : Lit} (hk : keyOf P K k = some l) :
    ∃ w', (Instr.mapUpdate t (.map (some m)) k v).run P w = .ok () w' ∧ MapIs P K w' m (upd f k v) ∧ w.grownBy w' (some m) ∧ w'.heap.size = w.heap.size := by
  obtain ⟨es, clock, hb, h1, h2, h3, h4⟩ := h
  have grown : ∀ o, w.grownBy (ChangeMaps.setBlock w m o) (some m) := fun o => ⟨rfl, rfl, rfl, by simp [ChangeMaps.setBlock], fun i _ hi => ChangeMaps.heap_setBlock_other hb o (fun e1 => hi (by rw [e1]))⟩
  rcases L.find w hk es.toList h1 with ⟨hr, hne⟩ | ⟨j, e, hr, he, hek⟩
  · refine ⟨ChangeMaps.setBlock w m (.map (es.push ⟨k, v, clock⟩) (clock + 1)), ?_, ⟨_, _, ChangeMaps.heap_setBlock_same hb _, ?_, ?_, ?_, ?_⟩, grown _, by simp [ChangeMaps.setBlock]⟩
    · simp [Instr.mapUpdate, run_underlying ht, MapKept.run_getObj_map hb, L.check w false hk, hr, MapKept.run_setObj_map _ hb, Result.andThen, ChangeMaps.setBlock]
    · intro e he
      simp only [Array.toList_push, List.mem_append, List.mem_singleton] at he
      rcases he with he | rfl
      · exact h1 e he
      · exact ⟨l, hk⟩
    · rw [Array.toList_push, List.pairwise_append]
      exact ⟨h2, by simp, fun x hx y hy => by simp at hy; subst hy; exact hne x hx⟩
    · intro e he
      simp only [Array.toList_push, List.mem_append, List.mem_singleton] at he
      rcases he with he | rfl
      · rw [upd_other _ _ (hne e he)]; exact h3 e he
      · exact upd_same _ _ _
    · intro k' v' hf
      by_cases hkk : k' = k
      · subst hkk
        rw [upd_same] at hf
        exact ⟨⟨k', v, clock⟩, by simp, rfl, Option.some.inj hf⟩
      · rw [upd_other _ _ hkk] at hf
        obtain ⟨e, he, hek, hev⟩ := h4 k' v' hf
        exact ⟨e, by simp [he], hek, hev⟩
  · have hjlt : j < es.toList.length := (List.getElem?_eq_some_iff.1 he).1
    have hje : es.toList[j] = e := (List.getElem?_eq_some_iff.1 he).2
    have he' : es[j]? = some e := by simpa using he
    refine ⟨ChangeMaps.setBlock w m (.map (es.modify j fun e => { e with key := k, val := v }) clock), ?_, ⟨_, _, ChangeMaps.heap_setBlock_same hb _, ?_, ?_, ?_, ?_⟩, grown _, by simp [ChangeMaps.setBlock]⟩
    · have hst := L.stays w hk
      simp [Instr.mapUpdate, run_underlying ht, MapKept.run_getObj_map hb, L.check w false hk, hr, he', hek, hst, MapKept.run_setObj_map _ hb, Result.andThen, ChangeMaps.setBlock]
    all_goals
      have hl : (es.modify j fun e => { e with key := k, val := v }).toList = es.toList.set j { e with key := k, val := v } := by
        apply List.ext_getElem?
        intro i
        by_cases hij : j = i
        · subst hij
          have : j < es.size := by simpa using hjlt
          simp [this, hje]
        · simp [hij, List.getElem?_set_ne hij]
    · rw [hl]
      intro x hx
      rcases List.mem_or_eq_of_mem_set hx with hx | rfl
      · exact h1 x hx
      · exact ⟨l, hk⟩
    · rw [hl, List.pairwise_iff_getElem]
      rw [List.pairwise_iff_getElem] at h2
      intro a b ha hb' hab
      simp only [List.length_set] at ha hb'
      have hkey : ∀ (c : Nat) (hc : c < es.toList.length), ((es.toList.set j { e with key := k, val := v })[c]'(by simpa using hc)).key = es.toList[c].key := by
        intro c hc
        rw [List.getElem_set]
        split
        · rename_i hjc
          subst hjc
          rw [hje, hek]
        · rfl
      rw [hkey a ha, hkey b hb']
      exact h2 a b ha hb' hab
    · rw [hl]
      intro x hx
      by_cases hxk : x.key = k
      · obtain ⟨c, hc, rfl⟩ := List.getElem_of_mem hx
        simp only [List.length_set] at hc
        rw [List.getElem_set] at hxk ⊢
        split
        · exact upd_same _ _ _
        · rename_i hjc
          rw [if_neg hjc] at hxk
          rw [List.pairwise_iff_getElem] at h2
          rcases Nat.lt_or_ge c j with h | h
          · exact absurd (hxk.trans (by rw [hje, hek])) (h2 c j hc hjlt h)
          · exact absurd (by rw [hje, hek, hxk]) (h2 j c hjlt hc (by omega))
      · rw [upd_other _ _ hxk]
        rcases List.mem_or_eq_of_mem_set hx with hx | rfl
        · exact h3 x hx
        · exact absurd rfl hxk
    · rw [hl]
      intro k' v' hf
      by_cases hkk : k' = k
      · subst hkk
        rw [upd_same] at hf
        exact ⟨_, List.mem_set hjlt _, rfl, Option.some.inj hf⟩
      · rw [upd_other _ _ hkk] at hf
        obtain ⟨x, hx, hek', hev⟩ := h4 k' v' hf
        obtain ⟨c, hc, rfl⟩ := List.getElem_of_mem hx
        have hcj : j ≠ c := fun e1 => hkk (by subst e1; rw [← hek', hje, hek])
        refine ⟨es.toList[c], ?_, hek', hev⟩
        refine List.mem_iff_getElem.2 ⟨c, by simpa using hc, ?_⟩
        rw [List.getElem_set_ne hcj]
end

/-- The look-up at the operation. -/
theorem wpList_look {P : Program} (w : World) {ops : Array Oper} {rest : List Oper} {o : Oper} {a : Act} {Q : Exit → Act → World → Prop}
    (hg : o.guard = none) (mo xo : Operand) (t : TypeId) (ok : Bool) (hop : o.op = Op.lookup t mo xo ok) {K E : TypeId} {m : Nat} {f : Value → Option Value} (h : MapIs P K w m f) (L : Keyed P K)
    (ht : P.underlying t = some (.map K E)) {z : Value} (hz : (zeroValue E).run P w = .ok z w) (hm : a.eval mo = .map (some m)) {k : Value} {l : Lit} (hx : a.eval xo = k) (hk : keyOf P K k = some l)
    (hK : wpList P ops Q rest (a.put o.dst (if ok then .tuple #[(f k).getD z, .bool (f k).isSome] else (f k).getD z)) w) : wpList P ops Q (o :: rest) a w := by
  refine wpList_plain hg fun K' hK' => ?_
  have hrun := h.look L ht hz hk ok
  unfold Oper.wp
  simp [execOp, hop, hm, hx, hrun, Result.andThen]
  exact hK' _ _ hK

/-- The store at the operation. -/
theorem wpList_mapStore {P : Program} (w : World) {ops : Array Oper} {rest : List Oper} {o : Oper} {a : Act} {Q : Exit → Act → World → Prop}
    (hg : o.guard = none) (mo xo vo : Operand) (t : TypeId) (hop : o.op = Op.mapUpdate t mo xo vo) {K E : TypeId} {m : Nat} {f : Value → Option Value} (h : MapIs P K w m f) (L : Keyed P K)
    (ht : P.underlying t = some (.map K E)) (hm : a.eval mo = .map (some m)) {k v : Value} {l : Lit} (hx : a.eval xo = k) (hv : a.eval vo = v) (hk : keyOf P K k = some l)
    (hK : ∀ w', MapIs P K w' m (upd f k v) → w.grownBy w' (some m) → w'.heap.size = w.heap.size → wpList P ops Q rest (a.put o.dst undef) w') : wpList P ops Q (o :: rest) a w := by
  refine wpList_plain hg fun K' hK' => ?_
  obtain ⟨w', hrun, h1, h2, h3⟩ := h.store L ht (v := v) hk
  unfold Oper.wp
  simp [execOp, hop, hm, hx, hv, hrun, Result.andThen]
  exact hK' _ _ (hK w' h1 h2 h3)

end Go.Sp
