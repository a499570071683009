/- From an argument's reading to its bytes or numbers in memory; append of such rows. Conditions: none. -/
import Derived.Test.YtbhdkionphemdaaDoorUtfRef
import Derived.ProofKit
import Derived.OpenShut
import Derived.Deep.Slices
import Derived.Deep.Strs
import Derived.Laws.AppendOwnNone
namespace Go.Proofs.YtbhdkionphemdaaDoor
open Go.ChangeShapes Go.WideShapes Go.ChangeAt Go.RowKit Go.Sp Go.Deep Go.Maps

section
variable {H : Type} {enc : TypeId × Value → H} {P : Program} {W : World} {spare : Nat → Bool} {held : Bool}

/-- A slice that came in, of whatever elements. -/
theorem open_sl {α : Type} [Inhabited α] {S : Shape α} {t e : TypeId} {fuel : Nat} {cs : List Value} {x : DataW H × List MemPlace} (ht : P.underlying t = some (.slice e)) (hc : P.cellsOf e = S.sz) (hsz : 0 < S.sz)
    (hopen : ∀ n cs y, DataW.trod enc P W 0 spare held n e cs = some y → ∃ x, S.rep (fun b => b < W.heap.size) W cs x) (h : DataW.trod enc P W 0 spare held fuel t cs = some x) :
    ∃ a len cap, ∃ xs : List α, cs = [.slice a len cap] ∧ len ≤ cap ∧ (a = none → cap = 0) ∧ len ≤ maxLen ∧ xs.length = len ∧ Sl S (fun b => b < W.heap.size) W a xs := by
  rcases open_slice ht h with ⟨rfl, _⟩ | ⟨a, len, cap, m, n, D, Pl, rfl, hb, hl, hm, hmm, _, hel⟩
  · exact ⟨none, 0, 0, [], rfl, Nat.le_refl _, fun _ => rfl, by simp [maxLen], rfl, Sl.nil⟩
  · have hlm : len ≤ m := by rw [hmm]; split <;> omega
    have hadd : ∀ (a : Addr) j, a.spot = none → a.add j = ⟨a.block, a.off + j, none⟩ := by
      intro a j hs
      obtain ⟨b, o, s⟩ := a
      simp only at hs
      subst hs
      unfold Addr.add; split <;> simp_all
    have hspot : 0 < len → a.spot = none := by
      intro hp
      obtain ⟨cs', hcs, ht'⟩ := hel 0 (by omega)
      obtain ⟨x, hx⟩ := hopen _ _ _ ht'
      obtain ⟨_, hl', hcell⟩ := World.cells?_some hcs
      have hlen := S.len hx
      have h0 := hcell 0 (by omega)
      rw [List.getElem?_eq_getElem (by omega : 0 < cs'.length)] at h0
      simpa [Addr.add] using World.cell?_spot h0
    have hx : ∀ i, i < len → ∃ x, ∃ b o, a = ⟨b, o, none⟩ ∧ b < W.heap.size ∧ ∃ vs, S.rep (fun b => b < W.heap.size) W vs x ∧ CellsAt W b (o + i * S.sz) vs := by
      intro i hi
      obtain ⟨cs', hcs, ht'⟩ := hel i (by omega)
      obtain ⟨x, hx⟩ := hopen _ _ _ ht'
      obtain ⟨_, hl', hcell⟩ := World.cells?_some hcs
      have hlen := S.len hx
      have h0 := hcell 0 (by omega)
      rw [List.getElem?_eq_getElem (by omega : 0 < cs'.length)] at h0
      have hblk := World.block_lt_of_cell? W _ h0
      have hs := hspot (by omega)
      obtain ⟨b, o, s⟩ := a
      simp only at hs
      subst hs
      rw [hadd ⟨b, o, none⟩ _ rfl, hadd _ _ rfl] at hblk
      refine ⟨x, b, o, rfl, hblk, cs', hx, fun j hj => ?_⟩
      have := hcell j (by omega)
      rw [hadd ⟨b, o, none⟩ _ rfl, hadd _ _ rfl, hc] at this
      rw [this, List.getElem?_eq_getElem hj]
    obtain ⟨f, hf⟩ := choose_lt hx
    refine ⟨some a, len, cap, (List.range len).map f, rfl, hl, (fun h => by cases h), by omega, by simp, fun i hi => ?_⟩
    have hi' : i < len := by simpa using hi
    obtain ⟨b, o, rfl, hblk, vs, hrep, hcells⟩ := hf i hi'
    exact ⟨b, o, vs, rfl, hblk, by simpa using hrep, hcells⟩
end


theorem cells8 : Tryd.prog.cellsOf 5 = 1 := by kernel_rfl
theorem cells32 : Tryd.prog.cellsOf 21 = 1 := by kernel_rfl

/-- Integers that fit their kind. -/
def Shape.intw (q : IntKind) : Shape Int where
  sz := 1
  rep _ _ vs x := vs = [.int q x] ∧ (Lit.int q x).wf = true
  len := by rintro _ _ _ _ ⟨rfl, _⟩; rfl
  frame := by intro _ _ _ _ _ h _; exact h
  mono := by intro _ _ _ _ _ h _; exact h

theorem Sl.of_intw {q : IntKind} {F : Nat → Prop} {w : World} {a : Option Addr} {xs : List Int} (h : Sl (Shape.intw q) F w a xs) : Sl (Shape.int q) F w a xs ∧ ∀ x ∈ xs, (Lit.int q x).wf = true := by
  constructor
  · intro i hi
    obtain ⟨b, o, vs, h1, h2, ⟨h3, _⟩, h4⟩ := h i hi
    exact ⟨b, o, vs, h1, h2, h3, h4⟩
  · intro x hx
    obtain ⟨i, hi, rfl⟩ := List.getElem_of_mem hx
    obtain ⟨b, o, vs, h1, h2, ⟨h3, h3'⟩, h4⟩ := h i hi
    exact h3'

theorem open_bytes {H : Type} {enc : TypeId × Value → H} {W : World} {spare : Nat → Bool} {held : Bool} {fuel : Nat} {cs : List Value} {x : DataW H × List MemPlace} (h : DataW.trod enc Tryd.prog W 0 spare held fuel 24 cs = some x) :
    ∃ a len cap, ∃ xs : List Int, cs = [.slice a len cap] ∧ len ≤ cap ∧ (a = none → cap = 0) ∧ len ≤ maxLen ∧ xs.length = len ∧ Sl (Shape.int .u8) (fun b => b < W.heap.size) W a xs ∧ ∀ x ∈ xs, 0 ≤ x ∧ x ≤ 255 := by
  obtain ⟨a, len, cap, xs, h1, h2, h3, h4, h5, h6⟩ := open_sl (S := Shape.intw .u8) Tryd.underlying24 cells8 (by decide) (fun n cs y hy => by
    obtain ⟨m, e, _, hw⟩ := DataW.trod_int Tryd.underlying5 hy
    exact ⟨m, e, hw⟩) h
  obtain ⟨g1, g2⟩ := Sl.of_intw h6
  exact ⟨a, len, cap, xs, h1, h2, h3, h4, h5, g1, fun x hx => bounds_u8 (g2 x hx)⟩

theorem open_runes {H : Type} {enc : TypeId × Value → H} {W : World} {spare : Nat → Bool} {held : Bool} {fuel : Nat} {cs : List Value} {x : DataW H × List MemPlace} (h : DataW.trod enc Tryd.prog W 0 spare held fuel 22 cs = some x) :
    ∃ a len cap, ∃ xs : List Int, cs = [.slice a len cap] ∧ len ≤ cap ∧ (a = none → cap = 0) ∧ len ≤ maxLen ∧ xs.length = len ∧ Sl (Shape.int .i32) (fun b => b < W.heap.size) W a xs ∧ ∀ x ∈ xs, -2147483648 ≤ x ∧ x ≤ 2147483647 := by
  obtain ⟨a, len, cap, xs, h1, h2, h3, h4, h5, h6⟩ := open_sl (S := Shape.intw .i32) Tryd.underlying22 cells32 (by decide) (fun n cs y hy => by
    obtain ⟨m, e, _, hw⟩ := DataW.trod_int Tryd.underlying21 hy
    exact ⟨m, e, hw⟩) h
  obtain ⟨g1, g2⟩ := Sl.of_intw h6
  exact ⟨a, len, cap, xs, h1, h2, h3, h4, h5, g1, fun x hx => bounds_i32 (g2 x hx)⟩

theorem ints_news {q : IntKind} {F : Nat → Prop} {w : World} {ad : Addr} {ys : List Int} (h : Sl (Shape.int q) F w (some ad) ys) : ∀ j u, (ys.map (Value.int q))[j]? = some u → w.cell? (ad.add j) = some u := by
  intro j u hj
  have hjl : j < ys.length := by simpa using (List.getElem?_eq_some_iff.1 hj).1
  obtain ⟨b, o, hb, _, e1⟩ := h.int_cell j hjl
  simp only [Option.some.injEq] at hb
  subst hb
  have hadd : (⟨b, o, none⟩ : Addr).add j = ⟨b, o + j, none⟩ := by unfold Addr.add; split <;> simp_all
  rw [hadd, e1]
  simpa [hjl] using hj

theorem wpList_append_bytes {w : World} {ops : Array Oper} {rest : List Oper} {o : Oper} {a : Act} {Q : Exit → Act → World → Prop} (hgd : o.guard = none) (s x : Operand)
    (ho : o.op = .call { callee := .builtin .append, args := #[s, x], argTypes := #[24, 24] })
    (base : Nat) (v : Value) (n : Nat) (xs : List Int) (hs : a.eval s = v) (hown : w.ownsRow base 5 1 v n (xs.map (Value.int .u8)))
    (F : Nat → Prop) (ad : Option Addr) (c : Nat) (ys : List Int) (hx : a.eval x = .slice ad ys.length c) (hnil : ad = none → c = 0) (hsl : Sl (Shape.int .u8) F w ad ys)
    (hb : n + ys.length ≤ 10000000) (hbase : base ≤ w.heap.size)
    (h : ∀ v' w', w'.ownsRow base 5 1 v' (n + ys.length) ((xs ++ ys).map (Value.int .u8)) → w.grownBy w' v.ownBlock → w.heap.size ≤ w'.heap.size → wpList Tryd.prog ops Q rest (a.put o.dst v') w') : wpList Tryd.prog ops Q (o :: rest) a w := by
  obtain ⟨i0, hi0, hz0, hz1, hz2⟩ := info_parts infoU8
  cases ad with
  | none =>
    have hys : ys = [] := by
      cases ys with
      | nil => rfl
      | cons y ys => obtain ⟨_, _, _, h1, _⟩ := hsl 0 (by simp); cases h1
    subst hys
    rw [hnil rfl] at hx
    refine wpList_append_own_none hgd s x _ ho base 5 i0 1 Tryd.underlying24 hi0 v n _ hs hown hx ?_
    exact h v w (by simpa using hown) ⟨rfl, rfl, rfl, Nat.le_refl _, fun _ _ _ => rfl⟩ (Nat.le_refl _)
  | some ad =>
    refine wpList_append_own _ hgd s x _ ho base 5 i0 _ 1 1 Tryd.underlying24 hi0 hz0 hz1 hz2 rfl (by decide) v n _ hs hown ad ys.length c (ys.map (Value.int .u8)) hx (by simp) (ints_news hsl) (fun u hu => by obtain ⟨y, _, rfl⟩ := List.mem_map.1 hu; rfl) (by unfold maxLen; omega) (by omega) hbase ?_
    intro v' w' h1 h2 _
    exact h v' w' (by simpa using h1) h2 h2.size

end Go.Proofs.YtbhdkionphemdaaDoor
