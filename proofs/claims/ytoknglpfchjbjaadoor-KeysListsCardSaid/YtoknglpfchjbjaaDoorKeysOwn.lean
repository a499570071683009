/- Rows of entries that a call owns, as slices of entries. Conditions: none. -/
import Derived.Test.YtoknglpfchjbjaaDoorKeysInts
namespace Go.Proofs.YtoknglpfchjbjaaDoor
open Go.RowKit Go.Sp Go.Maps

theorem flat_get (f : Ent → List Value) (hf : ∀ e, (f e).length = 3) : ∀ (es : List Ent) (i j : Nat), j < 3 → (es.flatMap f)[i * 3 + j]? = (es[i]?).bind fun e => (f e)[j]?
  | [], i, j, _ => by simp
  | e :: es, 0, j, hj => by
    rw [List.flatMap_cons, Nat.zero_mul, Nat.zero_add, List.getElem?_append_left (by rw [hf]; exact hj)]
    simp
  | e :: es, i + 1, j, hj => by
    rw [List.flatMap_cons, List.getElem?_append_right (by rw [hf]; omega), hf]
    rw [show (i + 1) * 3 + j - 3 = i * 3 + j from by omega, flat_get f hf es i j hj]
    simp

def entCells (e : Ent) : List Value := [.int .i64 e.pl, .bool e.has, .string e.key]

theorem own_ents {w : World} {base : Nat} {e : TypeId} {v : Value} {n : Nat} {es : List Ent} (hk : ∀ x ∈ es, x.key.size ≤ maxLen) (h : w.ownsRow base e 3 v n (es.flatMap entCells)) :
    ∃ a cap, v = .slice a n cap ∧ n = es.length ∧ n ≤ cap ∧ Sl entS (fun b => base ≤ b ∧ b < w.heap.size) w a es := by
  have hlen : ∀ es : List Ent, (es.flatMap entCells).length = es.length * 3 := by
    intro es
    induction es with
    | nil => rfl
    | cons x es ih => rw [List.flatMap_cons, List.length_append, ih, List.length_cons]; simp [entCells]; omega
  have hn : n = es.length := by have := h.1; rw [hlen] at this; omega
  rcases h.2 with ⟨rfl, h0⟩ | ⟨g, cap, cur, rfl, hg, hh, hc, hm, hs, ht⟩
  · refine ⟨none, 0, by rw [h0], hn, by omega, ?_⟩
    have : es = [] := List.length_eq_zero_iff.1 (by omega)
    subst this; exact Sl.nil
  · have hlt : g < w.heap.size := (Array.getElem?_eq_some_iff.1 hh).1
    refine ⟨some ⟨g, 0, none⟩, cap, rfl, hn, hc, fun i hi => ⟨g, 0, entCells es[i], rfl, ⟨hg, hlt⟩, ⟨rfl, hk _ (List.getElem_mem hi)⟩, ?_⟩⟩
    intro j hj
    have hj3 : j < 3 := by simpa [entCells] using hj
    have e1 : (entCells es[i])[j]? = some ((entCells es[i])[j]'hj) := List.getElem?_eq_getElem hj
    have := h.cells (g := g) rfl (i * 3 + j) _ ((flat_get _ (fun _ => rfl) es i j hj3).trans (by rw [List.getElem?_eq_getElem hi]; exact e1))
    have hadd : (⟨g, 0, none⟩ : Addr).add (i * 3 + j) = ⟨g, i * 3 + j, none⟩ := by unfold Addr.add; split <;> simp_all
    rw [hadd] at this
    simp only [entS, Nat.zero_add]
    exact this

theorem infoEnt : (Tryd.prog.info? 38).map (fun i => (i.zero, i.size, i.bytes)) = some (some (.agg #[.int .i64 0, .bool false, .string ⟨#[]⟩]), 3, 32) := by kernel_rfl

/-- The new block's cells, as an append's news. -/
theorem news3 (w : World) (a b c : Value) (t : TypeId) : ∀ j u, [a, b, c][j]? = some u → (w.alloc (.cells #[a, b, c] t)).cell? ((⟨w.heap.size, 0, none⟩ : Addr).add j) = some u := by
  intro j u hj
  have hadd : (⟨w.heap.size, 0, none⟩ : Addr).add j = ⟨w.heap.size, j, none⟩ := by unfold Addr.add; split <;> simp_all
  rw [hadd, World.cell?_alloc_new]
  simpa using hj

/-- Turning: a number within bounds. -/
theorem turn_num (a0 : Int) (n : Nat) (hn : 0 < n) (hn2 : n ≤ 1000) : ∃ A : Nat, A < n ∧ (wrap64 (a0.tmod n + n)).tmod n = (A : Int) := by
  have h1 : -(n : Int) < a0.tmod n := by have := Int.lt_tmod_of_pos a0 (show (0 : Int) < n by omega); omega
  have h2 : a0.tmod n < n := Int.tmod_lt_of_pos a0 (by omega)
  rw [IntWalk.wrap64_in _ ⟨by omega, by omega⟩]
  have h3 : 0 ≤ (a0.tmod n + n).tmod n := Int.tmod_nonneg _ (by omega)
  have h4 : (a0.tmod n + n).tmod n < n := Int.tmod_lt_of_pos _ (by omega)
  refine ⟨((a0.tmod n + n).tmod n).toNat, by omega, by omega⟩

end Go.Proofs.YtoknglpfchjbjaaDoor
