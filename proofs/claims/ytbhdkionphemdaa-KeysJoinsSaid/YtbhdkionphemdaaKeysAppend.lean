/- append of entries that lie anywhere to a row that the call owns. Conditions: none. -/
import Derived.Test.YtbhdkionphemdaaKeysOwn
import Derived.Laws.AppendOwnNone
namespace Go.Proofs.Ytbhdkionphemdaa
open Go.RowKit Go.Sp Go.Maps

theorem flat_length (es : List Ent) : (es.flatMap entCells).length = es.length * 3 := by
  induction es with
  | nil => rfl
  | cons x es ih => rw [List.flatMap_cons, List.length_append, ih, List.length_cons]; simp [entCells]; omega

theorem ents_news {F : Nat → Prop} {w : World} {ad : Addr} {ys : List Ent} (h : Sl entS F w (some ad) ys) : ∀ j u, (ys.flatMap entCells)[j]? = some u → w.cell? (ad.add j) = some u := by
  intro j u hj
  have hjl : j < ys.length * 3 := by rw [← flat_length]; exact (List.getElem?_eq_some_iff.1 hj).1
  have hi : j / 3 < ys.length := by omega
  obtain ⟨b, o, hb, _, _, e1, e2, e3⟩ := ent_cells h (j / 3) hi
  simp only [Option.some.injEq] at hb
  subst hb
  have hadd : (⟨b, o, none⟩ : Addr).add j = ⟨b, o + j, none⟩ := by unfold Addr.add; split <;> simp_all
  rw [hadd]
  have hr : j % 3 < 3 := Nat.mod_lt _ (by decide)
  have hjj : j = j / 3 * 3 + j % 3 := by omega
  have hf := flat_get entCells (fun _ => rfl) ys (j / 3) (j % 3) hr
  rw [← hjj, hj, List.getElem?_eq_getElem hi] at hf
  rw [show o + j = o + j / 3 * 3 + j % 3 from by omega]
  have h3 : j % 3 = 0 ∨ j % 3 = 1 ∨ j % 3 = 2 := by omega
  rcases h3 with h | h | h <;> rw [h] at hf ⊢
  · rw [hf]; simpa [entCells] using e1
  · rw [hf]; simpa [entCells] using e2
  · rw [hf]; simpa [entCells] using e3

theorem ents_one (ys : List Ent) : ∀ u ∈ ys.flatMap entCells, u.oneCell' = true := by
  intro u hu
  obtain ⟨y, _, hy⟩ := List.mem_flatMap.1 hu
  simp [entCells] at hy
  rcases hy with rfl | rfl | rfl <;> rfl

theorem wpList_append_ents {w : World} {ops : Array Oper} {rest : List Oper} {o : Oper} {a : Act} {Q : Exit → Act → World → Prop} (hgd : o.guard = none) (s x : Operand)
    (ho : o.op = .call { callee := .builtin .append, args := #[s, x], argTypes := #[22, 22] })
    (base : Nat) (v : Value) (n : Nat) (xs : List Ent) (hs : a.eval s = v) (hown : w.ownsRow base 27 3 v n (xs.flatMap entCells))
    (F : Nat → Prop) (ad : Option Addr) (c : Nat) (ys : List Ent) (hx : a.eval x = .slice ad ys.length c) (hnil : ad = none → c = 0) (hsl : Sl entS F w ad ys)
    (hb : n + ys.length ≤ 10000000) (hbase : base ≤ w.heap.size)
    (h : ∀ v' w', w'.ownsRow base 27 3 v' (n + ys.length) ((xs ++ ys).flatMap entCells) → w.grownBy w' v.ownBlock → w.heap.size ≤ w'.heap.size → wpList Try.prog ops Q rest (a.put o.dst v') w') : wpList Try.prog ops Q (o :: rest) a w := by
  obtain ⟨i0, hi0, hz0, hz1, hz2⟩ := info_parts infoEnt
  cases ad with
  | none =>
    have hys : ys = [] := by
      cases ys with
      | nil => rfl
      | cons y ys => obtain ⟨_, _, _, h1, _⟩ := hsl 0 (by simp); cases h1
    subst hys
    rw [hnil rfl] at hx
    refine wpList_append_own_none hgd s x _ ho base 27 i0 3 Try.underlying22 hi0 v n _ hs hown hx ?_
    exact h v w (by simpa using hown) ⟨rfl, rfl, rfl, Nat.le_refl _, fun _ _ _ => rfl⟩ (Nat.le_refl _)
  | some ad =>
    refine wpList_append_own _ hgd s x _ ho base 27 i0 _ 3 32 Try.underlying22 hi0 hz0 hz1 hz2 rfl (by decide) v n _ hs hown ad ys.length c (ys.flatMap entCells) hx (flat_length ys) (ents_news hsl) (ents_one ys) (by unfold maxLen; omega) (by omega) hbase ?_
    intro v' w' h1 h2 _
    exact h v' w' (by simpa using h1) h2 h2.size

end Go.Proofs.Ytbhdkionphemdaa
