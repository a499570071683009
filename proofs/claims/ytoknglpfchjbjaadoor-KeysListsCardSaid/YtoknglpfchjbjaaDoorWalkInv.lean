/- The region in which tree.Walk hands a node on: what has been done of it. Conditions: none. -/
import Derived.Test.YtoknglpfchjbjaaDoorWalkKeep
import Derived.Test.YtoknglpfchjbjaaDoorRegionInv
import Derived.Test.YtoknglpfchjbjaaDoorRows
import Derived.Maps.OwnIn
import Derived.Laws.AppendOwnNone
import Derived.OwnWalkIn
namespace Go.Proofs.YtoknglpfchjbjaaDoor
open Go.RowKit Go.Sp

theorem infoIntT : (Tryd.prog.info? 3).map (fun i => (i.zero, i.size, i.bytes)) = some (some (.int .i64 0), 1, 8) := by kernel_rfl

theorem wpListIn_append_own_none {F : Fence} {nF : Nat} {P : Program} {w : World} {ops : Array Oper} {rest : List Oper} {o : Oper} {a : Act} {Q : Exit → Act → World → Prop} (hgd : o.guard = none) (s x : Operand) (t : TypeId)
    (ho : o.op = .call { callee := .builtin .append, args := #[s, x], argTypes := #[t, t] })
    (base : Nat) (e : TypeId) (i : TypeInfo) (size : Nat) (ht : P.underlying t = some (.slice e)) (hi : P.info? e = some i)
    (v : Value) (n : Nat) (xs : List Value) (hs : a.eval s = v) (hown : w.ownsRow base e size v n xs) (hx : a.eval x = .slice none 0 0)
    (h : wpListIn F nF P ops Q rest (a.put o.dst v) w) : wpListIn F nF P ops Q (o :: rest) a w := by
  refine wpListIn_plain hgd fun K hK => ?_
  have hrun := run_append_owned_none (P := P) (w := w) base t o.type e i size ht hi v n xs hown
  unfold Oper.wpIn
  refine ⟨by simp [Oper.about, ho, resolve, Target.leads, Sem.run_pure], ?_⟩
  rw [Oper.semAt_plain F _ _ (by rw [ho]; intro c hc'; cases hc')]
  simp [execOp, ho, resolve, invoke, builtin, hs, hx, hrun, Result.andThen]
  exact hK _ _ h

theorem path_list {W : World} {b o : Nat} : ∀ {m : Nat}, (∀ j, j < m → ∃ i : Int, W.cell? ⟨b, o + j, none⟩ = some (.int .i64 i)) → ∃ ys : List Int, ys.length = m ∧ ∀ j (hj : j < ys.length), W.cell? ⟨b, o + j, none⟩ = some (.int .i64 ys[j])
  | 0, _ => ⟨[], rfl, fun j hj => by simp at hj⟩
  | m + 1, h => by
    obtain ⟨ys, h1, h2⟩ := path_list (fun j hj => h j (Nat.lt_succ_of_lt hj))
    obtain ⟨i, hi⟩ := h m (Nat.lt_succ_self m)
    refine ⟨ys ++ [i], by simp [h1], fun j hj => ?_⟩
    by_cases hjm : j < ys.length
    · rw [List.getElem_append_left hjm]; exact h2 j hjm
    · have hjm' : j = m := by simp at hj; omega
      subst hjm'
      rw [hi, List.getElem_append_right (by omega)]
      simp
theorem path_news {W : World} {b o : Nat} {ys : List Int} (h : ∀ j (hj : j < ys.length), W.cell? ⟨b, o + j, none⟩ = some (.int .i64 ys[j])) : ∀ j u, (ys.map (Value.int .i64))[j]? = some u → W.cell? ((⟨b, o, none⟩ : Addr).add j) = some u := by
  intro j u hj
  rw [List.getElem?_map] at hj
  have hjl : j < ys.length := by
    rcases Nat.lt_or_ge j ys.length with h | h
    · exact h
    · rw [List.getElem?_eq_none h] at hj; cases hj
  rw [List.getElem?_eq_getElem hjl] at hj
  cases hj
  have hadd : (⟨b, o, none⟩ : Addr).add j = ⟨b, o + j, none⟩ := by unfold Addr.add; split <;> simp_all
  rw [hadd]
  exact h j hjl

/-- Ahead of the call, or behind it. -/
def Inv8 (After : Bool → World → Prop) (w0 : World) (n : Nat) (yv : Value) (k : Nat) (pv nv : Value) (L : Nat → Bool) (u : Nat → Value) (w : World) : Prop :=
  (L 6 = false ∧ L 7 = false ∧ Below w0.heap.size w0 w ∧ (L 0 = true → u 0 = yv) ∧ (L 1 = true → u 1 = .int .i64 (k : Nat)) ∧
    (L 2 = true → L 1 = true ∧ (L 4 = false → w.ownsRow w0.heap.size 3 1 (u 2) 1 [.int .i64 (k : Nat)])) ∧ (L 3 = true → u 3 = pv) ∧ (L 4 = true → L 2 = true ∧ L 3 = true ∧ PathAt (n + 1) w (u 4)) ∧ (L 5 = true → u 5 = nv)) ∨
  (L 6 = true ∧ (∀ i, i < 6 → L i = true) ∧ ∃ bb, u 6 = .bool bb ∧ After bb w ∧ (L 7 = true → u 7 = .bool !bb))

section
variable {After : Bool → World → Prop} {w0 : World} {n : Nat} {yv : Value} {k : Nat} {pv nv : Value} {L : Nat → Bool} {u : Nat → Value} {w : World}
theorem inv8_start : Inv8 After w0 n yv k pv nv (fun _ => false) u w0.drew := .inl ⟨rfl, rfl, (Below.refl _ _).drew, by simp, by simp, by simp, by simp, by simp, by simp⟩
/-- Ahead of the call. -/
theorem inv8_first {i : Nat} (hi : i < 6) (hL : L i = false) (h : Inv8 After w0 n yv k pv nv L u w) : L 6 = false ∧ L 7 = false ∧ Below w0.heap.size w0 w ∧ (L 0 = true → u 0 = yv) ∧ (L 1 = true → u 1 = .int .i64 (k : Nat)) ∧
    (L 2 = true → L 1 = true ∧ (L 4 = false → w.ownsRow w0.heap.size 3 1 (u 2) 1 [.int .i64 (k : Nat)])) ∧ (L 3 = true → u 3 = pv) ∧ (L 4 = true → L 2 = true ∧ L 3 = true ∧ PathAt (n + 1) w (u 4)) ∧ (L 5 = true → u 5 = nv) := by
  rcases h with h | ⟨_, h, _⟩
  · exact h
  · rw [h i hi] at hL; cases hL
theorem inv8_call (hL : L 6 = false) (h : Inv8 After w0 n yv k pv nv L u w) (h0 : L 0 = true) (h4 : L 4 = true) (h5 : L 5 = true) : Below w0.heap.size w0 w ∧ u 0 = yv ∧ PathAt (n + 1) w (u 4) ∧ u 5 = nv ∧ ∀ i, i < 6 → L i = true := by
  rcases h with ⟨_, _, h1, h2, h3, h6, h7, h8, h9⟩ | ⟨h, _⟩
  · refine ⟨h1, h2 h0, (h8 h4).2.2, h9 h5, fun i hi => ?_⟩
    have l2 := (h8 h4).1
    have l3 := (h8 h4).2.1
    have l1 := (h6 l2).1
    have : i = 0 ∨ i = 1 ∨ i = 2 ∨ i = 3 ∨ i = 4 ∨ i = 5 := by omega
    rcases this with rfl | rfl | rfl | rfl | rfl | rfl <;> assumption
  · rw [h] at hL; cases hL
theorem inv8_0 (hL : L 0 = false) (h : Inv8 After w0 n yv k pv nv L u w) : Inv8 After w0 n yv k pv nv (updB L 0) (updU u 0 yv) w := by
  obtain ⟨h1, h2, h3, h4, h5, h6, h7, h8, h9⟩ := inv8_first (by decide) hL h
  exact .inl ⟨h1, h2, h3, fun _ => rfl, h5, h6, h7, h8, h9⟩
theorem inv8_1 (hL : L 1 = false) (h : Inv8 After w0 n yv k pv nv L u w) : Inv8 After w0 n yv k pv nv (updB L 1) (updU u 1 (.int .i64 (k : Nat))) w := by
  obtain ⟨h1, h2, h3, h4, h5, h6, h7, h8, h9⟩ := inv8_first (by decide) hL h
  exact .inl ⟨h1, h2, h3, h4, fun _ => rfl, fun h => ⟨rfl, (h6 h).2⟩, h7, h8, h9⟩
theorem inv8_2 (hL : L 2 = false) (h : Inv8 After w0 n yv k pv nv L u w) (l1 : L 1 = true) {v : Value} {w' : World} (hb : Below w.heap.size w w') (hv : w'.ownsRow w0.heap.size 3 1 v 1 [.int .i64 (k : Nat)]) : Inv8 After w0 n yv k pv nv (updB L 2) (updU u 2 v) w' := by
  obtain ⟨h1, h2, h3, h4, h5, h6, h7, h8, h9⟩ := inv8_first (by decide) hL h
  exact .inl ⟨h1, h2, h3.trans (hb.mono h3.size), h4, h5, fun _ => ⟨l1, fun _ => hv⟩, h7, (fun h => by rw [(h8 h).1] at hL; cases hL), h9⟩
theorem inv8_3 (hL : L 3 = false) (h : Inv8 After w0 n yv k pv nv L u w) : Inv8 After w0 n yv k pv nv (updB L 3) (updU u 3 pv) w := by
  obtain ⟨h1, h2, h3, h4, h5, h6, h7, h8, h9⟩ := inv8_first (by decide) hL h
  exact .inl ⟨h1, h2, h3, h4, h5, h6, fun _ => rfl, fun h => ⟨(h8 h).1, rfl, (h8 h).2.2⟩, h9⟩
theorem inv8_4 (hL : L 4 = false) (h : Inv8 After w0 n yv k pv nv L u w) (l2 : L 2 = true) (l3 : L 3 = true) {v : Value} {w' : World} (hb : Below w0.heap.size w w') (hv : PathAt (n + 1) w' v) : Inv8 After w0 n yv k pv nv (updB L 4) (updU u 4 v) w' := by
  obtain ⟨h1, h2, h3, h4, h5, h6, h7, h8, h9⟩ := inv8_first (by decide) hL h
  exact .inl ⟨h1, h2, h3.trans hb, h4, h5, fun h => ⟨(h6 h).1, fun h' => by cases h'⟩, h7, fun _ => ⟨l2, l3, hv⟩, h9⟩
theorem inv8_5 (hL : L 5 = false) (h : Inv8 After w0 n yv k pv nv L u w) : Inv8 After w0 n yv k pv nv (updB L 5) (updU u 5 nv) w := by
  obtain ⟨h1, h2, h3, h4, h5, h6, h7, h8, h9⟩ := inv8_first (by decide) hL h
  exact .inl ⟨h1, h2, h3, h4, h5, h6, h7, h8, fun _ => rfl⟩
theorem inv8_6 (hL : L 6 = false) (h : Inv8 After w0 n yv k pv nv L u w) (hall : ∀ i, i < 6 → L i = true) {bb : Bool} {w' : World} (ha : After bb w') : Inv8 After w0 n yv k pv nv (updB L 6) (updU u 6 (.bool bb)) w' := by
  rcases h with ⟨_, h7, _⟩ | ⟨h, _⟩
  · refine .inr ⟨rfl, fun i hi => ?_, bb, rfl, ha, fun h => ?_⟩
    · unfold updB; rw [if_neg (by omega)]; exact hall i hi
    · have : L 7 = true := h
      rw [h7] at this; cases this
  · rw [h] at hL; cases hL
theorem inv8_done (hL : L 6 = true) (h : Inv8 After w0 n yv k pv nv L u w) : (∀ i, i < 6 → L i = true) ∧ ∃ bb, u 6 = .bool bb ∧ After bb w ∧ (L 7 = true → u 7 = .bool !bb) := by
  rcases h with ⟨h, _⟩ | ⟨_, h⟩
  · rw [h] at hL; cases hL
  · exact h
theorem inv8_7 (l6 : L 6 = true) (h : Inv8 After w0 n yv k pv nv L u w) {bb : Bool} (hb : u 6 = .bool bb) : Inv8 After w0 n yv k pv nv (updB L 7) (updU u 7 (.bool !bb)) w := by
  obtain ⟨h1, b', h2, h3, _⟩ := inv8_done l6 h
  rw [h2] at hb; cases hb
  exact .inr ⟨l6, fun i hi => by unfold updB; rw [if_neg (by omega)]; exact h1 i hi, bb, h2, h3, fun _ => rfl⟩
end

end Go.Proofs.YtoknglpfchjbjaaDoor
