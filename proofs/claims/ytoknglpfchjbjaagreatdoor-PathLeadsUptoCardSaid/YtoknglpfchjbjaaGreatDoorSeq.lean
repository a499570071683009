/- A range over a function whose iterator runs loops over functions of its own (it calls the outer loop's yield out of an inner loop's body): what such an iterator owes, and the rule for the loop. At the fence that asks nothing. Conditions: none. -/
import Derived.Test.YtoknglpfchjbjaaGreatDoorBase
import Derived.RangeFuncNested
import Derived.RangeFuncBound
import Derived.RangeFuncCalls
import Derived.RangeFuncLeaves
import Derived.RangeFuncWrites
namespace Go.Sp
open Go.RowKit

theorem round_any {m m' : Nat} {P : Program} {l : Nat} {f : FuncId} {tmps : Array Value} {assign body : Code} {w : World} {R : Ending → World → Prop}
    (h : RoundIn Fence.wide m P l f tmps assign body w R) : RoundIn Fence.wide m' P l f tmps assign body w R := ⟨h.1, fun c cs _ => h.2 c cs (fun d hd => by cases hd)⟩
theorem yield_any {m : Nat} (m' : Nat) {P : Program} {l : Nat} {args : Array Value} {W : World} {R : Ending → World → Prop} (h : YieldAt Fence.wide m P l args W R) : YieldAt Fence.wide m' P l args W R := by
  obtain ⟨fn, tmps, assign, body, hy, hR⟩ := h
  exact ⟨fn, tmps, assign, body, hy, round_any hR⟩
theorem round_in {m : Nat} {P : Program} {l : Nat} {f : FuncId} {tmps : Array Value} {assign body : Code} {w : World} {R : Ending → World → Prop} (l' : Nat)
    (h : RoundIn Fence.wide m P l f tmps assign body w R) : RoundIn (Fence.wide.inRound l') m P l f tmps assign body w R := h

/-- What an iterator owes whose loop's body is told 'Good x' of what it is handed, and that may run loops of its own. -/
def SeqRuns {α : Type} (P : Program) (g : Nat) (lb : Array Value) (encs : α → Array Value) (Good : α → World → Prop) (Kp : World → World → Prop) (S Sp : List α → Prop) (w : World) : Prop :=
  ∀ (n l : Nat) (J Jx : List α → World → Prop) (W : World), Kp w W → w.heap.size ≤ W.heap.size → OwnFrom W.heap.size J → OwnFrom W.heap.size Jx →
    (∀ pre x W1, J pre W1 → Good x W1 → Sp (pre ++ [x]) → YieldAt Fence.wide 0 P l (encs x) W1 fun e W' =>
      (e = .returned (.bool true) ∧ J (pre ++ [x]) W' ∧ Kp W1 W' ∧ KeepsFrom W.heap.size W1 W') ∨ (e = .returned (.bool false) ∧ Jx (pre ++ [x]) W' ∧ KeepsFrom W.heap.size W1 W')) →
    J [] W →
    CallsIn Fence.wide n P g (#[.func (.yield l) #[] #[]] ++ lb) W fun e W' => (∃ v, e = .returned v) ∧ ((∃ xs, S xs ∧ J xs W') ∨ (∃ pre, Sp pre ∧ Jx pre W'))

theorem wpIn_rangeFunc_runs {P : Program} {n : Nat} {α : Type} {g : Operand} {ps : Array Tmp} {assign body : Code} {Q : Exit → Act → World → Prop} {a : Act} {w : World}
    {gf : Nat} {lb : Array Value} (hg : a.eval g = .func (.func gf) #[] lb) (eg : ∀ args w, (callFunc gf args).run P w = .ok (.enter gf args) w)
    {encs : α → Array Value} {Good : α → World → Prop} {Kp : World → World → Prop} {S Sp : List α → Prop} {w0 : World} (hseq : SeqRuns P gf lb encs Good Kp S Sp w0)
    (hKt : ∀ {A B C : World}, Kp A B → Kp B C → Kp A C) (hKb : ∀ (W : World) (l : Nat) (o o' : Obj), w.heap.size ≤ l → W.heap[l]? = some o → o.isCells = false → o.isWalk = false → Kp W (W.putObj l o')) (hKa : ∀ (W : World) (o : Obj), w.heap.size ≤ W.heap.size → Kp W (W.alloc o)) (hb0 : Kp w0 w) (hs0 : w0.heap.size ≤ w.heap.size) (hps : ∀ x, (encs x).size = ps.size)
    (I : List α → World → Prop) (Ix : Code → List α → World → Prop) (hI : OwnFrom w.heap.size I) (hIx : ∀ c, OwnFrom w.heap.size (Ix c)) (h0 : I [] w) (Ax : List α → α → Act → World → Prop) (hAx : ∀ pre x a', OwnFrom w.heap.size (fun (_ : Unit) W => Ax pre x a' W))
    (hassign : ∀ (l : Nat) (pre : List α) (x : α) (W : World) (K : Act → World → Prop), I pre W → Good x W → Sp (pre ++ [x]) → w.heap.size ≤ W.heap.size → (∀ a' W', KeepsFrom w.heap.size W W' → Kp W W' → Ax pre x a' W' → K a' W') →
      assign.wpIn (Fence.wide.inRound l) 0 P (Exit.then K (fun _ _ _ => False)) { tmps := (ps.zip (encs x)).foldl (fun t (p, v) => t.setIfInBounds p v) a.tmps, defers := [] } W)
    (hbody : ∀ (l : Nat) (pre : List α) (x : α) (a' : Act) (W : World), Ax pre x a' W → Sp (pre ++ [x]) → w.heap.size ≤ W.heap.size → body.wpIn (Fence.wide.inRound l) 0 P (ownPostG w.heap.size Kp I Ix (pre ++ [x]) W) a' W)
    (hdone : ∀ (D : Nat) (xs : List α) (W : World), w.heap.size ≤ D → S xs → I xs W → W.heap[D]? = some (.deferred (some [])) → Q .normal { a with defers := { target := .collected D, args := #[] } :: a.defers } W)
    (hstop : ∀ (D : Nat) (c : Code) (pre : List α) (W : World), w.heap.size ≤ D → Sp pre → Ix c pre W → W.heap[D]? = some (.deferred (some [])) → c.wpIn Fence.wide n P Q { a with defers := { target := .collected D, args := #[] } :: a.defers } W) :
    (Code.rangeFunc g ps assign body).wpIn Fence.wide n P Q a w := by
  refine wpIn_rangeFunc ?_
  intro fn hfn
  obtain ⟨rec, hrec⟩ : ∃ rec : LoopState → Option Code → Loop, rec = fun st pe => { state := st, pending := pe, fn, tmps := a.tmps, params := ps, assign, body, defers := w.heap.size } := ⟨_, rfl⟩
  obtain ⟨W1, hW1⟩ : ∃ W1, (w.alloc (.deferred (some []))).alloc (.loop (rec .ready none)) = W1 := ⟨_, rfl⟩
  have hsz : W1.heap.size = w.heap.size + 2 := by rw [← hW1]; simp
  have hl1 : W1.heap[w.heap.size + 1]? = some (.loop (rec .ready none)) := by
    have h := World.alloc_heap_new (w.alloc (.deferred (some []))) (.loop (rec .ready none))
    rw [World.size_alloc, hW1] at h
    exact h
  have hd1 : W1.heap[w.heap.size]? = some (.deferred (some [])) := by
    rw [← hW1]; exact (Below.heap_alloc _ _ _ (by simp)).trans (World.alloc_heap_new w _)
  have hi1 : I [] W1 := by rw [← hW1]; exact hI.alloc _ (hI.alloc _ h0)
  have hb1 : Kp w0 W1 := by
    rw [← hW1]
    exact hKt hb0 (hKt (hKa _ _ (Nat.le_refl _)) (hKa _ _ (by simp)))
  refine ⟨w.heap.size + 1, [{ target := .collected w.heap.size, args := #[] }], W1, { target := .fn (.func gf) lb, args := #[.func (.yield (w.heap.size + 1)) #[] #[]] }, W1, gf,
    #[.func (.yield (w.heap.size + 1)) #[] #[]] ++ lb, W1, ?_, ?_, fun _ _ => trivial, ?_, (fun h => by cases h), ?_⟩
  · rw [← hW1, hrec]; exact run_enterLoop_outer _ _ _ _ _
  · simp only [resolve, hg]
    simp [go_sem]
  · simp [invoke, go_sem, eg]
  -- one block of the loop's own, turned: what lies below and the other one stay
  have far : ∀ {A B : World} {row : Option Nat}, A.grownBy B row → (∀ r, row = some r → W1.heap.size ≤ r ∧ ∃ o : Obj, A.heap[r]? = some o ∧ o.isCells = false) → ∀ k o, k < W1.heap.size → A.heap[k]? = some o → B.heap[k]? = some o := fun hg' hr k o hk ho =>
    (hg'.block k (Array.getElem?_eq_some_iff.1 ho).1 (fun e => by have := (hr k e.symm).1; omega)).trans ho
  have wide : ∀ {A : World} {row : Option Nat}, (∀ r, row = some r → W1.heap.size ≤ r ∧ ∃ o : Obj, A.heap[r]? = some o ∧ o.isCells = false) → ∀ r, row = some r → w.heap.size ≤ r ∧ ∃ o : Obj, A.heap[r]? = some o ∧ o.isCells = false := fun hr r e =>
    ⟨by have := (hr r e).1; omega, (hr r e).2⟩
  refine (hseq _ (w.heap.size + 1)
    (fun pre W => I pre W ∧ W.heap[w.heap.size + 1]? = some (.loop (rec .ready none)) ∧ W.heap[w.heap.size]? = some (.deferred (some [])))
    (fun pre W => ∃ c, Ix c pre W ∧ W.heap[w.heap.size + 1]? = some (.loop (rec .done (some c))) ∧ W.heap[w.heap.size]? = some (.deferred (some [])))
    W1 hb1 (by omega) ?_ ?_ ?_ ⟨hi1, hl1, hd1⟩).mono ?_
  · intro s A B row hs hg' hr
    exact ⟨hI s A B row hs.1 hg' (wide hr), far hg' hr _ _ (by omega) hs.2.1, far hg' hr _ _ (by omega) hs.2.2⟩
  · intro s A B row hs hg' hr
    obtain ⟨c, hc, hl, hk⟩ := hs
    exact ⟨c, hIx c s A B row hc hg' (wide hr), far hg' hr _ _ (by omega) hl, far hg' hr _ _ (by omega) hk⟩
  · rintro pre x W ⟨hi, hl, hk⟩ hgood hspx
    have hlt : w.heap.size + 1 < W.heap.size := (Array.getElem?_eq_some_iff.1 hl).1
    have hy := run_yield (P := P) (args := encs x) hl (by rw [hrec]; exact hps x)
    rw [hrec] at hy
    refine ⟨fn, _, assign, body, hy, roundIn_of_wpIn hfn (hassign _ pre x W _ hi hgood hspx (by omega) fun a' Wa hka hkpa hax => ?_)⟩
    have hla := hka.same _ _ (by omega) hl rfl
    have hkla := hka.same _ _ (Nat.le_refl _) hk rfl
    have hsa := hka.size
    have hlta : w.heap.size + 1 < Wa.heap.size := by omega
    refine ⟨_, run_beginRound hla (by rw [hrec]), ?_⟩
    obtain ⟨Wb, hWb⟩ : ∃ Wb, Wb = Wa.putObj (w.heap.size + 1) (.loop { rec .ready none with state := .busy }) := ⟨_, rfl⟩
    rw [← hWb]
    have hlb : Wb.heap[w.heap.size + 1]? = some (.loop { rec .ready none with state := .busy }) := by rw [hWb]; exact World.putObj_heap_same hlta
    have hkb : Wb.heap[w.heap.size]? = some (.deferred (some [])) := by rw [hWb]; exact (World.putObj_heap_other (by omega)).trans hkla
    have hKb1 : Kp W Wb := hKt hkpa (by rw [hWb]; exact hKb _ _ _ _ (by omega) hla rfl rfl)
    have hax' : Ax pre x a' Wb := by rw [hWb]; exact (hAx pre x a').putObj (s := ()) _ hax (by omega) hla rfl
    refine wpIn_mono (hbody _ pre x a' Wb hax' hspx (by rw [hWb]; simp; omega)) ?_
    have kf : ∀ (jump : Option Code) (W3 : World), KeepsFrom w.heap.size Wb W3 → KeepsFrom W1.heap.size W (W3.putObj (w.heap.size + 1) (.loop (rec (if jump.isNone then .ready else .done) jump))) := fun jump W3 h3 => by
      refine KeepsFrom.trans (KeepsFrom.mk hka.size (fun k o hk h ho => hka.same k o (by omega) h ho)) ((KeepsFrom.of_grownBy (row := some (w.heap.size + 1)) ?_ (fun j e => by cases e; omega)).trans ((KeepsFrom.mk h3.size (fun k o hk h ho => h3.same k o (by omega) h ho)).trans (KeepsFrom.of_grownBy (grownBy_putObj' W3 (w.heap.size + 1) _) (fun j e => by cases e; omega))))
      rw [hWb]; exact grownBy_putObj' Wa _ _
    have fin : ∀ (jump : Option Code) (W3 : World), KeepsFrom w.heap.size Wb W3 →
        W3.heap[w.heap.size + 1]? = some (.loop { rec .ready none with state := .busy }) ∧
        (Instr.endRound (w.heap.size + 1) jump).run P W3 = .ok (.bool jump.isNone) (W3.putObj (w.heap.size + 1) (.loop (rec (if jump.isNone then .ready else .done) jump))) ∧
        (W3.putObj (w.heap.size + 1) (.loop (rec (if jump.isNone then .ready else .done) jump))).heap[w.heap.size + 1]? = some (.loop (rec (if jump.isNone then .ready else .done) jump)) ∧
        (W3.putObj (w.heap.size + 1) (.loop (rec (if jump.isNone then .ready else .done) jump))).heap[w.heap.size]? = some (.deferred (some [])) := fun jump W3 h3 => by
      have h4 := h3.same _ _ (by omega) hlb rfl
      have h5 := run_endRound (P := P) jump h4
      rw [hrec] at h4 h5 ⊢
      exact ⟨h4, h5, World.putObj_heap_same (Array.getElem?_eq_some_iff.1 h4).1, (World.putObj_heap_other (by omega)).trans (h3.same _ _ (Nat.le_refl _) hkb rfl)⟩
    rintro e a3 W3 hp
    cases e with
    | normal =>
      obtain ⟨h3, hkp, hi3⟩ := hp
      obtain ⟨q1, q2, q3, q4⟩ := fin none W3 h3
      exact ⟨_, _, q2, .inl ⟨rfl, ⟨hI.putObj _ hi3 (by omega) q1 rfl, q3, q4⟩, hKt (hKt hKb1 hkp) (hKb _ _ _ _ (by omega) q1 rfl rfl), kf none W3 h3⟩⟩
    | ret =>
      obtain ⟨h3, hi3⟩ := hp
      obtain ⟨q1, q2, q3, q4⟩ := fin (some .ret) W3 h3
      exact ⟨_, _, q2, .inr ⟨rfl, ⟨.ret, (hIx _).putObj _ hi3 (by omega) q1 rfl, q3, q4⟩, kf (some .ret) W3 h3⟩⟩
    | exit id =>
      obtain ⟨h3, hi3⟩ := hp
      obtain ⟨q1, q2, q3, q4⟩ := fin (some (.exit id)) W3 h3
      exact ⟨_, _, q2, .inr ⟨rfl, ⟨.exit id, (hIx _).putObj _ hi3 (by omega) q1 rfl, q3, q4⟩, kf (some (.exit id)) W3 h3⟩⟩
    | goto t =>
      obtain ⟨h3, hi3⟩ := hp
      obtain ⟨q1, q2, q3, q4⟩ := fin (some (.goto t)) W3 h3
      exact ⟨_, _, q2, .inr ⟨rfl, ⟨.goto t, (hIx _).putObj _ hi3 (by omega) q1 rfl, q3, q4⟩, kf (some (.goto t)) W3 h3⟩⟩
    | panic ch => exact hp.elim
    | outgrown => exact hp.elim
  · rintro e W2 ⟨⟨v, rfl⟩, (⟨xs, hS, hi, hl, hk⟩ | ⟨pre, hSp, c, hi, hl, hk⟩)⟩
    · have q := run_endLoop (P := P) hl (by rw [hrec]; simp)
      rw [hrec] at q
      exact ⟨none, _, q, hdone _ xs _ (Nat.le_refl _) hS (hI.putObj _ hi (by omega) hl rfl) ((World.putObj_heap_other (by omega)).trans hk)⟩
    · have q := run_endLoop (P := P) hl (by rw [hrec]; simp)
      rw [hrec] at q
      exact ⟨some c, _, q, hstop _ c pre _ (Nat.le_refl _) hSp ((hIx c).putObj _ hi (by omega) hl rfl) ((World.putObj_heap_other (by omega)).trans hk)⟩

/-- The marks that loops over functions have left in a frame: their blocks hold no call. -/
def Marks (B : Nat) : List Deferred → World → Prop
  | [], _ => True
  | d :: ds, W => (∃ D, d = { target := .collected D, args := #[] } ∧ B ≤ D ∧ W.heap[D]? = some (.deferred (some [])) ∧ ∀ d' ∈ ds, d'.target ≠ .collected D) ∧ Marks B ds W

theorem Marks.keep {B : Nat} {W W' : World} (h : ∀ (k : Nat) (o : Obj), B ≤ k → W.heap[k]? = some o → o.isCells = false → W'.heap[k]? = some o) : ∀ {ds : List Deferred}, Marks B ds W → Marks B ds W'
  | [], _ => trivial
  | d :: ds, hm => by
    obtain ⟨⟨D, hd, hB, hD, hne⟩, hm⟩ := hm
    exact ⟨⟨D, hd, hB, h D _ hB hD rfl, hne⟩, Marks.keep h hm⟩
theorem Marks.lt {B : Nat} {W : World} : ∀ {ds : List Deferred}, Marks B ds W → ∀ d ∈ ds, ∀ D, d.target = .collected D → D < W.heap.size
  | [], _, d, hd, _, _ => by cases hd
  | x :: ds, hm, d, hd, D, hD => by
    obtain ⟨⟨D', hd', _, hD', _⟩, hm⟩ := hm
    rcases List.mem_cons.1 hd with rfl | hd
    · rw [hd'] at hD
      cases hD
      exact (Array.getElem?_eq_some_iff.1 hD').1
    · exact hm.lt d hd D hD
/-- One more. -/
theorem Marks.cons {B D : Nat} {W₀ W : World} {ds : List Deferred} (h0 : Marks B ds W₀) (h : Marks B ds W) (hB : B ≤ D) (hs : W₀.heap.size ≤ D) (hD : W.heap[D]? = some (.deferred (some []))) :
    Marks B ({ target := .collected D, args := #[] } :: ds) W :=
  ⟨⟨D, rfl, hB, hD, fun d' hd' e => by have := h0.lt d' hd' D e; omega⟩, h⟩

theorem leaves_marks {F : Fence} {n : Nat} {P : Program} {fn : Func} {tmps : Array Value} {R : Ending → World → Prop} {B : Nat} {K : Unit → World → Prop} (hK : OwnFrom B K) (hR : ∀ W, K () W → LeavesInM F n P fn tmps R [] .returning W) :
    ∀ {ds : List Deferred} {W : World}, K () W → Marks B ds W → LeavesInM F n P fn tmps R ds .returning W
  | [], W, hk, _ => hR W hk
  | d :: ds, W, hk, hm => by
    obtain ⟨⟨D, rfl, hB, hD, hne⟩, hm⟩ := hm
    refine ⟨by simp, .inl ⟨_, _, rfl, run_takeDeferred hD, ?_⟩⟩
    refine leaves_marks hK hR (hK.putObj _ hk hB hD rfl) ?_
    clear hk hR hK
    induction ds with
    | nil => exact trivial
    | cons x ds ih =>
      obtain ⟨⟨D', rfl, hB', hD', hne'⟩, hm⟩ := hm
      refine ⟨⟨D', rfl, hB', (World.putObj_heap_other (fun e => ?_)).trans hD', hne'⟩, ih hm (fun d' hd' => hne d' (List.mem_cons_of_mem _ hd'))⟩
      exact hne _ (List.mem_cons_self ..) (by rw [e])

end Go.Sp
