/- path.hits: the iterator over what a path leads to; how many hits there are. Conditions: none. -/
import Derived.Test.YtoknglpfchjbjaaGreatDoorLeadC
import Derived.Test.YtoknglpfchjbjaaGreatDoorCheck
namespace Go.Proofs.YtoknglpfchjbjaaGreatDoor
open Go.RowKit Go.Sp Go.Maps

attribute [local go_sem] Oper.semAt_some

/-! ### How many -/

def Thin : Nat → TT → Prop
  | 0, _ => False
  | m + 1, T => T.attrs.length ≤ 1048576 ∧ ∀ k ∈ T.kids, Thin m k
theorem thin_rep : ∀ {m : Nat} {F : Nat → Prop} {w : World} {vs : List Value} {T : TT}, (treeS m).rep F w vs T → Thin m T
  | 0, _, _, _, _, h => h
  | m + 1, F, w, vs, T, h => by
    refine ⟨tree_thin h, fun k hk => ?_⟩
    obtain ⟨_, aa, ca, ka, ck, rfl, _, hks⟩ := tree_open h
    obtain ⟨i, hi, rfl⟩ := List.getElem_of_mem hk
    obtain ⟨_, _, _, _, _, hr, _⟩ := hks i hi
    exact thin_rep hr
theorem thoseM_sub (q : PredM) (l : List NX) : (thoseM q l).Sublist l := by
  have main : ∀ k, k ≤ l.length → (thoseL q (·.2) l k).Sublist (l.take k) := by
    intro k
    induction k with
    | zero => intro _; simp [thoseL]
    | succ k ih =>
      intro hk
      rw [thoseL_succ q _ l k (by omega), List.take_succ_eq_append_getElem (by omega)]
      refine (ih (by omega)).append ?_
      split
      · exact List.Sublist.refl _
      · exact List.nil_sublist _
  have := main l.length (Nat.le_refl _)
  rwa [List.take_length] at this
theorem kids0_sub (s : StepM) (ats : List Int) (kids : List TT) : ∀ k, k ≤ kids.length → ((kids0 s ats kids k).map (·.2)).Sublist (kids.take k) := by
  intro k
  induction k with
  | zero => intro _; simp [kids0]
  | succ k ih =>
    intro hk
    rw [kids0_succ s ats kids k (by omega), List.take_succ_eq_append_getElem (by omega), List.map_append]
    refine (ih (by omega)).append ?_
    split
    · exact List.Sublist.refl _
    · exact List.nil_sublist _
theorem kidsM_sub0 (s : StepM) (x : NX) : (kidsM s x).Sublist (kids0 s x.1 x.2.kids x.2.kids.length) := by
  unfold kidsM
  have main : ∀ (ps : List PredM) (l : List NX), (ps.foldl (fun l q => thoseM q l) l).Sublist l := by
    intro ps
    induction ps with
    | nil => exact fun l => List.Sublist.refl _
    | cons p ps ih => exact fun l => (ih _).trans (thoseM_sub p l)
  exact main _ _
theorem kidsM_sub (s : StepM) (x : NX) : ((kidsM s x).map (·.2)).Sublist x.2.kids := by
  have := ((kidsM_sub0 s x).map (·.2)).trans (kids0_sub s x.1 x.2.kids x.2.kids.length (Nat.le_refl _))
  rwa [List.take_length] at this
theorem sub_flat {α β : Type} (f : α → List β) {l1 l2 : List α} (h : l1.Sublist l2) : (l1.flatMap f).length ≤ (l2.flatMap f).length := by
  induction h with
  | slnil => exact Nat.le_refl _
  | cons a _ ih => rw [List.flatMap_cons, List.length_append]; omega
  | cons_cons a _ ih => rw [List.flatMap_cons, List.flatMap_cons, List.length_append, List.length_append]; omega
theorem lead_flat {m M : Nat} {rest : List StepM} : ∀ l : List NX, (∀ y ∈ l, (leadM rest y).length ≤ (nodesM m y.2).length * M) → (l.flatMap (leadM rest)).length ≤ ((l.map (·.2)).flatMap (nodesM m)).length * M
  | [], _ => by simp
  | y :: l, h => by
    have h3 := lead_flat l (fun z hz => h z (by simp [hz]))
    have h2 := h y (by simp)
    rw [List.flatMap_cons, List.map_cons, List.flatMap_cons, List.length_append, List.length_append, Nat.add_mul]
    exact Nat.add_le_add h2 h3
theorem leadM_length {M : Nat} (hM : M = 1048576) : ∀ (steps : List StepM) (m : Nat) (ats : List Int) (T : TT), Thin m T → (leadM steps (ats, T)).length ≤ (nodesM m T).length * M
  | [], 0, _, _, h => h.elim
  | [], m + 1, ats, T, _ => by
    have h3 : 1 ≤ (nodesM (m + 1) T).length := by simp [nodesM]
    have h4 : 1 ≤ M := by omega
    exact Nat.le_trans h4 (Nat.le_mul_of_pos_left M h3)
  | s :: rest, 0, _, _, h => h.elim
  | s :: rest, m + 1, ats, T, h => by
    have h3 : 1 ≤ (nodesM (m + 1) T).length := by simp [nodesM]
    unfold leadM
    split
    · rw [List.length_map]
      have h1 : (T.attrs.filter fun a => fitsB s a.1).length ≤ T.attrs.length := List.length_filter_le _ _
      have h2 : T.attrs.length ≤ M := by rw [hM]; exact h.1
      exact Nat.le_trans h1 (Nat.le_trans h2 (Nat.le_mul_of_pos_left M h3))
    · have h2 := lead_flat (m := m) (M := M) (rest := rest) (kidsM s (ats, T)) (fun y hy => leadM_length hM rest m y.1 y.2 (h.2 _ (kidsM_mem hy).1))
      have h5 : (((kidsM s (ats, T)).map (·.2)).flatMap (nodesM m)).length ≤ (T.kids.flatMap (nodesM m)).length := sub_flat (nodesM m) (kidsM_sub s (ats, T))
      refine Nat.le_trans h2 (Nat.mul_le_mul_right M (Nat.le_trans h5 ?_))
      show _ ≤ (T :: T.kids.flatMap (nodesM m)).length
      exact Nat.le_succ _

/-! ### The iterator -/

theorem GoodH.keep {n₀ B nb : Nat} {x : HX} {W W' : World} (h : GoodH n₀ B nb x W) (hk : WKeeps n₀ B nb W W') : GoodH n₀ B nb x W' := by
  obtain ⟨a, c, h1, h2⟩ := h
  exact ⟨a, c, h1, sl_keep h2 hk⟩

set_option maxRecDepth 100000 in
theorem hits_any (vs : Array Value) (hv : vs.size = 4) (s : Value) (w : World) : Calls Tryz.prog 24 #[.agg vs, .agg #[s]] w (fun e w' => e = .returned (.func (.func 47) #[] #[.pointer (some ⟨w.heap.size, 0, none⟩), .pointer (some ⟨w.heap.size + 1, 0, none⟩)]) ∧ w' = (w.alloc (.cells vs 29)).alloc (.cells #[s] 25)) := by
  go_enter Tryz.func24, Tryz.ntmps24
  go_wp2
  go_ret
  exact ⟨rfl, rfl⟩

set_option maxRecDepth 100000 in
set_option maxHeartbeats 4000000 in
theorem hits_runs (m n₀ B nb tb pb : Nat) (T : TT) (steps : List StepM) (aa ka sa : Option Addr) (ca ck sc : Nat) (w : World) (hnB : n₀ ≤ B) (hrow : RowIn nb B w)
    (htb : Mine nb B tb (.cells #[.string T.label, .string T.text, .slice aa T.attrs.length ca, .slice ka T.kids.length ck] 29) w) (hpb : Mine nb B pb (.cells #[.slice sa steps.length sc] 25) w)
    (hrep : (treeS m).rep (· < n₀) w [.string T.label, .string T.text, .slice aa T.attrs.length ca, .slice ka T.kids.length ck] T) (hsl : Sl pstepS (· < n₀) w sa steps) (hsc : steps.length ≤ sc) (hst : steps.length ≤ 1000) (hwide : (nodesM m T).length ≤ 4096) :
    SeqRuns Tryz.prog 47 #[.pointer (some ⟨tb, 0, none⟩), .pointer (some ⟨pb, 0, none⟩)] encH (GoodH n₀ B nb) (WKeeps n₀ B nb) (fun xs => xs.map (·.2) = leadM steps ([], T)) (fun xs => xs.map (·.2) <+: leadM steps ([], T)) w := by
  intro N l J Jx W hKp hsz hJ hJx hstep hJ0
  have hsW := hKp.low.size
  have hrowW := hrow.keep hKp
  have htW := (htb.keep hKp).2.1
  have hpW := (hpb.keep hKp).2.1
  have t0 : W.cell? ⟨tb, 0, none⟩ = some (.string T.label) := cell_at htW 0
  have t1 : W.cell? ⟨tb, 1, none⟩ = some (.string T.text) := cell_at htW 1
  have t2 : W.cell? ⟨tb, 2, none⟩ = some (.slice aa T.attrs.length ca) := cell_at htW 2
  have t3 : W.cell? ⟨tb, 3, none⟩ = some (.slice ka T.kids.length ck) := cell_at htW 3
  have p0 : W.cell? ⟨pb, 0, none⟩ = some (.slice sa steps.length sc) := cell_at hpW 0
  have btb := (Array.getElem?_eq_some_iff.1 htW).1
  have bpb := (Array.getElem?_eq_some_iff.1 hpW).1
  have hrepW := (treeS m).mono ((treeS m).frame hrep (fun b hb => hKp.low.block b hb)) (fun b hb => (.inl hb : SafeB n₀ B nb W b))
  have hslW := (hsl.frame (fun b hb => hKp.low.block b hb)).mono (fun b hb => (.inl hb : SafeB n₀ B nb W b))
  have hcall := lead_runs steps m n₀ B nb W.heap.size N l J Jx (leadM steps ([], T)) [] [] T none aa ka sa 0 ca ck sc W hnB (Nat.le_refl _) hrowW hJ hJx hstep hJ0 (by simp) Sl.nil hrepW hslW hsc (by simpa using hst) hwide
  have HC := Sp.hid hcall
  clear hcall hrepW hslW htW hpW hrowW hstep hJ hJx hJ0 hKp htb hpb hrep hsl hrow
  refine callsIn_of_wp_marks Tryz.func47 rfl trivial ?_ rfl
  simp only [Tryz.ntmps47, List.size_toArray, List.length_cons, List.length_nil, Nat.reduceAdd, Nat.reduceSub, Array.replicate_succ, Array.replicate_zero, List.push_toArray, List.append_toArray, List.nil_append, List.cons_append]
  gi_wp2
  refine ⟨trivial, (fun h => nomatch h), ?_⟩
  refine (callsIn_any HC.out).mono ?_
  rintro e W2 (⟨rfl, ⟨q, hq, hJ2⟩, hk2, hf2⟩ | ⟨rfl, ⟨q, hq, hJ2⟩, hf2⟩)
  · have HQ := Sp.hid hq
    have HJ2 := Sp.hid hJ2
    clear hq hJ2 hk2 hf2
    gi_wp2
    exact ⟨.tuple #[], by simp [results, Tryz.f47, go_sem], ⟨_, rfl⟩, .inl ⟨q, by simpa using HQ.out, HJ2.out⟩⟩
  · have HQ := Sp.hid hq
    have HJ2 := Sp.hid hJ2
    clear hq hJ2 hf2
    gi_wp2
    exact ⟨.tuple #[], by simp [results, Tryz.f47, go_sem], ⟨_, rfl⟩, .inr ⟨q, HQ.out, HJ2.out⟩⟩

end Go.Proofs.YtoknglpfchjbjaaGreatDoor
