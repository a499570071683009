/- The contracts of package keys: lock, New, Take, Len, align, Align, Left: what each call returns, and that old memory stays. Conditions: lengths under 2^40. -/
import Derived.Test.YtoknglpfchjbjaaDoorRows
import Derived.Test.YtoknglpfchjbjaaDoorBase
import Derived.Test.YtoknglpfchjbjaaDoorRegion
namespace Go.Proofs.YtoknglpfchjbjaaDoor
open Go.RowKit Go.Sp Go.Maps

theorem laidOutK : laidOutB Tryd.prog = true := by kernel_rfl

/-- An entry: its place, whether it has a key, the key. -/
structure Ent where
  pl : Int
  has : Bool
  key : ByteArray

abbrev Lk := Bool × ByteArray
def Ent.lk (e : Ent) : Lk := if e.has then (true, e.key) else (false, ByteArray.empty)
def lkv (k : Lk) : Value := .agg #[.bool k.1, .string k.2]

def entS : Shape Ent where
  sz := 3
  rep _ _ vs x := vs = [.int .i64 x.pl, .bool x.has, .string x.key] ∧ x.key.size ≤ maxLen
  len := by rintro _ _ _ _ ⟨rfl, _⟩; rfl
  frame := by intro _ _ _ _ _ h _; exact h
  mono := by intro _ _ _ _ _ h _; exact h

theorem ent_cells {F : Nat → Prop} {w : World} {a : Option Addr} {es : List Ent} (h : Sl entS F w a es) (i : Nat) (hi : i < es.length) :
    ∃ b o, a = some ⟨b, o, none⟩ ∧ F b ∧ es[i].key.size ≤ maxLen ∧ w.cell? ⟨b, o + i * 3, none⟩ = some (.int .i64 es[i].pl) ∧
      w.cell? ⟨b, o + i * 3 + 1, none⟩ = some (.bool es[i].has) ∧ w.cell? ⟨b, o + i * 3 + 2, none⟩ = some (.string es[i].key) := by
  obtain ⟨b, o, vs, h1, h2, ⟨rfl, h3⟩, h4⟩ := h i hi
  exact ⟨b, o, h1, h2, h3, h4 0 (by simp), h4 1 (by simp), h4 2 (by simp)⟩

theorem lk_size {e : Ent} (h : e.key.size ≤ maxLen) : e.lk.2.size ≤ maxLen := by
  unfold Ent.lk; split
  · exact h
  · simp [maxLen]

set_option maxRecDepth 100000 in
set_option maxHeartbeats 400000 in
theorem lock_any (n : Int) (h : Bool) (s : ByteArray) (w : World) :
    Calls Tryd.prog 71 #[.agg #[.int .i64 n, .bool h, .string s]] w fun e w' => e = .returned (lkv (Ent.lk ⟨n, h, s⟩)) ∧ Below w.heap.size w w' := by
  cases h
  all_goals
    go_enter Tryd.func71, Tryd.ntmps71
    go_wp2
  · exact bodyPost_ret (v := .agg #[.bool false, .string ByteArray.empty]) (by simp [results, Tryd.results71, go_sem, ByteArray.empty, ByteArray.emptyWithCapacity]; rfl) rfl ⟨rfl, ((Below.refl _ _).alloc (Nat.le_refl _) _).alloc (by simp) _⟩
  · exact bodyPost_ret (v := .agg #[.bool true, .string s]) (by simp [results, Tryd.results71, go_sem]) rfl ⟨rfl, ((Below.refl _ _).alloc (Nat.le_refl _) _).alloc (by simp) _⟩

/-! ### The key's type -/
theorem lawK : Keyed Tryd.prog 139 := Keyed.of_law (deep_law_gate laidOutK (of_decide_eq_true (by kernel_rfl)) (of_decide_eq_true (by kernel_rfl)) (by kernel_rfl) (by kernel_rfl))

theorem cellsK : Tryd.prog.cellsOf 139 = 2 := by kernel_rfl
theorem cellsB : Tryd.prog.cellsOf 4 = 1 := by kernel_rfl
theorem cellsS : Tryd.prog.cellsOf 9 = 1 := by kernel_rfl

theorem keyLits_lk {P : Program} {K B S : TypeId} {n : Nat} {f0 f1 : Field} (u1 : P.underlying K = some (.struct #[f0, f1])) (u2 : P.underlying B = some .bool) (u3 : P.underlying S = some .string)
    (c1 : P.cellsOf K = 2) (c2 : P.cellsOf B = 1) (c3 : P.cellsOf S = 1) (t0 : f0.type = B) (o0 : f0.offset = 0) (t1 : f1.type = S) (o1 : f1.offset = 1) (n0 : (f0.name != "_") = true) (n1 : (f1.name != "_") = true) (b : Bool) (s : ByteArray) (h : s.size ≤ maxLen) :
    P.keyLits (n + 2) K [.bool b, .string s] = some [.bool b, .string s.data.toList] := by
  unfold Program.keyLits
  rw [u1]
  simp only [List.length_cons, List.length_nil, c1, n0, n1, List.all_cons, List.all_nil, Array.all_toList, Bool.and_self]
  have e0 : P.keyLits (n + 1) B [.bool b] = some [.bool b] := by unfold Program.keyLits; rw [u2]
  have e1 : P.keyLits (n + 1) S [.string s] = some [.string s.data.toList] := by unfold Program.keyLits; rw [u3]; simp [h]
  simp [t0, o0, t1, o1, c2, c3, e0, e1, n0, n1]

theorem keyOf_lk (k : Lk) (h : k.2.size ≤ maxLen) : ∃ l, keyOf Tryd.prog 139 (lkv k) = some l := by
  have h1 : Tryd.prog.keyType 139 = true := by kernel_rfl
  have hn : Tryd.prog.types.size + 1 = (Tryd.prog.types.size - 1) + 2 := by kernel_rfl
  have u1 := Tryd.underlying139
  have hf : (lkv k).formed Tryd.prog 139 = true := by
    unfold Value.formed lkv
    simp only [u1, cellsK]
    rfl
  have hl : Tryd.prog.keyLits (Tryd.prog.types.size + 1) 139 (lkv k).cells.toList = some [.bool k.1, .string k.2.data.toList] := by
    rw [hn]
    exact keyLits_lk u1 Tryd.underlying4 Tryd.underlying9 cellsK cellsB cellsS rfl rfl rfl rfl (by decide) (by decide) k.1 k.2 h
  unfold keyOf
  simp only [u1, h1, hf, hl, Bool.and_self, if_true, Option.map_some]
  exact ⟨_, rfl⟩

theorem lkv_inj {k k' : Lk} (h : lkv k = lkv k') : k = k' := by
  obtain ⟨a, b⟩ := k
  obtain ⟨a', b'⟩ := k'
  simp [lkv] at h
  obtain ⟨rfl, rfl⟩ := h
  rfl

theorem zeroSl (w : World) : (zeroValue 51).run Tryd.prog w = .ok (.slice none 0 0) w := by kernel_rfl

/-! ### The dictionary -/

/-- What a map's answer at a key says of the places that are left there. -/
def Slot (D T : Nat) (w : World) (ov : Option Value) (zs : List Nat) : Prop :=
  (ov = none ∧ zs = []) ∨ ∃ a cap, ov = some (.slice a zs.length cap) ∧ zs.length ≤ cap ∧ Sl (Shape.int .i64) (fun b => D < b ∧ b < T) w a (zs.map Int.ofNat)

def at_ (src : List Lk) (rem : List Nat) (k : Lk) : List Nat := rem.filter fun p => decide (src[p]? = some k)

/-- Blocks m (the map), d (the struct) and some between d and T (the rows) are a dictionary of entries src, of which those at rem are left. -/
def DictIs (m d T : Nat) (w : World) (src : List Lk) (rem : List Nat) : Prop :=
  rem.length ≤ 1000000 ∧ ∃ f, m < d ∧ d < T ∧ T ≤ w.heap.size ∧ w.cell? ⟨d, 0, none⟩ = some (.map (some m)) ∧ w.cell? ⟨d, 1, none⟩ = some (.int .i64 rem.length) ∧
    w.frozen? ⟨d, 0, none⟩ = false ∧ w.frozen? ⟨d, 1, none⟩ = false ∧ MapIs Tryd.prog 139 w m f ∧
    ∀ k : Lk, k.2.size ≤ maxLen → Slot d T w (f (lkv k)) (at_ src rem k)

/-- All but blocks m and d is as it was. -/
structure Only2 (m d : Nat) (w w' : World) : Prop where
  os : w'.os = w.os
  tape : w'.tape = w.tape
  output : w'.output = w.output
  size : w.heap.size ≤ w'.heap.size
  block : ∀ k, k < w.heap.size → k ≠ m → k ≠ d → w'.heap[k]? = w.heap[k]?

theorem Only2.below {m d : Nat} {w w' : World} (h : Only2 m d w w') (hm : m < d) (hd : d < w.heap.size) : Below m w w' :=
  ⟨h.os, h.tape, h.output, h.size, fun k hk => h.block k (by omega) (by omega) (by omega)⟩

theorem Only2.of_below {m d : Nat} {w w' : World} (h : Below w.heap.size w w') : Only2 m d w w' := ⟨h.os, h.tape, h.output, h.size, fun k hk _ _ => h.block k hk⟩
theorem Only2.trans {m d : Nat} {a b c : World} (h : Only2 m d a b) (k : Only2 m d b c) : Only2 m d a c :=
  ⟨k.os.trans h.os, k.tape.trans h.tape, k.output.trans h.output, Nat.le_trans h.size k.size, fun j hj h1 h2 => (k.block j (Nat.lt_of_lt_of_le hj h.size) h1 h2).trans (h.block j hj h1 h2)⟩
theorem Only2.of_grown {m d : Nat} {w w' : World} (h : w.grownBy w' (some m)) : Only2 m d w w' := ⟨h.os, h.tape, h.output, h.size, fun k hk h1 _ => h.block k hk (by simpa using h1)⟩
theorem Only2.setCell {m d : Nat} {w w' : World} (h : Only2 m d w w') (o : Nat) (v : Value) : Only2 m d w (w'.setCell ⟨d, o, none⟩ v) :=
  ⟨h.os, h.tape, h.output, by rw [World.size_setCell]; exact h.size, fun k hk h1 h2 => (Below.heap_setCell _ _ _ _ (by exact h2)).trans (h.block k hk h1 h2)⟩

theorem Slot.later {D T : Nat} {w w' : World} {ov : Option Value} {zs : List Nat} (h : Slot D T w ov zs) (hb : ∀ k, D < k → k < T → w'.heap[k]? = w.heap[k]?) : Slot D T w' ov zs := by
  rcases h with h | ⟨a, cap, h1, h2, h3⟩
  · exact Or.inl h
  · exact Or.inr ⟨a, cap, h1, h2, h3.frame fun k hk => hb k hk.1 hk.2⟩

theorem DictIs.later {m d T : Nat} {w w' : World} {src : List Lk} {rem : List Nat} (h : DictIs m d T w src rem) (hb : ∀ k, m ≤ k → k < T → w'.heap[k]? = w.heap[k]?) (hs : w.heap.size ≤ w'.heap.size) : DictIs m d T w' src rem := by
  obtain ⟨h0, f, h1, h2, h3, h4, h5, h6, h7, h8, h9⟩ := h
  exact ⟨h0, f, h1, h2, by omega, (World.cell?_of_block (hb d (by omega) h2)).trans h4, (World.cell?_of_block (hb d (by omega) h2)).trans h5, (World.frozen?_of_block (hb d (by omega) h2)).trans h6, (World.frozen?_of_block (hb d (by omega) h2)).trans h7,
    h8.frame (hb m (by omega) (by omega)), fun k hk => (h9 k hk).later (fun j h1 h2 => hb j (by omega) h2)⟩

def takeM (src : List Lk) (rem : List Nat) (k : Lk) : Option Nat := rem.find? fun p => decide (src[p]? = some k)
def restM (src : List Lk) (rem : List Nat) (k : Lk) : List Nat := rem.eraseP fun p => decide (src[p]? = some k)

theorem filter_eraseP_same {α : Type} (q : α → Bool) : ∀ l : List α, (l.eraseP q).filter q = (l.filter q).tail
  | [] => rfl
  | x :: l => by
    by_cases h : q x = true
    · simp [h]
    · have h' : q x = false := by simpa using h
      simp [h', filter_eraseP_same q l]

theorem filter_eraseP_other {α : Type} (q r : α → Bool) (hqr : ∀ x, q x = true → r x = false) : ∀ l : List α, (l.eraseP q).filter r = l.filter r
  | [] => rfl
  | x :: l => by
    by_cases h : q x = true
    · simp [h, hqr x h]
    · have h' : q x = false := by simpa using h
      rw [List.eraseP_cons_of_neg (by simp [h']), List.filter_cons, List.filter_cons, filter_eraseP_other q r hqr l]

theorem at_rest_same (src : List Lk) (rem : List Nat) (k : Lk) : at_ src (restM src rem k) k = (at_ src rem k).tail := filter_eraseP_same _ _
theorem at_rest_other (src : List Lk) (rem : List Nat) {k k' : Lk} (h : k' ≠ k) : at_ src (restM src rem k) k' = at_ src rem k' :=
  filter_eraseP_other _ _ (fun x hx => by
    simp only [decide_eq_true_eq] at hx
    simp only [decide_eq_false_iff_not, hx, Option.some.injEq]
    exact fun e => h e.symm) _

theorem take_none {src : List Lk} {rem : List Nat} {k : Lk} (h : at_ src rem k = []) : takeM src rem k = none ∧ restM src rem k = rem := by
  have h' : ∀ a ∈ rem, ¬ (decide (src[a]? = some k) = true) := by
    intro a ha hd
    have : a ∈ at_ src rem k := List.mem_filter.2 ⟨ha, hd⟩
    rw [h] at this; cases this
  exact ⟨List.find?_eq_none.2 (fun x hx => h' x hx), List.eraseP_of_forall_not h'⟩

theorem take_some {src : List Lk} {rem : List Nat} {k : Lk} {p : Nat} {ps : List Nat} (h : at_ src rem k = p :: ps) : takeM src rem k = some p ∧ (restM src rem k).length + 1 = rem.length := by
  have hm : p ∈ at_ src rem k := by rw [h]; simp
  have hp := List.mem_filter.1 hm
  refine ⟨?_, ?_⟩
  · unfold takeM; rw [← List.head?_filter]; unfold at_ at h; rw [h]; rfl
  · unfold restM; rw [List.length_eraseP_of_mem hp.1 hp.2]; have : 0 < rem.length := List.length_pos_of_mem hp.1; omega



set_option maxRecDepth 100000 in
set_option maxHeartbeats 400000 in
theorem take_any (m d T : Nat) (src : List Lk) (rem : List Nat) (n : Int) (hs : Bool) (s : ByteArray) (w : World) (h : DictIs m d T w src rem) (hsz : s.size ≤ maxLen) :
    Calls Tryd.prog 48 #[.pointer (some ⟨d, 0, none⟩), .agg #[.int .i64 n, .bool hs, .string s]] w fun e w' =>
      e = .returned (.tuple #[.int .i64 ((takeM src rem (Ent.lk ⟨n, hs, s⟩)).getD 0 : Nat), .bool (takeM src rem (Ent.lk ⟨n, hs, s⟩)).isSome]) ∧ DictIs m d T w' src (restM src rem (Ent.lk ⟨n, hs, s⟩)) ∧ Only2 m d w w' := by
  obtain ⟨h0, f, h3, hdT, hTw, h4, h5, h6, h7, h8, h9⟩ := h
  go_enter Tryd.func48, Tryd.ntmps48
  go_wp2
  have hkl := lk_size (e := ⟨n, hs, s⟩) hsz
  obtain ⟨l, hl⟩ := keyOf_lk (Ent.lk ⟨n, hs, s⟩) hkl
  have hlt : m < w.heap.size := h8.lt
  have hdlt : d < w.heap.size := World.block_lt_of_cell? w _ h4
  refine wp_region_facts (by kernel_rfl) [some 9, some 10, some 11, some 12, some 13, some 14, some 15, some 6]
    [fun v _ => v = .pointer (some ⟨d, 0, none⟩), fun v _ => v = .pointer (some ⟨d, 0, none⟩), fun v _ => v = .pointer (some ⟨d, 0, none⟩), fun v _ => v = .map (some m),
      fun v _ => v = .agg #[.int .i64 n, .bool hs, .string s], fun v _ => v = lkv (Ent.lk ⟨n, hs, s⟩), fun v _ => v = (f (lkv (Ent.lk ⟨n, hs, s⟩))).getD (.slice none 0 0), fun v _ => v = (f (lkv (Ent.lk ⟨n, hs, s⟩))).getD (.slice none 0 0)]
    (fun w' => Below (w.heap.size + 1) (w.alloc (.cells #[.int .i64 n, .bool hs, .string s] 38)) w') (fun _ w w' => Below w.heap.size w w') rfl (by kernel_rfl) (by kernel_rfl) (by kernel_rfl) ?fr ?hfr ?G0 ?GR ?FR ?step ?fin
  case hfr => intro u; simp only [Sp.fillFrom, Sp.idx_cons, Sp.idx_nil, Option.some.injEq, reduceCtorEq, reduceIte, Nat.reduceEqDiff, Nat.reduceAdd, Option.map_some, Option.map_none]; exact rfl
  case G0 => exact (Below.refl _ _).drew
  case GR => exact fun _ _ _ hG hR => hG.trans (hR.mono (by have := hG.size; simp at this; omega))
  case FR => repeat (first | exact trivial | refine ⟨fun _ _ _ _ _ _ _ h => h, ?_⟩)
  case step =>
    refine ⟨?_, ?_, ?_, ?_, ?_, ?_, ?_, ?_, trivial⟩
    all_goals
      intro u w1 hG hD; simp only [Sp.DepsHold, Sp.factAt, Region.binds, List.getElem?_cons_zero, List.getElem?_cons_succ, List.getElem?_nil, Option.getD_some, Option.getD_none, and_true, true_and, true_implies, implies_true] at hD; dsimp only; generalize u 0 = u0 at *; generalize u 1 = u1 at *; generalize u 2 = u2 at *; generalize u 3 = u3 at *; generalize u 4 = u4 at *; generalize u 5 = u5 at *; generalize u 6 = u6 at *; generalize u 7 = u7 at *; clear u
      have c0 : w1.cell? ⟨d, 0, none⟩ = some (.map (some m)) := by rw [hG.cell (p := ⟨d, 0, none⟩) (by show d < _; omega), Below.cell ((Below.refl _ _).alloc (Nat.le_refl _) _) (p := ⟨d, 0, none⟩) hdlt]; exact h4
      have c1 : w1.cell? ⟨w.heap.size, 0, none⟩ = some (.int .i64 n) := by rw [hG.cell (p := ⟨w.heap.size, 0, none⟩) (by show w.heap.size < _; omega)]; simp
      have c2 : w1.cell? ⟨w.heap.size, 1, none⟩ = some (.bool hs) := by rw [hG.cell (p := ⟨w.heap.size, 1, none⟩) (by show w.heap.size < _; omega)]; simp
      have c3 : w1.cell? ⟨w.heap.size, 2, none⟩ = some (.string s) := by rw [hG.cell (p := ⟨w.heap.size, 2, none⟩) (by show w.heap.size < _; omega)]; simp
      have HG := Sp.hid hG
      clear hG
      try obtain rfl := hD
      try obtain ⟨rfl, rfl⟩ := hD
      try obtain ⟨rfl, _⟩ := hD
    all_goals first | (go_wp2; exact ⟨Below.refl _ _, _, rfl, rfl⟩) | skip
    · go_wp2_with (go_at_call 71; refine (lock_any _ _ _ _).mono ?_; rintro e w2 ⟨rfl, hb2⟩)
      exact ⟨hb2, _, rfl, rfl⟩
    · have hM : MapIs Tryd.prog 139 w1 m f := h8.frame (by rw [HG.out.block m (by omega)]; exact Below.heap_alloc _ _ _ hlt)
      go_wp2_with (at_lookup; refine wpList_look _ rfl _ _ 135 false rfl hM lawK Tryd.underlying135 (zeroSl _) rfl rfl hl ?_)
      exact ⟨Below.refl _ _, _, rfl, rfl⟩
  case fin =>
    intro u w1 hG hF; simp only [Sp.AllF, and_true] at hF; (try dsimp only); generalize u 0 = u0 at *; generalize u 1 = u1 at *; generalize u 2 = u2 at *; generalize u 3 = u3 at *; generalize u 4 = u4 at *; generalize u 5 = u5 at *; generalize u 6 = u6 at *; generalize u 7 = u7 at *; clear u
    obtain ⟨rfl, rfl, rfl, rfl, rfl, rfl, rfl, rfl⟩ := hF
    have hblk : ∀ j, j < w.heap.size → w1.heap[j]? = w.heap[j]? := fun j hj => by rw [hG.block j (by omega)]; exact Below.heap_alloc _ _ _ hj
    have hsz1 : w.heap.size + 1 ≤ w1.heap.size := by have := hG.size; simpa using this
    have hcell : ∀ b o, b < w.heap.size → w1.cell? ⟨b, o, none⟩ = w.cell? ⟨b, o, none⟩ := fun b o hb => World.cell?_of_block (a := ⟨b, o, none⟩) (hblk b hb)
    have hfroz : ∀ b o, b < w.heap.size → w1.frozen? ⟨b, o, none⟩ = w.frozen? ⟨b, o, none⟩ := fun b o hb => World.frozen?_of_block (a := ⟨b, o, none⟩) (hblk b hb)
    have hB1 : Below w.heap.size w w1 := ((Below.refl _ _).alloc (Nat.le_refl _) _).trans (hG.mono (by omega))
    have c1 : w1.cell? ⟨w.heap.size, 0, none⟩ = some (.int .i64 n) := by rw [hG.cell (p := ⟨w.heap.size, 0, none⟩) (by show w.heap.size < _; omega)]; simp
    have c2 : w1.cell? ⟨w.heap.size, 1, none⟩ = some (.bool hs) := by rw [hG.cell (p := ⟨w.heap.size, 1, none⟩) (by show w.heap.size < _; omega)]; simp
    have c3 : w1.cell? ⟨w.heap.size, 2, none⟩ = some (.string s) := by rw [hG.cell (p := ⟨w.heap.size, 2, none⟩) (by show w.heap.size < _; omega)]; simp
    have HG := Sp.hid hB1
    have HB := Sp.hid hblk
    have HC := Sp.hid hcell
    have HF := Sp.hid hfroz
    clear hG hblk hB1 hcell hfroz
    have hslot := h9 _ hkl
    cases hat : at_ src rem (Ent.lk ⟨n, hs, s⟩) with
    | nil =>
      have hT := take_none hat
      have hv : (f (lkv (Ent.lk ⟨n, hs, s⟩))).getD (.slice none 0 0) = .slice none 0 0 ∨ ∃ a cap, (f (lkv (Ent.lk ⟨n, hs, s⟩))).getD (.slice none 0 0) = .slice a 0 cap := by
        rcases hslot with ⟨hf, hz⟩ | ⟨a, cap, hf, hc, hsl⟩
        · left; rw [hf]; rfl
        · right; rw [hf]; exact ⟨a, cap, by rw [hat]; rfl⟩
      have hv' : ∃ a cap, (f (lkv (Ent.lk ⟨n, hs, s⟩))).getD (.slice none 0 0) = .slice a 0 cap := by
        rcases hv with h | h
        · exact ⟨none, 0, h⟩
        · exact h
      obtain ⟨a, cap, hv⟩ := hv'
      rw [hv]
      have HT := Sp.hid hT
      have HS := Sp.hid h9
      clear hT hv hslot hat h9
      go_wp2
      go_ret2
      refine ⟨by rw [HT.out.1]; rfl, ?_, Only2.of_below HG.out⟩
      rw [HT.out.2]
      exact DictIs.later ⟨h0, f, h3, hdT, hTw, h4, h5, h6, h7, h8, HS.out⟩ (fun k _ hk => HB.out k (by omega)) (by omega)
    | cons p ps =>
      have hT := take_some hat
      have hv : ∃ b o cap, f (lkv (Ent.lk ⟨n, hs, s⟩)) = some (.slice (some ⟨b, o, none⟩) (ps.length + 1) cap) ∧ ps.length + 1 ≤ cap ∧ d < b ∧ b < T ∧ w.cell? ⟨b, o, none⟩ = some (.int .i64 p) ∧
          Sl (Shape.int .i64) (fun b => d < b ∧ b < T) w (some ⟨b, o + 1, none⟩) (ps.map Int.ofNat) := by
        rcases hslot with ⟨hf, hz⟩ | ⟨a, cap, hf, hc, hsl⟩
        · rw [hat] at hz; cases hz
        · rw [hat] at hf hc hsl
          obtain ⟨b, o, rfl, hb, hcl⟩ := hsl.int_cell 0 (by simp)
          refine ⟨b, o, cap, hf, hc, hb.1, hb.2, by simpa using hcl, ?_⟩
          exact hsl.tail
      obtain ⟨b, o, cap, hf, hcap, hb1, hbT, hcl, htl⟩ := hv
      have hb2 : b < w.heap.size := by omega
      rw [hf]
      dsimp only [Option.getD_some]
      have hcl1 : w1.cell? ⟨b, o, none⟩ = some (.int .i64 p) := by rw [HC.out b o hb2]; exact hcl
      have HT := Sp.hid hT
      have HS := Sp.hid h9
      have HA := Sp.hid hat
      have HV := Sp.hid hf
      have HL := Sp.hid htl
      clear hT hslot hat h9 hf htl
      have hlen0 : ((ps.length + 1 : Nat) : Int) ≠ 0 := by omega
      go_wp2
      refine wp_region_last (by kernel_rfl) [some 19, some 20, some 21, some 22, some 23, some 24, some 25, some 26, none]
        [fun v _ => v = .pointer (some ⟨d, 0, none⟩), fun v _ => v = .pointer (some ⟨d, 0, none⟩), fun v _ => v = .pointer (some ⟨d, 0, none⟩), fun v _ => v = .map (some m),
          fun v _ => v = .agg #[.int .i64 n, .bool hs, .string s], fun v _ => v = lkv (Ent.lk ⟨n, hs, s⟩), fun v _ => v = .slice (some ⟨b, o, none⟩) (ps.length + 1) cap, fun v _ => ∃ a cap', v = .slice a ps.length cap' ∧ ps.length ≤ cap' ∧ (ps = [] ∨ a = some ⟨b, o + 1, none⟩)]
        (fun w' => Below w1.heap.size w1 w') (fun _ w w' => Below w.heap.size w w') rfl (by kernel_rfl) (by kernel_rfl) (by kernel_rfl) (by kernel_rfl) ?fr6 ?hfr6 ?G06 ?GR6 ?FR6 ?step6 _ rfl ?fin6
      case hfr6 => intro u; simp only [Sp.fillFrom, Sp.idx_cons, Sp.idx_nil, Option.some.injEq, reduceCtorEq, reduceIte, Nat.reduceEqDiff, Nat.reduceAdd, Option.map_some, Option.map_none]; exact rfl
      case G06 => exact (Below.refl _ _).drew
      case GR6 => exact fun _ _ _ hG hR => hG.trans (hR.mono hG.size)
      case FR6 => repeat (first | exact trivial | refine ⟨fun _ _ _ _ _ _ _ h => h, ?_⟩)
      case step6 =>
        refine ⟨?_, ?_, ?_, ?_, ?_, ?_, ?_, ?_, trivial⟩
        all_goals
          intro u w2 hG hD
          have cd : w2.cell? ⟨d, 0, none⟩ = some (.map (some m)) := by rw [hG.cell (p := ⟨d, 0, none⟩) (by show d < _; omega), HC.out d 0 hdlt]; exact h4
          have e1 : w2.cell? ⟨w.heap.size, 0, none⟩ = some (.int .i64 n) := by rw [hG.cell (p := ⟨w.heap.size, 0, none⟩) (by show w.heap.size < _; omega)]; exact c1
          have e2 : w2.cell? ⟨w.heap.size, 1, none⟩ = some (.bool hs) := by rw [hG.cell (p := ⟨w.heap.size, 1, none⟩) (by show w.heap.size < _; omega)]; exact c2
          have e3 : w2.cell? ⟨w.heap.size, 2, none⟩ = some (.string s) := by rw [hG.cell (p := ⟨w.heap.size, 2, none⟩) (by show w.heap.size < _; omega)]; exact c3
          simp only [Sp.DepsHold, Sp.factAt, Region.binds, List.getElem?_cons_zero, List.getElem?_cons_succ, List.getElem?_nil, Option.getD_some, Option.getD_none, and_true, true_and, true_implies, implies_true] at hD; dsimp only; generalize u 0 = u0 at *; generalize u 1 = u1 at *; generalize u 2 = u2 at *; generalize u 3 = u3 at *; generalize u 4 = u4 at *; generalize u 5 = u5 at *; generalize u 6 = u6 at *; generalize u 7 = u7 at *; clear u
          clear hG
          try obtain rfl := hD
        all_goals first | (go_wp2; exact ⟨Below.refl _ _, _, rfl, rfl⟩) | skip
        · go_wp2_with (go_at_call 71; refine (lock_any _ _ _ _).mono ?_; rintro e w3 ⟨rfl, hb3⟩)
          exact ⟨hb3, _, rfl, rfl⟩
        · go_wp2
          · exact ⟨Below.refl _ _, _, rfl, _, _, rfl, by omega, Or.inl (List.length_eq_zero_iff.1 (by omega))⟩
          · exact ⟨Below.refl _ _, _, rfl, _, _, rfl, by omega, Or.inr rfl⟩
      case fin6 =>
        intro u w2 hG hF
        simp only [Sp.AllF, and_true] at hF; (try dsimp only); generalize u 0 = u0 at *; generalize u 1 = u1 at *; generalize u 2 = u2 at *; generalize u 3 = u3 at *; generalize u 4 = u4 at *; generalize u 5 = u5 at *; generalize u 6 = u6 at *; generalize u 7 = u7 at *; clear u
        obtain ⟨rfl, rfl, rfl, rfl, rfl, rfl, rfl, a, cap', rfl, hcap', ha⟩ := hF
        have hM : MapIs Tryd.prog 139 w2 m f := h8.frame (by rw [hG.block m (by omega)]; exact HB.out m hlt)
        refine wpList_mapStore _ rfl _ _ _ 135 rfl hM lawK Tryd.underlying135 rfl rfl rfl hl ?_
        intro w3 hM3 hg3 hs3
        refine stepEnd ?_
        have hB2 : ∀ j, j < w.heap.size → j ≠ m → w3.heap[j]? = w.heap[j]? := fun j hj hjm => by
          have e1 := hg3.block j (by have := hG.size; omega) (by simpa using hjm)
          rw [e1, hG.block j (by omega)]
          exact HB.out j hj
        have hs4 : w.heap.size + 1 ≤ w3.heap.size := by have := hG.size; omega
        have cd1 : w3.cell? ⟨d, 1, none⟩ = some (.int .i64 rem.length) := by rw [World.cell?_of_block (a := ⟨d, 1, none⟩) (hB2 d hdlt (by omega))]; exact h5
        have fd1 : w3.frozen? ⟨d, 1, none⟩ = false := by rw [World.frozen?_of_block (a := ⟨d, 1, none⟩) (hB2 d hdlt (by omega))]; exact h7
        have hbm : b ≠ m := by rintro rfl; obtain ⟨es, cl, hm, _⟩ := h8; simp [World.cell?, hm] at hcl
        have cb : w3.cell? ⟨b, o, none⟩ = some (.int .i64 p) := by rw [World.cell?_of_block (a := ⟨b, o, none⟩) (hB2 b hb2 hbm)]; exact hcl
        have hbd : b ≠ d := by omega
        have HM3 : Hid (MapIs Tryd.prog 139 w3 m (upd f (lkv (Ent.lk ⟨n, hs, s⟩)) (.slice a ps.length cap'))) := Sp.hid hM3
        have HG3 := Sp.hid hg3
        have HB2 := Sp.hid hB2
        have hrpos : 1 ≤ rem.length := by have := HT.out.2; omega
        have HBW : Hid (Only2 m d w w3) := Sp.hid (((Only2.of_below HG.out).trans (Only2.of_below hG)).trans (Only2.of_grown hg3))
        clear hM3 hg3 hB2 hM hG
        go_wp2
        go_ret2
        have hrl := HT.out.2
        refine ⟨by rw [HT.out.1]; rfl, ⟨by omega, upd f (lkv (Ent.lk ⟨n, hs, s⟩)) (.slice a ps.length cap'), h3, hdT, by rw [World.size_setCell]; omega, ?_, ?_, by rw [World.frozen?_setCell]; rw [World.frozen?_of_block (a := ⟨d, 0, none⟩) (HB2.out d hdlt (by omega))]; exact h6, by rw [World.frozen?_setCell]; exact fd1, ?_, ?_⟩, HBW.out.setCell _ _⟩
        · rw [World.cell?_setCell_other _ _ _ _ (by simp), World.cell?_of_block (a := ⟨d, 0, none⟩) (HB2.out d hdlt (by omega))]; exact h4
        · rw [World.cell?_setCell_same _ _ _ cd1]
          congr 2
          omega
        · exact HM3.out.frame (Below.heap_setCell _ _ _ _ (by show m ≠ d; omega))
        · intro k hk
          have hrows : ∀ j, d < j → j < T → (w3.setCell ⟨d, 1, none⟩ (.int .i64 ((rem.length : Int) - 1))).heap[j]? = w.heap[j]? := fun j hdj hj => by
            rw [Below.heap_setCell _ _ _ _ (by show j ≠ d; omega)]
            exact HB2.out j (by omega) (by omega)
          by_cases hkk : k = Ent.lk ⟨n, hs, s⟩
          · subst hkk
            rw [upd_same, at_rest_same, HA.out]
            refine Or.inr ⟨a, cap', rfl, hcap', ?_⟩
            rcases ha with rfl | rfl
            · exact Sl.nil
            · exact HL.out.frame fun j hj => hrows j hj.1 hj.2
          · rw [upd_other _ _ (fun e => hkk (lkv_inj e)), at_rest_other _ _ hkk]
            exact (HS.out k hk).later hrows

end Go.Proofs.YtoknglpfchjbjaaDoor
