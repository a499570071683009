/- keys.New: the dictionary that it returns. Conditions: at most 1000000 entries. -/
import Derived.Test.YtoknglpfchjbjaaDoorKeys
import Derived.Deep.LoopGhost
namespace Go.Proofs.YtoknglpfchjbjaaDoor
open Go.RowKit Go.Sp Go.Maps

theorem at_step (src : List Lk) (k : Nat) (h : k < src.length) (key : Lk) : at_ src (List.range (k + 1)) key = at_ src (List.range k) key ++ (if src[k] = key then [k] else []) := by
  unfold at_
  rw [List.range_succ, List.filter_append]
  congr 1
  by_cases hk : src[k] = key <;> simp [List.filter_cons, List.getElem?_eq_getElem h, hk]

theorem at_length (src : List Lk) (k : Nat) (key : Lk) : (at_ src (List.range k) key).length ≤ k := by
  unfold at_
  exact Nat.le_trans (List.length_filter_le _ _) (by simp)

/-- A key's row while the dictionary is made. -/
def Row (D : Nat) (w : World) (ov : Option Value) (zs : List Nat) : Prop :=
  (ov = none ∧ zs = []) ∨ ∃ v, ov = some v ∧ w.ownsRow (D + 1) 3 1 v zs.length (zs.map fun z => Value.int .i64 (z : Nat))

theorem Row.slot {D : Nat} {w : World} {ov : Option Value} {zs : List Nat} (h : Row D w ov zs) : Slot D w.heap.size w ov zs := by
  rcases h with h | ⟨v, rfl, h⟩
  · exact Or.inl h
  · have h' : w.ownsRow (D + 1) 3 1 v zs.length ((zs.map Int.ofNat).map (Value.int .i64)) := by simpa [List.map_map, Function.comp_def] using h
    obtain ⟨a, cap, rfl, hn, hc, _, _, hs⟩ := own_ints h'
    exact Or.inr ⟨a, cap, rfl, hc, hs.mono fun b hb => ⟨by omega, hb.2⟩⟩

theorem Row.kept {D : Nat} {w w' : World} {row : Option Nat} {ov : Option Value} {zs : List Nat} (h : Row D w ov zs) (hg : w.grownBy w' row) (hne : ∀ v, ov = some v → v.ownBlock = none ∨ v.ownBlock ≠ row) : Row D w' ov zs := by
  rcases h with h | ⟨v, rfl, h⟩
  · exact Or.inl h
  · exact Or.inr ⟨v, rfl, h.kept hg (hne v rfl)⟩

/-- The dictionary while it is made: k entries are in. -/
def Making (w : World) (m d : Nat) (src : List Lk) (k : Nat) : Prop :=
  ∃ f, m < d ∧ w.cell? ⟨d, 0, none⟩ = some (.map (some m)) ∧ w.cell? ⟨d, 1, none⟩ = some (.int .i64 src.length) ∧
    w.frozen? ⟨d, 0, none⟩ = false ∧ w.frozen? ⟨d, 1, none⟩ = false ∧ MapIs Tryd.prog 139 w m f ∧
    (∀ key : Lk, key.2.size ≤ maxLen → Row d w (f (lkv key)) (at_ src (List.range k) key)) ∧
    (∀ key v, f key = some v → v.ownBlock = none ∨ ∃ g, v.ownBlock = some g ∧ d < g ∧ g < w.heap.size) ∧
    ∀ key key' v v', key ≠ key' → f key = some v → f key' = some v' → v.ownBlock = none ∨ v.ownBlock ≠ v'.ownBlock

theorem Making.dict {w : World} {m d : Nat} {src : List Lk} (h : Making w m d src src.length) (hl : src.length ≤ 1000000) : DictIs m d w.heap.size w src (List.range src.length) := by
  obtain ⟨f, h1, h2, h3, h4, h5, h6, h7, _, _⟩ := h
  exact ⟨by simpa using hl, f, h1, World.block_lt_of_cell? w _ h2, Nat.le_refl _, h2, by simpa using h3, h4, h5, h6, fun key hk => (h7 key hk).slot⟩

theorem Making.step {w w1 w2 : World} {m d k : Nat} {src : List Lk} {f : Value → Option Value} {v0 v : Value} {key : Lk}
    (hk : k < src.length) (hkey : src[k] = key) (hd : d < w.heap.size)
    (h1 : m < d) (h2 : w.cell? ⟨d, 0, none⟩ = some (.map (some m))) (h3 : w.cell? ⟨d, 1, none⟩ = some (.int .i64 src.length))
    (h4 : w.frozen? ⟨d, 0, none⟩ = false) (h5 : w.frozen? ⟨d, 1, none⟩ = false)
    (h7 : ∀ key : Lk, key.2.size ≤ maxLen → Row d w (f (lkv key)) (at_ src (List.range k) key))
    (h8 : ∀ key v, f key = some v → v.ownBlock = none ∨ ∃ g, v.ownBlock = some g ∧ d < g ∧ g < w.heap.size)
    (h9 : ∀ key key' v v', key ≠ key' → f key = some v → f key' = some v' → v.ownBlock = none ∨ v.ownBlock ≠ v'.ownBlock)
    (hv0 : v0 = (f (lkv key)).getD (.slice none 0 0)) (hg1 : w.grownBy w1 v0.ownBlock)
    (hown : w1.ownsRow (d + 1) 3 1 v ((at_ src (List.range k) key).length + 1) (((at_ src (List.range k) key).map fun z => Value.int .i64 (z : Nat)) ++ [.int .i64 (k : Nat)]))
    (hloc : v.ownBlock = v0.ownBlock ∨ ∃ g, v.ownBlock = some g ∧ w.heap.size ≤ g)
    (hM : MapIs Tryd.prog 139 w2 m (upd f (lkv key) v)) (hg2 : w1.grownBy w2 (some m)) : Making w2 m d src (k + 1) := by
  have hv0b : v0.ownBlock = none ∨ ∃ g, v0.ownBlock = some g ∧ d < g ∧ g < w.heap.size := by
    cases hf : f (lkv key) with
    | none => left; rw [hv0, hf]; rfl
    | some u => rw [hv0, hf]; exact h8 _ u hf
  have hblk : ∀ j, j ≤ d → j ≠ m → w2.heap[j]? = w.heap[j]? := fun j hj hjm => by
    rw [hg2.block j (by have := hg1.size; omega) (by simpa using hjm)]
    refine hg1.block j (by omega) ?_
    rcases hv0b with h | ⟨g, h, hg, _⟩
    · rw [h]; simp
    · rw [h]; simp; omega
  have hne_m : ∀ {u : Value} {g : Nat}, u.ownBlock = some g → d < g → u.ownBlock ≠ some m := fun h hg e => by rw [h] at e; cases e; omega
  have hoth : ∀ key' u, key' ≠ lkv key → f key' = some u → u.ownBlock = none ∨ (u.ownBlock ≠ v0.ownBlock ∧ u.ownBlock ≠ some m ∧ u.ownBlock ≠ v.ownBlock) := by
    intro key' u hne hu
    rcases h8 key' u hu with h | ⟨g, h, hg, hgs⟩
    · exact Or.inl h
    have e0 : u.ownBlock ≠ v0.ownBlock := by
      cases hf : f (lkv key) with
      | none => rw [hv0, hf]; rw [h]; simp [Value.ownBlock]
      | some u0 =>
        rw [hv0, hf]
        rcases h9 _ _ u u0 hne hu hf with h' | h'
        · rw [h] at h'; cases h'
        · exact h'
    refine Or.inr ⟨e0, hne_m h hg, ?_⟩
    rcases hloc with h' | ⟨g', h', hg'⟩
    · rw [h']; exact e0
    · rw [h, h']; simp; omega
  have hs1 := hg1.size
  have hs2 := hg2.size
  have hvb : v.ownBlock = none ∨ ∃ g, v.ownBlock = some g ∧ d < g ∧ g < w2.heap.size := by
    cases hb : v.ownBlock with
    | none => exact Or.inl rfl
    | some g => have := hown.lt g hb; exact Or.inr ⟨g, rfl, by omega, by omega⟩
  refine ⟨_, h1, ?_, ?_, ?_, ?_, hM, ?_, ?_, ?_⟩
  · rw [World.cell?_of_block (a := ⟨d, 0, none⟩) (hblk d (Nat.le_refl _) (by omega))]; exact h2
  · rw [World.cell?_of_block (a := ⟨d, 1, none⟩) (hblk d (Nat.le_refl _) (by omega))]; exact h3
  · rw [World.frozen?_of_block (a := ⟨d, 0, none⟩) (hblk d (Nat.le_refl _) (by omega))]; exact h4
  · rw [World.frozen?_of_block (a := ⟨d, 1, none⟩) (hblk d (Nat.le_refl _) (by omega))]; exact h5
  · intro key' hs
    rw [at_step src k hk]
    by_cases hkk : key' = key
    · subst hkk
      rw [upd_same, if_pos hkey]
      refine Or.inr ⟨v, rfl, ?_⟩
      have := hown.kept hg2 (by
        rcases hvb with h | ⟨g, h, hg, _⟩
        · exact Or.inl h
        · exact Or.inr (hne_m h hg))
      simpa using this
    · rw [upd_other _ _ (fun e => hkk (lkv_inj e)), if_neg (by rw [hkey]; exact fun e => hkk e.symm), List.append_nil]
      refine ((h7 key' hs).kept hg1 ?_).kept hg2 ?_
      · intro u hu
        rcases hoth _ u (fun e => hkk (lkv_inj e)) hu with h | ⟨h, _, _⟩
        · exact Or.inl h
        · exact Or.inr h
      · intro u hu
        rcases hoth _ u (fun e => hkk (lkv_inj e)) hu with h | ⟨_, h, _⟩
        · exact Or.inl h
        · exact Or.inr h
  · intro key' u hu
    by_cases hkk : key' = lkv key
    · subst hkk; rw [upd_same] at hu; cases hu; exact hvb
    · rw [upd_other _ _ hkk] at hu
      rcases h8 key' u hu with h | ⟨g, h, hg, hgs⟩
      · exact Or.inl h
      · exact Or.inr ⟨g, h, hg, by omega⟩
  · intro key1 key2 u1 u2 hne hu1 hu2
    by_cases hk1 : key1 = lkv key
    · by_cases hk2 : key2 = lkv key
      · exact absurd (hk1.trans hk2.symm) hne
      · subst hk1
        rw [upd_same] at hu1
        rw [upd_other _ _ hk2] at hu2
        cases hu1
        rcases hoth _ u2 hk2 hu2 with h | ⟨_, _, h⟩
        · cases hb : v.ownBlock with
          | none => exact Or.inl rfl
          | some g => rw [h]; simp
        · exact Or.inr fun e => h e.symm
    · rw [upd_other _ _ hk1] at hu1
      by_cases hk2 : key2 = lkv key
      · subst hk2
        rw [upd_same] at hu2
        cases hu2
        rcases hoth _ u1 hk1 hu1 with h | ⟨_, _, h⟩
        · exact Or.inl h
        · exact Or.inr h
      · rw [upd_other _ _ hk2] at hu2
        exact h9 key1 key2 u1 u2 hne hu1 hu2

theorem infoInt : (Tryd.prog.info? 3).map (fun i => (i.zero, i.size, i.bytes)) = some (some (.int .i64 0), 1, 8) := by kernel_rfl

theorem Making.start (w : World) (n : Nat) (src : List Lk) (h : src.length = n) : Making ((w.alloc (.map #[] 0)).alloc (.cells #[.map (some w.heap.size), .int .i64 n] 137)) w.heap.size (w.heap.size + 1) src 0 := by
  refine ⟨fun _ => none, by omega, by go_simp, by rw [h]; go_simp, by go_simp, by go_simp, MapIs.frame (MapIs.made w) (Below.heap_alloc _ _ _ (by simp)), fun key _ => Or.inl ⟨rfl, rfl⟩, by simp, by simp⟩

set_option maxRecDepth 100000 in
set_option maxHeartbeats 1000000 in
theorem new_any (a : Option Addr) (cap : Nat) (es : List Ent) (w : World) (hes : Sl entS (· < w.heap.size) w a es) (hlen : es.length ≤ 1000000) :
    Calls Tryd.prog 47 #[.slice a es.length cap] w fun e w' => e = .returned (.pointer (some ⟨w.heap.size + 1, 0, none⟩)) ∧ DictIs w.heap.size (w.heap.size + 1) w'.heap.size w' (es.map Ent.lk) (List.range es.length) ∧ Below w.heap.size w w' := by
  have hmm := @run_makeMap Tryd.prog
  obtain ⟨i0, hi0, hz0, hz1, hz2⟩ := info_parts infoInt
  have HES := Sp.hid hes
  clear hes
  go_enter Tryd.func47, Tryd.ntmps47
  go_wp2
  go_loopw [13] (fun i wr => ∃ k : Nat, k ≤ es.length ∧ i = .int .i64 k ∧ Making wr w.heap.size (w.heap.size + 1) (es.map Ent.lk) k ∧ Below w.heap.size w wr) (fun i _ => es.length - (intOf i).toNat)
  case atStart => exact ⟨0, by omega, rfl, Making.start w _ _ (by simp), ((Below.refl _ _).alloc (Nat.le_refl _) _).alloc (by simp) _⟩
  case round =>
    obtain ⟨k, hk, rfl, hmk, hb⟩ := hrel
    by_cases hlt : k < es.length
    · obtain ⟨b, o, rfl, hblt, hsz, e1, e2, e3⟩ := ent_cells HES.out k hlt
      have c1 : wr.cell? ⟨b, o + k * 3, none⟩ = some (.int .i64 es[k].pl) := by rw [hb.cell (p := ⟨b, _, none⟩) hblt]; exact e1
      have c2 : wr.cell? ⟨b, o + k * 3 + 1, none⟩ = some (.bool es[k].has) := by rw [hb.cell (p := ⟨b, _, none⟩) hblt]; exact e2
      have c3 : wr.cell? ⟨b, o + k * 3 + 2, none⟩ = some (.string es[k].key) := by rw [hb.cell (p := ⟨b, _, none⟩) hblt]; exact e3
      obtain ⟨f, g1, g2, g3, g4, g5, g6, g7, g8, g9⟩ := hmk
      obtain ⟨en, hen⟩ : ∃ en, en = es[k] := ⟨_, rfl⟩
      rw [← hen] at c1 c2 c3 hsz
      have hkl := lk_size (e := en) hsz
      obtain ⟨l, hl⟩ := keyOf_lk en.lk hkl
      obtain ⟨v0, hv0⟩ : ∃ v0, v0 = (f (lkv en.lk)).getD (.slice none 0 0) := ⟨_, rfl⟩
      have hb0 : v0.ownBlock = none ∨ ∃ g, v0.ownBlock = some g ∧ g < wr.heap.size := by
        cases hf : f (lkv en.lk) with
        | none => left; rw [hv0, hf]; rfl
        | some u =>
          rw [hv0, hf]
          rcases g8 _ u hf with h | ⟨g, h, _, h'⟩
          · exact Or.inl h
          · exact Or.inr ⟨g, h, h'⟩
      obtain ⟨zs, hzs⟩ : ∃ zs, zs = at_ (es.map Ent.lk) (List.range k) en.lk := ⟨_, rfl⟩
      have hzl : zs.length ≤ k := by rw [hzs]; exact at_length _ _ _
      have hrow : wr.ownsRow (w.heap.size + 1 + 1) 3 1 v0 zs.length (zs.map fun z => Value.int .i64 (z : Nat)) := by
        rcases g7 en.lk hkl with ⟨h, h'⟩ | ⟨v, h, h'⟩
        · rw [← hzs] at h'; rw [hv0, h, h']; exact World.ownsRow_nil _ _ _ _
        · rw [← hzs] at h'; rw [hv0, h]; exact h'
      have hdlt : w.heap.size + 1 < wr.heap.size := World.block_lt_of_cell? wr _ g2
      have HB := Sp.hid hb
      have HEN := Sp.hid hen
      have HV0 := Sp.hid hv0
      have HZS := Sp.hid hzs
      have H2 := Sp.hid g2
      have H3 := Sp.hid g3
      have H4 := Sp.hid g4
      have H5 := Sp.hid g5
      have H6 := Sp.hid g6
      have H7 := Sp.hid g7
      have H8 := Sp.hid g8
      have H9 := Sp.hid g9
      have HROW := Sp.hid hrow
      have HB0 := Sp.hid hb0
      clear hb e1 e2 e3 hen hv0 hzs g2 g3 g4 g5 g6 g7 g8 g9 hrow hb0
      go_wp2
      refine wp_region_two (by kernel_rfl) [some 18, some 19, some 20, some 21, some 22, some 23, some 24, some 25, some 26, some 27, some 28, some 29, some 30, some 31, some 32, some 33, none]
        [fun v _ => v = .pointer (some ⟨w.heap.size + 1, 0, none⟩), fun v _ => v = .pointer (some ⟨w.heap.size + 1, 0, none⟩), fun v _ => v = .pointer (some ⟨w.heap.size + 1, 0, none⟩), fun v _ => v = .map (some w.heap.size),
          fun v _ => v = .agg #[.int .i64 en.pl, .bool en.has, .string en.key], fun v _ => v = lkv en.lk,
          fun v _ => v = .pointer (some ⟨w.heap.size + 1, 0, none⟩), fun v _ => v = .pointer (some ⟨w.heap.size + 1, 0, none⟩), fun v _ => v = .pointer (some ⟨w.heap.size + 1, 0, none⟩), fun v _ => v = .map (some w.heap.size),
          fun v _ => v = .agg #[.int .i64 en.pl, .bool en.has, .string en.key], fun v _ => v = lkv en.lk, fun v _ => v = v0, fun v _ => v = .int .i64 k,
          fun v x => ∃ g, v = .slice (some ⟨g, 0, none⟩) 1 1 ∧ wr.heap.size ≤ g ∧ x.cell? ⟨g, 0, none⟩ = some (.int .i64 k),
          fun v x => x.ownsRow (w.heap.size + 1 + 1) 3 1 v (zs.length + 1) ((zs.map fun z => Value.int .i64 (z : Nat)) ++ [.int .i64 (k : Nat)]) ∧ (v.ownBlock = v0.ownBlock ∨ ∃ g, v.ownBlock = some g ∧ wr.heap.size ≤ g)]
        15 [12, 11, 10, 9, 14, 13, 5, 4]
        (fun b w' => (wr.alloc (.cells #[.int .i64 en.pl, .bool en.has, .string en.key] 38)).grownBy w' (if b then v0.ownBlock else none))
        (fun i w w' => w.grownBy w' (if i = 15 then v0.ownBlock else none)) rfl (by kernel_rfl) (by kernel_rfl) (by kernel_rfl) (by kernel_rfl) (by kernel_rfl) ?fr ?hfr ?G0 ?GR ?FR ?step _ rfl ?fin
      case hfr => intro u; simp only [Sp.fillFrom, Sp.idx_cons, Sp.idx_nil, Option.some.injEq, reduceCtorEq, reduceIte, Nat.reduceEqDiff, Nat.reduceAdd, Option.map_some, Option.map_none]; exact rfl
      case G0 => exact ⟨rfl, rfl, rfl, Nat.le_refl _, fun _ _ _ => rfl⟩
      case GR =>
        intro i b w1 w2 hG hR
        cases b
        · by_cases hi : i = 15
          · simp only [hi, if_true] at hR ⊢; exact grown_trans (grown_weak hG) hR
          · simp only [if_neg hi] at hR; simp only [hi, decide_false, Bool.or_false]; exact grown_trans hG hR
        · simp only [if_true, Bool.true_or] at hG ⊢
          by_cases hi : i = 15
          · simp only [hi, if_true] at hR; exact grown_trans hG hR
          · simp only [if_neg hi] at hR; exact grown_trans hG (grown_weak hR)
      case FR =>
        iterate 14 (refine ⟨fun _ _ _ _ _ _ _ h => h, ?_⟩)
        refine ⟨?_, ?_, trivial⟩
        · rintro i hi v w1 w2 _ hR ⟨g, rfl, hg, hc⟩
          refine ⟨g, rfl, hg, hR.cell hc ?_⟩
          split
          · rcases HB0.out with h | ⟨g', h, h'⟩
            · rw [h]; simp
            · rw [h]; simp; omega
          · simp
        · rintro i hi v w1 w2 _ hR ⟨hw, hl'⟩
          rw [if_neg hi] at hR
          refine ⟨hw.kept hR (by cases v.ownBlock <;> simp), hl'⟩
      case step =>
        have hrowne : ∀ (b : Bool) (j : Nat), wr.heap.size ≤ j ∨ j ≤ w.heap.size + 1 → some j ≠ (if b then v0.ownBlock else none) := by
          intro b j hj
          cases b
          · simp
          · rcases HB0.out with h | ⟨g', h, h'⟩
            · simp [h]
            · have := HROW.out.lt g' h
              simp [h]; omega
        have HNE := Sp.hid hrowne
        clear hrowne
        refine ⟨?_, ?_, ?_, ?_, ?_, ?_, ?_, ?_, ?_, ?_, ?_, ?_, ?_, ?_, ?_, ?_, trivial⟩
        all_goals
          intro u w1 b hb hG hD
          simp only [Sp.DepsHold, Sp.factAt, Region.binds, List.getElem?_cons_zero, List.getElem?_cons_succ, List.getElem?_nil, Option.getD_some, Option.getD_none, and_true, true_and, true_implies, implies_true] at hD; dsimp only; generalize u 0 = u0 at *; generalize u 1 = u1 at *; generalize u 2 = u2 at *; generalize u 3 = u3 at *; generalize u 4 = u4 at *; generalize u 5 = u5 at *; generalize u 6 = u6 at *; generalize u 7 = u7 at *; generalize u 8 = u8 at *; generalize u 9 = u9 at *; generalize u 10 = u10 at *; generalize u 11 = u11 at *; generalize u 12 = u12 at *; generalize u 13 = u13 at *; generalize u 14 = u14 at *; generalize u 15 = u15 at *; clear u
          have cd : w1.cell? ⟨w.heap.size + 1, 0, none⟩ = some (.map (some w.heap.size)) := hG.cell (a := ⟨w.heap.size + 1, 0, none⟩) (by rw [World.cell?_alloc_lt _ _ _ hdlt]; exact H2.out) (HNE.out b _ (Or.inr (Nat.le_refl _)))
          have e1 : w1.cell? ⟨wr.heap.size, 0, none⟩ = some (.int .i64 en.pl) := hG.cell (a := ⟨wr.heap.size, 0, none⟩) (by simp) (HNE.out b _ (Or.inl (Nat.le_refl _)))
          have e2 : w1.cell? ⟨wr.heap.size, 1, none⟩ = some (.bool en.has) := hG.cell (a := ⟨wr.heap.size, 1, none⟩) (by simp) (HNE.out b _ (Or.inl (Nat.le_refl _)))
          have e3 : w1.cell? ⟨wr.heap.size, 2, none⟩ = some (.string en.key) := hG.cell (a := ⟨wr.heap.size, 2, none⟩) (by simp) (HNE.out b _ (Or.inl (Nat.le_refl _)))
          have HG := Sp.hid hG
          have HBB := Sp.hid hb
          clear hG hb
          try obtain rfl := hD
          try obtain ⟨rfl, rfl⟩ := hD
        all_goals first | (go_wp2; exact ⟨grown_refl _ _, _, rfl, rfl⟩) | skip
        · go_wp2_with (go_at_call 71; refine (lock_any _ _ _ _).mono ?_; rintro e w2 ⟨rfl, hb2⟩)
          exact ⟨grown_below hb2, _, rfl, rfl⟩
        · go_wp2_with (go_at_call 71; refine (lock_any _ _ _ _).mono ?_; rintro e w2 ⟨rfl, hb2⟩)
          exact ⟨grown_below hb2, _, rfl, rfl⟩
        · obtain rfl := HBB.out (Or.inl (by decide))
          have hM : MapIs Tryd.prog 139 w1 w.heap.size f := H6.out.frame (by rw [HG.out.block _ (by simp; omega) (by simp)]; exact Below.heap_alloc _ _ _ (by omega))
          refine wpList_look _ rfl _ _ 135 false rfl hM lawK Tryd.underlying135 (zeroSl _) rfl rfl hl ?_
          refine wpList_nil ?_
          exact ⟨grown_refl _ _, _, rfl, HV0.out.symm⟩
        · go_wp2
          exact ⟨World.grownBy_alloc _ _ _, _, rfl, _, rfl, by have := HG.out.size; simp at this; omega, by simp⟩
        · obtain ⟨rfl, ⟨g, rfl, hg, hc⟩, rfl⟩ := hD
          obtain rfl := HBB.out (Or.inr rfl)
          have hrow1 : w1.ownsRow (w.heap.size + 1 + 1) 3 1 u12 zs.length (zs.map fun z => Value.int .i64 (z : Nat)) := (HROW.out.alloc _).kept HG.out (by cases u12.ownBlock <;> simp)
          refine wpList_append_own_at _ rfl _ _ 51 rfl (w.heap.size + 1 + 1) 3 i0 (.int .i64 0) 1 8 Tryd.underlying51 hi0 hz0 hz1 hz2 rfl (by decide) _ _ _ rfl hrow1 ⟨g, 0, none⟩ 1 1 [.int .i64 k] rfl rfl ?_ ?_ (by unfold maxLen; omega) (by omega) (by have := HG.out.size; simp at this; omega) ?_
          · intro j u hj
            have hj0 : j = 0 := by
              have := (List.getElem?_eq_some_iff.1 hj).1
              simpa using this
            subst hj0
            simp at hj
            subst hj
            exact hc
          · intro u hu; simp at hu; subst hu; rfl
          intro v' w2 hown' hgrow _ hloc
          refine wpList_nil ?_
          refine ⟨hgrow, v', rfl, hown', ?_⟩
          rcases hloc with h | h
          · exact Or.inl h
          · exact Or.inr ⟨_, h, by have := HG.out.size; simp at this; omega⟩
      case fin =>
        intro u w1 b hG hF
        simp only [Sp.AllF, and_true] at hF; (try dsimp only); generalize u 0 = u0 at *; generalize u 1 = u1 at *; generalize u 2 = u2 at *; generalize u 3 = u3 at *; generalize u 4 = u4 at *; generalize u 5 = u5 at *; generalize u 6 = u6 at *; generalize u 7 = u7 at *; generalize u 8 = u8 at *; generalize u 9 = u9 at *; generalize u 10 = u10 at *; generalize u 11 = u11 at *; generalize u 12 = u12 at *; generalize u 13 = u13 at *; generalize u 14 = u14 at *; generalize u 15 = u15 at *; clear u
        obtain ⟨rfl, rfl, rfl, rfl, rfl, rfl, rfl, rfl, rfl, rfl, rfl, rfl, rfl, rfl, ⟨g, rfl, hg, hc⟩, hown, hloc⟩ := hF
        have hne_m : (if b then u12.ownBlock else none) ≠ some w.heap.size := by
          cases b
          · simp
          · cases h : u12.ownBlock with
            | none => simp
            | some j => have := HROW.out.lt j h; simp; omega
        have hM : MapIs Tryd.prog 139 w1 w.heap.size f := H6.out.frame (by rw [hG.block _ (by simp; omega) (fun e => hne_m e.symm)]; exact Below.heap_alloc _ _ _ (by omega))
        refine wpList_mapStore _ rfl _ _ _ 135 rfl hM lawK Tryd.underlying135 rfl rfl rfl hl ?_
        intro w3 hM3 hg3 hs3
        refine stepEnd ?_
        have hM3' : MapIs Tryd.prog 139 w3 w.heap.size (upd f (lkv en.lk) u15) := hM3
        have hG1 : wr.grownBy w1 u12.ownBlock := grown_trans (World.grownBy_alloc _ _ _) (by cases b; exact grown_weak hG; exact hG)
        have hmk3 : Making w3 w.heap.size (w.heap.size + 1) (es.map Ent.lk) (k + 1) := Making.step (f := f) (v0 := u12) (v := u15) (key := en.lk) (by simpa using hlt) (by simp [HEN.out]) hdlt g1 H2.out H3.out H4.out H5.out H7.out H8.out H9.out HV0.out hG1 (by rw [← HZS.out]; exact hown) hloc hM3' hg3
        have hB3 : Below w.heap.size w w3 := (HB.out.grown hG1 HB.out.size (fun j hj => by have := HROW.out.lt j hj; omega)).grown hg3 (by have := hG1.size; omega) (fun j hj => by cases hj; exact Nat.le_refl _)
        have HM3 := Sp.hid hmk3
        have HB3 := Sp.hid hB3
        clear hM3 hM3' hM hG1 hmk3 hB3 hg3 hG
        go_wp2
        go_roundw
        case rel => exact ⟨k + 1, by omega, by go_num, HM3.out, HB3.out⟩
        case measure => simp [intOf]; omega
    · obtain rfl : k = es.length := by omega
      have HMK := Sp.hid hmk
      have HB := Sp.hid hb
      clear hmk hb
      go_wp2
      go_ret
      have h := Making.dict (src := es.map Ent.lk) (by simpa using HMK.out) (by simpa using hlen)
      exact ⟨rfl, by simpa using h, HB.out⟩

end Go.Proofs.YtoknglpfchjbjaaDoor
