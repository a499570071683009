/- keys.align, Align, Left: what each call returns. Conditions: at most 1000 entries each. -/
import Derived.Test.YtoknglpfchjbjaaDoorKeysNew
namespace Go.Proofs.YtoknglpfchjbjaaDoor
open Go.RowKit Go.Sp Go.Maps

/-! ### The plain model -/
def leftM (src : List Lk) : List Nat → List Lk → List Nat
  | rem, [] => rem
  | rem, k :: ks => leftM src (restM src rem k) ks
def alignM (src : List Lk) : List Nat → List Lk → List (Option Nat)
  | _, [] => []
  | rem, k :: ks => takeM src rem k :: alignM src (restM src rem k) ks
def encO : Option Nat → Int
  | none => -1
  | some p => (p : Int)

theorem leftM_snoc (src : List Lk) : ∀ (ks : List Lk) (rem : List Nat) (k : Lk), leftM src rem (ks ++ [k]) = restM src (leftM src rem ks) k
  | [], _, _ => rfl
  | _ :: ks, rem, k => leftM_snoc src ks _ k
theorem alignM_snoc (src : List Lk) : ∀ (ks : List Lk) (rem : List Nat) (k : Lk), alignM src rem (ks ++ [k]) = alignM src rem ks ++ [takeM src (leftM src rem ks) k]
  | [], _, _ => rfl
  | x :: ks, rem, k => by simp [alignM, alignM_snoc src ks _ k, leftM]
theorem alignM_length (src : List Lk) : ∀ (ks : List Lk) (rem : List Nat), (alignM src rem ks).length = ks.length
  | [], _ => rfl
  | _ :: ks, rem => by simp [alignM, alignM_length src ks]

theorem take_lt {src : List Lk} {rem : List Nat} {k : Lk} {p : Nat} (h : takeM src rem k = some p) : p < src.length := by
  have := List.find?_some h
  simp only [decide_eq_true_eq] at this
  exact (List.getElem?_eq_some_iff.1 this).1
theorem alignM_lt {src : List Lk} : ∀ {ks : List Lk} {rem : List Nat} {p : Nat}, some p ∈ alignM src rem ks → p < src.length
  | [], _, _, h => by simp [alignM] at h
  | k :: ks, rem, p, h => by
    rcases List.mem_cons.1 h with h | h
    · exact take_lt h.symm
    · exact alignM_lt h

theorem _root_.Go.World.ownsRow.only2 {m d : Nat} {w w' : World} {base : Nat} {e : TypeId} {size : Nat} {v : Value} {n : Nat} {xs : List Value} (h : w.ownsRow base e size v n xs) (ho : Only2 m d w w') (hm : m < base) (hd : d < base) : w'.ownsRow base e size v n xs := by
  refine ⟨h.1, ?_⟩
  rcases h.2 with hn | ⟨g, cap, cur, hv, hg, hh, r⟩
  · exact Or.inl hn
  · refine Or.inr ⟨g, cap, cur, hv, hg, ?_, r⟩
    rw [ho.block g (Array.getElem?_eq_some_iff.1 hh).1 (by omega) (by omega)]
    exact hh

theorem DictIs.kept {m d T : Nat} {w w' : World} {src : List Lk} {rem : List Nat} {row : Option Nat} (h : DictIs m d T w src rem) (hg : w.grownBy w' row) (hrow : ∀ k, row = some k → T ≤ k) : DictIs m d T w' src rem := by
  have hT : T ≤ w.heap.size := by obtain ⟨_, _, _, _, h, _⟩ := h; exact h
  exact h.later (fun k _ hk => hg.block k (by omega) (fun e => by have := hrow k e.symm; omega)) hg.size

set_option maxRecDepth 100000 in
set_option maxHeartbeats 1000000 in
theorem align_any (va sa : Option Addr) (vc sc : Nat) (view source : List Ent) (w : World) (hv : Sl entS (· < w.heap.size) w va view) (hs : Sl entS (· < w.heap.size) w sa source) (hvl : view.length ≤ 1000) (hsl : source.length ≤ 1000) :
    Calls Tryd.prog 30 #[.slice va view.length vc, .slice sa source.length sc] w fun e w' => ∃ a cap, e = .returned (.tuple #[.slice a view.length cap, .int .i64 source.length]) ∧ view.length ≤ cap ∧
      Sl (Shape.int .i64) (fun b => w.heap.size ≤ b ∧ b < w'.heap.size) w' a ((alignM (source.map Ent.lk) (List.range source.length) (view.map Ent.lk)).map encO) ∧ Below w.heap.size w w' := by
  obtain ⟨i0, hi0, hz0, hz1, hz2⟩ := info_parts infoInt
  have HV := Sp.hid hv
  have HN := Sp.hid (new_any sa sc source w hs (by omega))
  clear hv hs
  go_enter Tryd.func30, Tryd.ntmps30
  go_wp2_with (go_at_call 47; refine HN.out.mono ?_; rintro e w1 ⟨rfl, hd1, hb1⟩)
  obtain ⟨T, hT⟩ : ∃ T, T = w1.heap.size := ⟨_, rfl⟩
  rw [← hT] at hd1
  have hmd : w.heap.size + 1 < T := by obtain ⟨_, _, _, h, _⟩ := hd1; exact h
  have HT := Sp.hid hT
  have HD1 := Sp.hid hd1
  have HB1 := Sp.hid hb1
  clear hT hd1 hb1
  go_loopw [7, 17] (fun l i wr => ∃ k : Nat, k ≤ view.length ∧ i = .int .i64 k ∧ DictIs w.heap.size (w.heap.size + 1) T wr (source.map Ent.lk) (leftM (source.map Ent.lk) (List.range source.length) ((view.take k).map Ent.lk)) ∧
      wr.ownsRow T 3 1 l k (((alignM (source.map Ent.lk) (List.range source.length) ((view.take k).map Ent.lk)).map encO).map (Value.int .i64)) ∧ Below w.heap.size w wr ∧ T ≤ wr.heap.size) (fun _ i _ => view.length - (intOf i).toNat)
  case atStart => exact ⟨0, by omega, rfl, by simpa [leftM] using HD1.out, World.ownsRow_nil _ _ _ _, HB1.out, by rw [HT.out]; exact Nat.le_refl _⟩
  case round =>
    obtain ⟨k, hk, rfl, hd, hown, hb, hTw⟩ := hrel
    by_cases hlt : k < view.length
    · obtain ⟨b, o, rfl, hblt, hsz, e1, e2, e3⟩ := ent_cells HV.out k hlt
      have c1 : wr.cell? ⟨b, o + k * 3, none⟩ = some (.int .i64 view[k].pl) := by rw [hb.cell (p := ⟨b, _, none⟩) hblt]; exact e1
      have c2 : wr.cell? ⟨b, o + k * 3 + 1, none⟩ = some (.bool view[k].has) := by rw [hb.cell (p := ⟨b, _, none⟩) hblt]; exact e2
      have c3 : wr.cell? ⟨b, o + k * 3 + 2, none⟩ = some (.string view[k].key) := by rw [hb.cell (p := ⟨b, _, none⟩) hblt]; exact e3
      obtain ⟨en, hen⟩ : ∃ en, en = view[k] := ⟨_, rfl⟩
      have htk : (view.take (k + 1)).map Ent.lk = (view.take k).map Ent.lk ++ [en.lk] := by
        rw [List.take_succ_eq_append_getElem hlt, List.map_append, hen]; rfl
      rw [← hen] at c1 c2 c3 hsz
      obtain ⟨ks, hks⟩ : ∃ ks, ks = (view.take k).map Ent.lk := ⟨_, rfl⟩
      rw [← hks] at hd hown htk
      have hksl : ks.length = k := by rw [hks]; simp; omega
      have hd' := DictIs.kept (hd) (World.grownBy_alloc wr (.cells #[.int .i64 en.pl, .bool en.has, .string en.key] 38) none) (by simp)
      have hT2 := take_any w.heap.size (w.heap.size + 1) T (source.map Ent.lk) (leftM (source.map Ent.lk) (List.range source.length) ks) en.pl en.has en.key _ hd' hsz
      have hsn := leftM_snoc (source.map Ent.lk) ks (List.range source.length) en.lk
      have han := alignM_snoc (source.map Ent.lk) ks (List.range source.length) en.lk
      rw [← htk] at hsn han
      have hal := alignM_length (source.map Ent.lk) ks (List.range source.length)
      have hrow : (wr.alloc (.cells #[.int .i64 en.pl, .bool en.has, .string en.key] 38)).ownsRow T 3 1 u7 k _ := hown.alloc _
      have HB := Sp.hid hb
      have HROW := Sp.hid hrow
      have HSN := Sp.hid hsn
      have HAN := Sp.hid han
      have HKS := Sp.hid hksl
      have HAL := Sp.hid hal
      clear hd hown hb e1 e2 e3 hen htk hks hd' hsn han hrow hksl hal
      have fin : ∀ (q : Option Nat) (w2 w3 : World) (v' : Value), takeM (source.map Ent.lk) (leftM (source.map Ent.lk) (List.range source.length) ks) en.lk = q →
          DictIs w.heap.size (w.heap.size + 1) T w2 (source.map Ent.lk) (restM (source.map Ent.lk) (leftM (source.map Ent.lk) (List.range source.length) ks) en.lk) →
          Only2 w.heap.size (w.heap.size + 1) (wr.alloc (.cells #[.int .i64 en.pl, .bool en.has, .string en.key] 38)) w2 →
          w3.ownsRow T 3 1 v' (k + 1) ((((alignM (source.map Ent.lk) (List.range source.length) ks).map encO).map (Value.int .i64)) ++ [.int .i64 (encO q)]) →
          (w2.alloc (.cells #[.int .i64 (encO q)] 3)).grownBy w3 u7.ownBlock →
          DictIs w.heap.size (w.heap.size + 1) T w3 (source.map Ent.lk) (leftM (source.map Ent.lk) (List.range source.length) ((view.take (k + 1)).map Ent.lk)) ∧
          w3.ownsRow T 3 1 v' (k + 1) (((alignM (source.map Ent.lk) (List.range source.length) ((view.take (k + 1)).map Ent.lk)).map encO).map (Value.int .i64)) ∧ Below w.heap.size w w3 ∧ T ≤ w3.heap.size := by
        intro q w2 w3 v' hq hd2 ho2 hown hg
        have hge : ∀ j, u7.ownBlock = some j → T ≤ j := fun j hj => (HROW.out.lt j hj).1
        have hs2 := ho2.size
        have hs3 := hg.size
        simp only [World.size_alloc] at hs2 hs3
        refine ⟨?_, ?_, ?_, by omega⟩
        · rw [HSN.out]
          exact (hd2.kept (World.grownBy_alloc _ _ none) (by simp)).kept hg hge
        · rw [HAN.out, hq]
          simpa using hown
        · have hb2 := ((HB.out.alloc HB.out.size _).trans (ho2.below (by omega) (by simp; omega))).alloc (by have := HB.out.size; omega) (.cells #[.int .i64 (encO q)] 3)
          exact hb2.grown hg (by have := HB.out.size; simp; omega) (fun j hj => by have := hge j hj; omega)
      have FIN := Sp.hid fin
      clear fin
      cases htake : takeM (source.map Ent.lk) (leftM (source.map Ent.lk) (List.range source.length) ks) en.lk
      all_goals
        rw [show Ent.lk ⟨en.pl, en.has, en.key⟩ = en.lk from rfl, htake] at hT2
        simp only [Option.getD_none, Option.isSome_none, Int.natCast_zero, Option.getD_some, Option.isSome_some] at hT2
        have HT2 := Sp.hid hT2
        have HTK := Sp.hid htake
        clear hT2 htake
      · go_wp2_with (first
          | (go_at_call 48; refine HT2.out.mono ?_; rintro e w2 ⟨rfl, hd2, ho2⟩; have HD2 := Sp.hid hd2; have HO2 := Sp.hid ho2; clear hd2 ho2)
          | (at_builtin; refine wpList_append_own _ rfl _ _ 51 rfl T 3 i0 (.int .i64 0) 1 8 Tryd.underlying51 hi0 hz0 hz1 hz2 rfl (by decide) _ _ _ rfl ((HROW.out.only2 HO2.out (by omega) (by omega)).alloc _) ⟨w2.heap.size, 0, none⟩ 1 1 [.int .i64 (-1)] rfl rfl ?c1 ?c2 ?c3 ?c4 ?c5 ?c6))
        case c1 => exact cell_one_new _ _ _
        case c2 => intro u hu; simp at hu; subst hu; rfl
        case c3 => unfold maxLen; omega
        case c4 => omega
        case c5 => have := HO2.out.size; simp at this; simp; omega
        case c6 =>
          intro v' w3 hown' hgrow _
          obtain ⟨f1, f2, f3, f4⟩ := FIN.out none w2 w3 v' HTK.out HD2.out HO2.out (by rw [List.map_map]; exact hown') hgrow
          have F1 := Sp.hid f1
          have F2 := Sp.hid f2
          have F3 := Sp.hid f3
          clear f1 f2 f3 hown' hgrow
          go_wp2
          go_roundw
          case rel => exact ⟨k + 1, by omega, by go_num, F1.out, F2.out, F3.out, f4⟩
          case measure => simp [intOf]; omega
      · rename_i p
        go_wp2_with (first
          | (go_at_call 48; refine HT2.out.mono ?_; rintro e w2 ⟨rfl, hd2, ho2⟩; have HD2 := Sp.hid hd2; have HO2 := Sp.hid ho2; clear hd2 ho2)
          | (at_builtin; refine wpList_append_own _ rfl _ _ 51 rfl T 3 i0 (.int .i64 0) 1 8 Tryd.underlying51 hi0 hz0 hz1 hz2 rfl (by decide) _ _ _ rfl ((HROW.out.only2 HO2.out (by omega) (by omega)).alloc _) ⟨w2.heap.size, 0, none⟩ 1 1 [.int .i64 (p : Nat)] rfl rfl ?d1 ?d2 ?d3 ?d4 ?d5 ?d6))
        case d1 => exact cell_one_new _ _ _
        case d2 => intro u hu; simp at hu; subst hu; rfl
        case d3 => unfold maxLen; omega
        case d4 => omega
        case d5 => have := HO2.out.size; simp at this; simp; omega
        case d6 =>
          intro v' w3 hown' hgrow _
          obtain ⟨f1, f2, f3, f4⟩ := FIN.out (some p) w2 w3 v' HTK.out HD2.out HO2.out (by rw [List.map_map]; exact hown') hgrow
          have F1 := Sp.hid f1
          have F2 := Sp.hid f2
          have F3 := Sp.hid f3
          clear f1 f2 f3 hown' hgrow
          go_wp2
          go_roundw
          case rel => exact ⟨k + 1, by omega, by go_num, F1.out, F2.out, F3.out, f4⟩
          case measure => simp [intOf]; omega
    · obtain rfl : k = view.length := by omega
      have hov : wr.ownsRow T 3 1 u7 view.length (((alignM (source.map Ent.lk) (List.range source.length) (view.map Ent.lk)).map encO).map (Value.int .i64)) := by simpa using hown
      obtain ⟨a, cap, rfl, hn, hc, _, _, hsl2⟩ := own_ints hov
      have HB := Sp.hid hb
      have HS := Sp.hid hsl2
      clear hd hown hb hov hsl2
      go_wp2
      go_ret2
      exact ⟨a, cap, rfl, hc, HS.out.mono fun j hj => ⟨by omega, hj.2⟩, HB.out⟩

end Go.Proofs.YtoknglpfchjbjaaDoor
