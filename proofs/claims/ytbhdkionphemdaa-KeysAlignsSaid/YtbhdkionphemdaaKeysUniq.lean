/- keys.Unique: what the call returns. Conditions: at most 1000 entries. -/
import Derived.Test.YtbhdkionphemdaaKeysRefUniq
import Derived.Maps.Own
namespace Go.Proofs.Ytbhdkionphemdaa
open Go.RowKit Go.Sp Go.Maps

def seen (es : List Ent) (k : Nat) (key : Lk) : Prop := ∃ p, ∃ hp : p < es.length, p < k ∧ es[p].has = true ∧ es[p].lk = key

theorem zeroInt (w : World) : (zeroValue 3).run Try.prog w = .ok (.int .i64 0) w := by kernel_rfl

theorem uniq_skip {es : List Ent} {k : Nat} (hk : k < es.length) (h : uniqTo es k 0) (hh : es[k].has = false) : uniqTo es (k + 1) 0 :=
  uniqTo_row ⟨h.1, fun y hi hy _ => by unfold sameKey; rw [hh]; rfl⟩
theorem uniq_take {es : List Ent} {k : Nat} (hk : k < es.length) (h : uniqTo es k 0) (hs : ¬ seen es k es[k].lk) : uniqTo es (k + 1) 0 :=
  uniqTo_row ⟨h.1, fun y hi hy hyk => by
    rw [Bool.eq_false_iff]
    intro hm
    unfold sameKey at hm
    rw [Bool.and_eq_true, entMatch_iff] at hm
    refine hs ⟨y, hy, hyk, ?_, hm.2.symm⟩
    have h2 := hm.2
    unfold Ent.lk at h2
    rw [hm.1] at h2
    cases hy2 : es[y].has
    · rw [hy2] at h2; simp at h2
    · rfl⟩
theorem seen_next (es : List Ent) (k : Nat) (hk : k < es.length) (key : Lk) : seen es (k + 1) key ↔ seen es k key ∨ (es[k].has = true ∧ es[k].lk = key) := by
  constructor
  · rintro ⟨p, hp, hpk, h1, h2⟩
    rcases Nat.lt_or_ge p k with h | h
    · exact .inl ⟨p, hp, h, h1, h2⟩
    · obtain rfl : p = k := by omega
      exact .inr ⟨h1, h2⟩
  · rintro (⟨p, hp, hpk, h1, h2⟩ | ⟨h1, h2⟩)
    · exact ⟨p, hp, by omega, h1, h2⟩
    · exact ⟨k, hk, by omega, h1, h2⟩
theorem seen_bad {es : List Ent} {k : Nat} (hk : k < es.length) (hh : es[k].has = true) (h : seen es k es[k].lk) : ¬ Uniq es := by
  obtain ⟨p, hp, hpk, h1, h2⟩ := h
  intro hu
  have := hu k p hk hp hpk
  unfold sameKey at this
  rw [hh, (entMatch_iff _ _).2 h2.symm] at this
  cases this

set_option maxRecDepth 100000 in
set_option maxHeartbeats 1000000 in
theorem unique_any (a : Option Addr) (cap : Nat) (es : List Ent) (w : World) (hes : Sl entS (· < w.heap.size) w a es) (hlen : es.length ≤ 1000) :
    Calls Try.prog 18 #[.slice a es.length cap] w fun e w' => ∃ b : Bool, (b = true ↔ Uniq es) ∧ e = .returned (.int .i64 (if b then 0 else 23)) ∧ Below w.heap.size w w' := by
  have hmm := @run_makeMap Try.prog
  have HES := Sp.hid hes
  clear hes
  go_enter Try.func18, Try.ntmps18
  go_wp2
  go_loopw [11] (fun i wr => ∃ k : Nat, k ≤ es.length ∧ i = .int .i64 k ∧ (∃ f, MapIs Try.prog 53 wr w.heap.size f ∧ ∀ key : Lk, key.2.size ≤ maxLen → ((f (lkv key)).isSome = true ↔ seen es k key)) ∧ uniqTo es k 0 ∧ Below w.heap.size w wr) (fun i _ => es.length - (intOf i).toNat)
  case atStart => exact ⟨0, by omega, rfl, ⟨fun _ => none, MapIs.made w, fun key _ => by simp [seen]⟩, ⟨fun x y _ _ h _ => by omega, fun y _ _ h => by omega⟩, (Below.refl _ _).alloc (Nat.le_refl _) _⟩
  case round =>
    obtain ⟨k, hk, rfl, ⟨f, hM, hf⟩, hu, hb⟩ := hrel
    have HM := Sp.hid hM
    have HFF := Sp.hid hf
    have HU := Sp.hid hu
    have HB := Sp.hid hb
    have hszw := hb.size
    have hml := hM.lt
    clear hM hf hu hb
    by_cases hlt : k < es.length
    · obtain ⟨b, o, rfl, hblt, hsz, e1, e2, e3⟩ := ent_cells HES.out k hlt
      rw [← HB.out.cell (p := ⟨b, _, none⟩) hblt] at e1 e2 e3
      obtain ⟨en, hen⟩ : ∃ en, en = es[k] := ⟨_, rfl⟩
      rw [← hen] at e1 e2 e3 hsz
      have HEN := Sp.hid hen
      have hkl := lk_size (e := en) hsz
      obtain ⟨l, hl⟩ := keyOf_lk en.lk hkl
      have hsn := seen_next es k hlt
      rw [← hen] at hsn
      have HSN := Sp.hid hsn
      have HKL := Sp.hid hkl
      have HKO := Sp.hid hl
      clear hen hkl hl hsn
      cases hh : en.has
      · rw [hh] at e2
        have H1 := Sp.hid hh
        clear hh
        go_wp2
        go_roundw
        case rel => exact ⟨k + 1, by omega, by go_num, ⟨f, HM.out.frame (Below.heap_alloc _ _ _ hml), fun key hs => by rw [HSN.out, H1.out]; simpa using HFF.out key hs⟩, uniq_skip hlt HU.out (by rw [← HEN.out]; exact H1.out), HB.out.alloc hszw _⟩
        case measure => simp [intOf]; omega
      · rw [hh] at e2
        have H1 := Sp.hid hh
        clear hh
        have hM1 : MapIs Try.prog 53 (wr.alloc (.cells #[.int .i64 en.pl, .bool true, .string en.key] 27)) w.heap.size f := HM.out.frame (Below.heap_alloc _ _ _ hml)
        have HM1 := Sp.hid hM1
        have HBX := Sp.hid (HB.out.alloc hszw (.cells #[.int .i64 en.pl, .bool true, .string en.key] 27))
        have HSZ : Hid (wr.heap.size < (wr.alloc (.cells #[.int .i64 en.pl, .bool true, .string en.key] 27)).heap.size) := Sp.hid (by simp)
        have D0 : Hid ((wr.alloc (.cells #[.int .i64 en.pl, .bool true, .string en.key] 27)).cell? ⟨wr.heap.size, 0, none⟩ = some (.int .i64 en.pl)) := Sp.hid (by simp)
        have D1 : Hid ((wr.alloc (.cells #[.int .i64 en.pl, .bool true, .string en.key] 27)).cell? ⟨wr.heap.size, 1, none⟩ = some (.bool true)) := Sp.hid (by simp)
        have D2 : Hid ((wr.alloc (.cells #[.int .i64 en.pl, .bool true, .string en.key] 27)).cell? ⟨wr.heap.size, 2, none⟩ = some (.string en.key)) := Sp.hid (by simp)
        clear hM1
        have hk2 : (lkv (Ent.lk ⟨en.pl, true, en.key⟩)) = lkv en.lk := by unfold Ent.lk; rw [H1.out]
        cases hs : (f (lkv en.lk)).isSome
        · have hns : ¬ seen es k en.lk := by rw [← HFF.out _ HKL.out, hs]; simp
          have HNS := Sp.hid hns
          clear hns
          go_wp2_with (first
            | (go_at_call 21; refine (lock_any _ _ _ _).mono ?_; rintro e w2 ⟨rfl, hb2⟩; rw [hk2]; have HM1 := Sp.hid (HM1.out.frame (hb2.block _ (by have := HSZ.out; omega))); have HBX := Sp.hid (HBX.out.trans (hb2.mono (by have := HSZ.out; omega))); have D0 := Sp.hid ((hb2.cell (p := ⟨wr.heap.size, 0, none⟩) HSZ.out).trans D0.out); have D1 := Sp.hid ((hb2.cell (p := ⟨wr.heap.size, 1, none⟩) HSZ.out).trans D1.out); have D2 := Sp.hid ((hb2.cell (p := ⟨wr.heap.size, 2, none⟩) HSZ.out).trans D2.out); have HSZ := Sp.hid (Nat.lt_of_lt_of_le HSZ.out hb2.size); have d0 := D0.out; have d1 := D1.out; have d2 := D2.out; clear hb2)
            | (at_lookup; refine wpList_look _ rfl _ _ 59 true rfl HM1.out lawK Try.underlying59 (zeroInt _) rfl rfl HKO.out ?_)
            | (at_mapUpdate; refine wpList_mapStore _ rfl _ _ _ 59 rfl HM1.out lawK Try.underlying59 rfl rfl rfl HKO.out ?_))
          intro w4 hM4 hg4 hs4
          have hbx : Below w.heap.size w w4 := HBX.out.grown hg4 HBX.out.size (fun j hj => by cases hj; exact Nat.le_refl _)
          have HM4 := Sp.hid hM4
          have HB4 := Sp.hid hbx
          clear hM4 hg4 hs4 hbx
          go_wp2
          go_roundw
          case rel =>
            refine ⟨k + 1, by omega, by go_num, ⟨_, HM4.out, fun key hsz2 => ?_⟩, uniq_take hlt HU.out (by rw [← HEN.out]; exact HNS.out), HB4.out⟩
            rw [HSN.out, ← HFF.out key hsz2, H1.out]
            by_cases hkk : key = en.lk
            · subst hkk
              rw [upd_same]; simp
            · rw [upd_other _ _ (fun e => hkk (lkv_inj e))]
              have : ¬ en.lk = key := fun e => hkk e.symm
              simp [this]
          case measure => simp [intOf]; omega
        · have hns : seen es k en.lk := by rw [← HFF.out _ HKL.out, hs]
          have HNS := Sp.hid hns
          clear hns
          go_wp2_with (first
            | (go_at_call 21; refine (lock_any _ _ _ _).mono ?_; rintro e w2 ⟨rfl, hb2⟩; rw [hk2]; have HM1 := Sp.hid (HM1.out.frame (hb2.block _ (by have := HSZ.out; omega))); have HBX := Sp.hid (HBX.out.trans (hb2.mono (by have := HSZ.out; omega))); have D0 := Sp.hid ((hb2.cell (p := ⟨wr.heap.size, 0, none⟩) HSZ.out).trans D0.out); have D1 := Sp.hid ((hb2.cell (p := ⟨wr.heap.size, 1, none⟩) HSZ.out).trans D1.out); have D2 := Sp.hid ((hb2.cell (p := ⟨wr.heap.size, 2, none⟩) HSZ.out).trans D2.out); have HSZ := Sp.hid (Nat.lt_of_lt_of_le HSZ.out hb2.size); have d0 := D0.out; have d1 := D1.out; have d2 := D2.out; clear hb2)
            | (at_lookup; refine wpList_look _ rfl _ _ 59 true rfl HM1.out lawK Try.underlying59 (zeroInt _) rfl rfl HKO.out ?_))
          go_ret
          exact ⟨false, ⟨fun h => (Bool.false_ne_true h).elim, fun h => absurd h (seen_bad hlt (by rw [← HEN.out]; exact H1.out) (by rw [← HEN.out]; exact HNS.out))⟩, rfl, HBX.out⟩
    · obtain rfl : k = es.length := by omega
      go_wp2
      go_ret
      exact ⟨true, ⟨fun _ x y hx hy h => HU.out.1 x y hx hy hx h, fun _ => rfl⟩, rfl, HB.out⟩

end Go.Proofs.Ytbhdkionphemdaa
