/- spyglassref04.node: the tree that begins at a place of steps. Conditions: up to 2^20 steps. -/
import Derived.Test.YtoknglpfchjbjaaDoorRawA
namespace Go.Proofs.YtoknglpfchjbjaaDoor
open Go.RowKit Go.Sp Go.Maps

theorem infoTreeR : (Tryd.prog.info? 27).map (fun i => (i.zero, i.size, i.bytes)) = some (some (.agg #[.string ⟨#[]⟩, .string ⟨#[]⟩, .slice none 0 0, .slice none 0 0]), 4, 80) := by kernel_rfl
theorem infoAttrR : (Tryd.prog.info? 36).map (fun i => (i.zero, i.size, i.bytes)) = some (some (.agg #[.string ⟨#[]⟩, .string ⟨#[]⟩]), 2, 32) := by kernel_rfl

def NodePost (xs : List Stp) (p F : Nat) (w : World) (e : Ending) (w' : World) : Prop := Below w.heap.size w w' ∧
  ((∃ (T : TT) (q : Nat) (vs : List Value), parL F none (xs.drop p) = some (T, xs.drop q) ∧ p < q ∧ q ≤ xs.length ∧ e = .returned (.tuple #[.agg vs.toArray, .int .i64 q]) ∧ (treeS (xs.length - p)).rep (fun b => w.heap.size ≤ b ∧ b < w'.heap.size) w' vs T) ∨
   (parL F none (xs.drop p) = none ∧ e = .returned (.tuple #[.agg #[.string ⟨#[]⟩, .string ⟨#[]⟩, .slice none 0 0, .slice none 0 0], .int .i64 (-1)])))

def atCells (x : ByteArray × ByteArray) : List Value := [.string x.1, .string x.2]
theorem own_attrs {w : World} {base : Nat} {e : TypeId} {pv : Value} {qs : List (ByteArray × ByteArray)} (h : w.ownsRow base e 2 pv qs.length (qs.flatMap atCells)) (hq : ∀ q ∈ qs, q.1.size ≤ maxLen ∧ q.2.size ≤ maxLen) :
    ∃ a c, pv = .slice a qs.length c ∧ Sl attrS (fun b => pv.ownBlock = some b) w a qs := by
  have h' : w.ownsRow base e attrS.sz pv qs.length ((qs.map fun q => (atCells q, q)).flatMap (·.1)) := by rw [List.flatMap_map]; exact h
  obtain ⟨a, c, h1, h2⟩ := own_sl (S := attrS) (F := fun b => pv.ownBlock = some b) h' (by simp) (fun x hx => by
    obtain ⟨q, hq', rfl⟩ := List.mem_map.1 hx
    exact ⟨rfl, hq q hq'⟩) (fun g hg => hg)
  refine ⟨a, c, h1, ?_⟩
  have e : (qs.map fun q => (atCells q, q)).map (·.2) = qs := by rw [List.map_map]; exact List.map_id _
  rwa [e] at h2

theorem frozenN {X : World} {D : Nat} {vs : Array Value} {t : TypeId} (h : X.heap[D]? = some (.cells vs t (0, 0))) (j : Nat) : X.frozen? ⟨D, j, none⟩ = false := by simp [World.frozen?, h]

theorem set_grownN (W : World) (D i : Nat) (v : Value) : W.grownBy (W.setCell ⟨D, i, none⟩ v) (some D) := ⟨rfl, rfl, rfl, by simp, fun j _ hj => heap_setCell_other W ⟨D, i, none⟩ j _ (fun e => hj (by simp [e]))⟩
theorem grown_newN {w W W' : World} {r : Nat} {o : Option Nat} (h : w.grownBy W (some r)) (k : W.grownBy W' o) (hD : ∀ g, o = some g → w.heap.size ≤ g) : w.grownBy W' (some r) :=
  ⟨k.os.trans h.os, k.tape.trans h.tape, k.output.trans h.output, Nat.le_trans h.size k.size, fun j hj hne => (k.block j (Nat.lt_of_lt_of_le hj h.size) (fun e => by have := hD j e.symm; omega)).trans (h.block j hj hne)⟩


set_option maxRecDepth 100000 in
set_option maxHeartbeats 4000000 in
theorem node_end (xs : List Stp) (a : Option Addr) (c F : Nat) (w : World) : Calls Tryd.prog 34 #[.slice a xs.length c, .int .i64 xs.length] w (NodePost xs xs.length F w) := by
  have HN := Sp.hid (show parL F none (xs.drop xs.length) = none by rw [List.drop_length]; exact parL_end)
  have hb1 : Below w.heap.size w (w.alloc (.cells #[.string ⟨#[]⟩, .string ⟨#[]⟩, .slice none 0 0, .slice none 0 0] 27)) := (Below.refl _ _).alloc (Nat.le_refl _) _
  have hres : (w.alloc (.cells #[.string ⟨#[]⟩, .string ⟨#[]⟩, .slice none 0 0, .slice none 0 0] 27)).heap[w.heap.size]? = some (.cells #[.string ⟨#[]⟩, .string ⟨#[]⟩, .slice none 0 0, .slice none 0 0] 27 (0, 0)) := World.alloc_heap_new _ _
  have r0 : (w.alloc (.cells #[.string ⟨#[]⟩, .string ⟨#[]⟩, .slice none 0 0, .slice none 0 0] 27)).cell? ⟨w.heap.size, 0, none⟩ = some (.string ⟨#[]⟩) := cell_at hres 0
  have r1 : (w.alloc (.cells #[.string ⟨#[]⟩, .string ⟨#[]⟩, .slice none 0 0, .slice none 0 0] 27)).cell? ⟨w.heap.size, 1, none⟩ = some (.string ⟨#[]⟩) := cell_at hres 1
  have r2 : (w.alloc (.cells #[.string ⟨#[]⟩, .string ⟨#[]⟩, .slice none 0 0, .slice none 0 0] 27)).cell? ⟨w.heap.size, 2, none⟩ = some (.slice none 0 0) := cell_at hres 2
  have r3 : (w.alloc (.cells #[.string ⟨#[]⟩, .string ⟨#[]⟩, .slice none 0 0, .slice none 0 0] 27)).cell? ⟨w.heap.size, 3, none⟩ = some (.slice none 0 0) := cell_at hres 3
  have fr := frozenN hres
  have HB1 := Sp.hid hb1
  clear hb1 hres
  go_enter Tryd.func34, Tryd.ntmps34
  go_wp2
  refine bodyPost_ret (v := .tuple #[.agg #[.string ⟨#[]⟩, .string ⟨#[]⟩, .slice none 0 0, .slice none 0 0], .int .i64 (-1)]) (by simp [results, Tryd.f34, go_sem, r0, r1, r2, r3]) rfl ⟨?_, .inr ⟨HN.out, rfl⟩⟩
  first | exact HB1.out | exact (((HB1.out.setCell (Nat.le_refl _) _).setCell (Nat.le_refl _) _).setCell (Nat.le_refl _) _).setCell (Nat.le_refl _) _

/-- What the loop over attributes keeps. -/
def AttrInv (xs : List Stp) (p0 nT : Nat) (lab : ByteArray) (w3 : World) (i : Value) (wr : World) : Prop := ∃ (p : Nat) (al : List (ByteArray × ByteArray)) (va : Value), p0 + 1 ≤ p ∧ p ≤ xs.length ∧ i = .int .i64 p ∧ al.length + (p0 + 1) = p ∧
  attrsOf (xs.drop (p0 + 1)) = al ++ attrsOf (xs.drop p) ∧ (xs.drop (p0 + 1)).dropWhile isAt = (xs.drop p).dropWhile isAt ∧ wr.heap[nT]? = some (.cells #[.string lab, .string ⟨#[]⟩, va, .slice none 0 0] 27 (0, 0)) ∧
  wr.ownsRow w3.heap.size 36 2 va al.length (al.flatMap atCells) ∧ (∀ x ∈ al, x.1.size ≤ maxLen ∧ x.2.size ≤ maxLen) ∧ w3.grownBy wr (some nT)
/-- Where a child's cells lie. -/
def KidF (B : Nat) (W : World) (l : Value) (b : Nat) : Prop := B ≤ b ∧ b < W.heap.size ∧ some b ≠ l.ownBlock
/-- What the loop over children keeps. -/
def KidInv (xs : List Stp) (p0 F nT : Nat) (lab : ByteArray) (al : List (ByteArray × ByteArray)) (va : Value) (w4 : World) (i : Value) (wr : World) : Prop := ∃ (p F' : Nat) (ks : List (List Value × TT)) (vk : Value), p0 + 1 ≤ p ∧ p ≤ xs.length ∧ i = .int .i64 p ∧ ks.length ≤ p ∧ 2 * (xs.length - p) + 2 ≤ F' ∧
  parL F none (xs.drop p0) = parL F' (some (lab, al, ks.map (·.2))) (xs.drop p) ∧ wr.heap[nT]? = some (.cells #[.string lab, .string ⟨#[]⟩, va, vk] 27 (0, 0)) ∧
  wr.ownsRow w4.heap.size 27 4 vk ks.length (ks.flatMap (·.1)) ∧ (∀ x ∈ ks, (treeS (xs.length - (p0 + 1))).rep (KidF w4.heap.size wr vk) wr x.1 x.2) ∧ w4.grownBy wr (some nT)

theorem news4r (w : World) (a b c d : Value) (t : TypeId) : ∀ j u, [a, b, c, d][j]? = some u → (w.alloc (.cells #[a, b, c, d] t)).cell? ((⟨w.heap.size, 0, none⟩ : Addr).add j) = some u := by
  intro j u hj
  have hadd : (⟨w.heap.size, 0, none⟩ : Addr).add j = ⟨w.heap.size, j, none⟩ := by unfold Addr.add; split <;> simp_all
  rw [hadd, World.cell?_alloc_new]
  simpa using hj

set_option maxRecDepth 100000 in
set_option maxHeartbeats 16000000 in
theorem node_step (xs : List Stp) (hxl : xs.length ≤ 1048576) (a : Option Addr) (c p0 F : Nat) (w : World) (hs : Sl stpS (· < w.heap.size) w a xs) (hp0 : p0 < xs.length) (hF : 2 * (xs.length - p0) + 1 ≤ F)
    (ih : ∀ (p F' : Nat) (W : World), p0 < p → p ≤ xs.length → 2 * (xs.length - p) + 1 ≤ F' → Sl stpS (· < W.heap.size) W a xs → Calls Tryd.prog 34 #[.slice a xs.length c, .int .i64 p] W (NodePost xs p F' W)) :
    Calls Tryd.prog 34 #[.slice a xs.length c, .int .i64 p0] w (NodePost xs p0 F w) := by
  obtain ⟨F, rfl⟩ : ∃ G, F = G + 1 := ⟨F - 1, by omega⟩
  have HSL := Sp.hid (fun W (hW : Below w.heap.size w W) => hs.below (fun k h => h) hW)
  have HIH := Sp.hid ih
  obtain ⟨w1, hw1⟩ : ∃ w1, w1 = w.alloc (.cells #[.string ⟨#[]⟩, .string ⟨#[]⟩, .slice none 0 0, .slice none 0 0] 27) := ⟨_, rfl⟩
  have hb1 : Below w.heap.size w w1 := by rw [hw1]; exact (Below.refl _ _).alloc (Nat.le_refl _) _
  have hres : w1.heap[w.heap.size]? = some (.cells #[.string ⟨#[]⟩, .string ⟨#[]⟩, .slice none 0 0, .slice none 0 0] 27 (0, 0)) := by rw [hw1]; exact World.alloc_heap_new _ _
  have hl1 : w.heap.size + 1 ≤ w1.heap.size := by rw [hw1]; simp
  have hl1' : w1.heap.size ≤ w.heap.size + 1 := by rw [hw1]; simp
  have hal : ∀ (p : Nat) (hp : p < xs.length), ∃ b o, a = some ⟨b, o, none⟩ ∧ b < w.heap.size ∧ xs[p].name.size ≤ maxLen ∧ xs[p].text.size ≤ maxLen ∧ ∀ W, Below w.heap.size w W → W.cell? ⟨b, o + p * 3, none⟩ = some (.int .i64 xs[p].kind) ∧ W.cell? ⟨b, o + p * 3 + 1, none⟩ = some (.string xs[p].name) ∧ W.cell? ⟨b, o + p * 3 + 2, none⟩ = some (.string xs[p].text) := by
    intro p hp
    obtain ⟨b, o, rfl, fb, n1, n2, e1, e2, e3⟩ := stp_cells hs p hp
    exact ⟨b, o, rfl, fb, n1, n2, fun W hW => ⟨(hW.cell (p := ⟨b, o + p * 3, none⟩) fb).trans e1, (hW.cell (p := ⟨b, o + p * 3 + 1, none⟩) fb).trans e2, (hW.cell (p := ⟨b, o + p * 3 + 2, none⟩) fb).trans e3⟩⟩
  have HAL := Sp.hid hal
  obtain ⟨b, o, rfl, fb, n1, n2, hcs⟩ := hal p0 hp0
  have HDR := Sp.hid (drop_at hp0)
  obtain ⟨s, hsx⟩ : ∃ s, s = xs[p0] := ⟨_, rfl⟩
  rw [← hsx] at n1 n2 hcs HDR
  have HCS := Sp.hid hcs
  have HPL := Sp.hid (fun W => refPlain_any s W)
  obtain ⟨e1, e2, e3⟩ := hcs w1 hb1
  have HN1 := Sp.hid n1
  have HN2 := Sp.hid n2
  have HW1 := Sp.hid hw1
  have HB1 := Sp.hid hb1
  have HR1 := Sp.hid hres
  have hbl1 : b < w1.heap.size := by omega
  have hlt0 : ((p0 : Nat) : Int) < ((xs.length : Nat) : Int) := by omega
  obtain ⟨pb, hpb⟩ : ∃ pb, pb = plainB s := ⟨_, rfl⟩
  rw [← hpb] at HPL
  have HPB := Sp.hid hpb
  rw [hw1] at e1 e2 e3 hbl1
  clear hs ih hw1 hb1 hres hal hcs hsx hpb n1 n2
  go_enter Tryd.func34, Tryd.ntmps34
  go_wp2_with fail
  rw [← HW1.out]
  refine (HPL.out _).mono ?_
  rintro e w2 ⟨rfl, hb2⟩
  clear e1 e2 e3 hbl1
  have hs2 := hb2.size
  have hbw2 : Below w.heap.size w w2 := HB1.out.trans (hb2.mono (by omega))
  have hres2 := (hb2.block _ (by omega)).trans HR1.out
  obtain ⟨e1, e2, e3⟩ := HCS.out w2 hbw2
  have hbl2 : b < w2.heap.size := by omega
  have HB2 := Sp.hid hbw2
  have HR2 := Sp.hid hres2
  cases pb
  · have HN := Sp.hid (show parL (F + 1) none (xs.drop p0) = none by rw [HDR.out]; exact parL_bad (.inl HPB.out.symm))
    have r0 : w2.cell? ⟨w.heap.size, 0, none⟩ = some (.string ⟨#[]⟩) := cell_at hres2 0
    have r1 : w2.cell? ⟨w.heap.size, 1, none⟩ = some (.string ⟨#[]⟩) := cell_at hres2 1
    have r2 : w2.cell? ⟨w.heap.size, 2, none⟩ = some (.slice none 0 0) := cell_at hres2 2
    have r3 : w2.cell? ⟨w.heap.size, 3, none⟩ = some (.slice none 0 0) := cell_at hres2 3
    have fr := frozenN hres2
    clear hb2 hbw2 hres2
    go_wp2
    refine bodyPost_ret (v := .tuple #[.agg #[.string ⟨#[]⟩, .string ⟨#[]⟩, .slice none 0 0, .slice none 0 0], .int .i64 (-1)]) (by simp [results, Tryd.f34, go_sem, r0, r1, r2, r3]) rfl ⟨?_, .inr ⟨HN.out, rfl⟩⟩
    first | exact HB2.out | exact (((HB2.out.setCell (Nat.le_refl _) _).setCell (Nat.le_refl _) _).setCell (Nat.le_refl _) _).setCell (Nat.le_refl _) _
  · by_cases h3 : s.kind = 3
    · have h31 : (s.kind != 1) = true := by rw [h3]; rfl
      have h33 : (s.kind != 3) = false := by rw [h3]; rfl
      have h33' : (s.kind == 3) = true := by rw [h3]; rfl
      have HP := Sp.hid (show parL (F + 1) none (xs.drop p0) = some (.mk ⟨#[]⟩ s.text [] [], xs.drop (p0 + 1)) by rw [HDR.out]; exact parL_text HPB.out.symm h3)
      have r0 : w2.cell? ⟨w.heap.size, 0, none⟩ = some (.string ⟨#[]⟩) := cell_at hres2 0
      have r1 : w2.cell? ⟨w.heap.size, 1, none⟩ = some (.string ⟨#[]⟩) := cell_at hres2 1
      have r2 : w2.cell? ⟨w.heap.size, 2, none⟩ = some (.slice none 0 0) := cell_at hres2 2
      have r3 : w2.cell? ⟨w.heap.size, 3, none⟩ = some (.slice none 0 0) := cell_at hres2 3
      have fr := frozenN hres2
      clear hb2 hbw2 hres2 h3
      go_wp2
      refine bodyPost_ret (v := .tuple #[.agg #[.string ⟨#[]⟩, .string s.text, .slice none 0 0, .slice none 0 0], .int .i64 ((p0 + 1 : Nat) : Int)]) (by simp [results, Tryd.f34, go_sem, r0, r1, r2, r3]) rfl ⟨?_, .inl ⟨_, p0 + 1, [.string ⟨#[]⟩, .string s.text, .slice none 0 0, .slice none 0 0], HP.out, by omega, by omega, rfl, ?_⟩⟩
      · first | exact HB2.out | exact (((HB2.out.setCell (Nat.le_refl _) _).setCell (Nat.le_refl _) _).setCell (Nat.le_refl _) _).setCell (Nat.le_refl _) _ | exact HB2.out.setCell (Nat.le_refl _) _
      · obtain ⟨d, hd⟩ : ∃ d, xs.length - p0 = d + 1 := ⟨xs.length - p0 - 1, by omega⟩
        rw [hd]
        exact ⟨⟨Nat.zero_le _, HN2.out, Nat.zero_le _, Nat.zero_le _⟩, none, 0, none, 0, rfl, Sl.nil, Sl.nil⟩
    · by_cases h1 : s.kind = 1
      rotate_left
      · have h11 : (s.kind != 1) = true := by simpa using h1
        have h13 : (s.kind != 3) = true := by simpa using h3
        have HN := Sp.hid (show parL (F + 1) none (xs.drop p0) = none by rw [HDR.out]; exact parL_bad (.inr ⟨h1, h3⟩))
        have r0 : w2.cell? ⟨w.heap.size, 0, none⟩ = some (.string ⟨#[]⟩) := cell_at hres2 0
        have r1 : w2.cell? ⟨w.heap.size, 1, none⟩ = some (.string ⟨#[]⟩) := cell_at hres2 1
        have r2 : w2.cell? ⟨w.heap.size, 2, none⟩ = some (.slice none 0 0) := cell_at hres2 2
        have r3 : w2.cell? ⟨w.heap.size, 3, none⟩ = some (.slice none 0 0) := cell_at hres2 3
        have fr := frozenN hres2
        clear hb2 hbw2 hres2 h1 h3
        go_wp2
        refine bodyPost_ret (v := .tuple #[.agg #[.string ⟨#[]⟩, .string ⟨#[]⟩, .slice none 0 0, .slice none 0 0], .int .i64 (-1)]) (by simp [results, Tryd.f34, go_sem, r0, r1, r2, r3]) rfl ⟨?_, .inr ⟨HN.out, rfl⟩⟩
        first | exact HB2.out | exact (((HB2.out.setCell (Nat.le_refl _) _).setCell (Nat.le_refl _) _).setCell (Nat.le_refl _) _).setCell (Nat.le_refl _) _
      · have h11 : (s.kind != 1) = false := by rw [h1]; rfl
        have h13 : (s.kind == 3) = false := by rw [h1]; rfl
        have HP1 := Sp.hid (show parL (F + 1) none (xs.drop p0) = parL F (some (s.name, attrsOf (xs.drop (p0 + 1)), [])) ((xs.drop (p0 + 1)).dropWhile isAt) by rw [HDR.out]; exact parL_open HPB.out.symm h1)
        obtain ⟨w3, hw3⟩ : ∃ w3, w3 = w2.alloc (.cells #[.string s.name, .string ⟨#[]⟩, .slice none 0 0, .slice none 0 0] 27) := ⟨_, rfl⟩
        have hs3 : w2.heap.size + 1 ≤ w3.heap.size := by rw [hw3]; simp
        have hs3' : w3.heap.size ≤ w2.heap.size + 1 := by rw [hw3]; simp
        have hb3 : Below w2.heap.size w2 w3 := by rw [hw3]; exact (Below.refl _ _).alloc (Nat.le_refl _) _
        have ht3 : w3.heap[w2.heap.size]? = some (.cells #[.string s.name, .string ⟨#[]⟩, .slice none 0 0, .slice none 0 0] 27 (0, 0)) := by rw [hw3]; exact World.alloc_heap_new _ _
        have HB3 := Sp.hid (hbw2.trans (hb3.mono (by omega)) : Below w.heap.size w w3)
        have HR3 := Sp.hid ((hb3.block _ (by omega)).trans hres2)
        have HT3 := Sp.hid ht3
        have HW3 := Sp.hid hw3
        clear hb2 hbw2 hres2 h1 h3 hw3 hb3 ht3
        go_wp2
        rw [← HW3.out]
        clear e1 e2 e3
        have hge : decide (xs.length ≤ p0) = false := by simp; omega
        simp only [hge]
        go_loopw [1] (fun i wr => AttrInv xs p0 w2.heap.size s.name w3 i wr) (fun i _ => xs.length - (intOf i).toNat)
        case atStart => exact ⟨p0 + 1, [], .slice none 0 0, Nat.le_refl _, by omega, by go_num, by simp, rfl, rfl, HT3.out, World.ownsRow_nil _ _ _ _, by simp, grown_refl _ _⟩
        case round =>
          obtain ⟨p, al, va, hp, hpl, rfl, hall, hat, hdw, hnt, hown, hsz, hg3⟩ := hrel
          have hsr := hg3.size
          have hbwr : Below w.heap.size w wr := HB3.out.grown hg3 (by omega) (fun g hg => by have := Option.some.inj hg; omega)
          have hresr := (hg3.block _ (by omega) (fun e => by have := Option.some.inj e; omega)).trans HR3.out
          have hntl : w2.heap.size < wr.heap.size := by omega
          by_cases hlt : p < xs.length
          · obtain ⟨b', o', hbe, -, n1, n2, hcs⟩ := HAL.out p hlt
            cases hbe
            have HDP := Sp.hid (drop_at hlt)
            obtain ⟨q, hq⟩ : ∃ q, q = xs[p] := ⟨_, rfl⟩
            rw [← hq] at n1 n2 hcs HDP
            obtain ⟨d1, d2, d3⟩ := hcs wr hbwr
            have HCQ := Sp.hid hcs
            have hbr : b < wr.heap.size := by omega
            clear hq hcs
            by_cases h2 : q.kind = 2
            · have h2' : (q.kind == 2) = true := by rw [h2]; rfl
              obtain ⟨j0, hj0, hy0, hy1, hy2⟩ := info_parts infoAttrR
              obtain ⟨ha1, ha2⟩ := attrs_step (s := q) (r := xs.drop (p + 1)) (by unfold isAt; rw [h2]; rfl)
              have HAT := Sp.hid (show attrsOf (xs.drop (p0 + 1)) = (al ++ [(q.name, q.text)]) ++ attrsOf (xs.drop (p + 1)) by rw [hat, HDP.out, ha1]; simp)
              have HDW := Sp.hid (show (xs.drop (p0 + 1)).dropWhile isAt = (xs.drop (p + 1)).dropWhile isAt by rw [hdw, HDP.out, ha2])
              have HPO := Sp.hid hown
              have HNT := Sp.hid hnt
              have HG3 := Sp.hid hg3
              have HD1 := Sp.hid d1
              have HD2 := Sp.hid d2
              have HD3 := Sp.hid d3
              have HSZ := Sp.hid (show ∀ x ∈ al ++ [(q.name, q.text)], x.1.size ≤ maxLen ∧ x.2.size ≤ maxLen from fun x hx => by
                rcases List.mem_append.1 hx with hx | hx
                · exact hsz x hx
                · rw [List.mem_singleton.1 hx]; exact ⟨n1, n2⟩)
              have x2 : wr.cell? ⟨w2.heap.size, 2, none⟩ = some va := cell_at hnt 2
              have HX2 := Sp.hid x2
              have hpx : some w2.heap.size ≠ va.ownBlock := fun e => by have := (hown.lt _ e.symm).1; omega
              have hpb2 : some b ≠ va.ownBlock := fun e => by have := (hown.lt _ e.symm).1; omega
              have HPX := Sp.hid hpx
              clear hat hdw ha1 ha2 hown hnt hg3 hsz hresr hbwr hpx hpb2 h2 x2 n1 n2
              go_wp2
              clear d1 d2 d3
              refine wp_region_two (by kernel_rfl) [some 72, some 73, some 74, some 75, some 76, some 77, some 78, some 79, some 80, some 81, some 82, some 83, some 84, some 85, some 86, some 87, none]
                [fun v _ => v = .pointer (some ⟨w2.heap.size, 2, none⟩), fun v _ => v = va, fun v _ => v = .slice (some ⟨b, o, none⟩) xs.length c, fun v _ => v = .int .i64 (p : Nat), fun v _ => v = .pointer (some ⟨b, o + p * 3, none⟩), fun v _ => v = .pointer (some ⟨b, o + p * 3 + 1, none⟩), fun v _ => v = .string q.name,
                  fun v _ => v = .slice (some ⟨b, o, none⟩) xs.length c, fun v _ => v = .int .i64 (p : Nat), fun v _ => v = .pointer (some ⟨b, o + p * 3, none⟩), fun v _ => v = .pointer (some ⟨b, o + p * 3 + 2, none⟩), fun v _ => v = .string q.text, fun v _ => v = .agg #[.string q.name, .string q.text],
                  fun v y => ∃ z, v = .slice (some ⟨z, 0, none⟩) 1 1 ∧ wr.heap.size ≤ z ∧ y.heap[z]? = some (.cells #[.string q.name, .string q.text] 36 (0, 0)),
                  fun v y => y.ownsRow w3.heap.size 36 2 v (al.length + 1) (al.flatMap atCells ++ [.string q.name, .string q.text]) ∧ (v.ownBlock = va.ownBlock ∨ ∃ z, v.ownBlock = some z ∧ wr.heap.size ≤ z),
                  fun v _ => v = .pointer (some ⟨w2.heap.size, 2, none⟩)]
                14 [13, 12, 11, 10, 9, 8, 7, 6, 5, 4, 3, 2, 1, 0]
                (fun b w' => wr.grownBy w' (if b then va.ownBlock else none))
                (fun i w w' => w.grownBy w' (if i = 14 then va.ownBlock else none)) rfl (by kernel_rfl) (by kernel_rfl) (by kernel_rfl) (by kernel_rfl) (by kernel_rfl) ?fr2 ?hfr2 ?G02 ?GR2 ?FR2 ?step2 _ rfl ?fin2
              case hfr2 => intro u; simp only [Sp.fillFrom, Sp.idx_cons, Sp.idx_nil, Option.some.injEq, reduceCtorEq, reduceIte, Nat.reduceEqDiff, Nat.reduceAdd, Option.map_some, Option.map_none]; exact rfl
              case G02 => exact ⟨rfl, rfl, rfl, Nat.le_refl _, fun _ _ _ => rfl⟩
              case GR2 =>
                intro i b y1 y2 hG hR
                cases b
                · by_cases hi : i = 14
                  · simp only [hi, if_true] at hR ⊢; exact grown_trans (grown_weak hG) hR
                  · simp only [if_neg hi] at hR; simp only [hi, decide_false, Bool.or_false]; exact grown_trans hG hR
                · simp only [if_true, Bool.true_or] at hG ⊢
                  by_cases hi : i = 14
                  · simp only [hi, if_true] at hR; exact grown_trans hG hR
                  · simp only [if_neg hi] at hR; exact grown_trans hG (grown_weak hR)
              case FR2 =>
                iterate 13 (refine ⟨fun _ _ _ _ _ _ _ h => h, ?_⟩)
                refine ⟨?_, ?_, fun _ _ _ _ _ _ _ h => h, trivial⟩
                · rintro i hi v y1 y2 _ hR ⟨z, rfl, hz, hc⟩
                  refine ⟨z, rfl, hz, (hR.block z (Array.getElem?_eq_some_iff.1 hc).1 ?_).trans hc⟩
                  split
                  · intro e1
                    have := (HPO.out.lt z e1.symm).2
                    omega
                  · simp
                · rintro i hi v y1 y2 _ hR ⟨hw, hl'⟩
                  rw [if_neg hi] at hR
                  exact ⟨hw.kept hR (by cases v.ownBlock <;> simp), hl'⟩
              case step2 =>
                refine ⟨?_, ?_, ?_, ?_, ?_, ?_, ?_, ?_, ?_, ?_, ?_, ?_, ?_, ?_, ?_, ?_, trivial⟩
                all_goals
                  intro u y1 bb hbb hG hD
                  simp only [Sp.DepsHold, Sp.factAt, Region.binds, List.getElem?_cons_zero, List.getElem?_cons_succ, Option.getD_some, and_true, true_implies] at hD
                  dsimp only
                iterate 13
                  · obtain rfl : bb = false := hbb (.inl (by simp))
                    have c2 : y1.cell? ⟨w2.heap.size, 2, none⟩ = some va := hG.cell (a := ⟨w2.heap.size, 2, none⟩) HX2.out (by simp)
                    have q1 : y1.cell? ⟨b, o + p * 3, none⟩ = some (.int .i64 q.kind) := hG.cell (a := ⟨b, o + p * 3, none⟩) HD1.out (by simp)
                    have q2 : y1.cell? ⟨b, o + p * 3 + 1, none⟩ = some (.string q.name) := hG.cell (a := ⟨b, o + p * 3 + 1, none⟩) HD2.out (by simp)
                    have q3 : y1.cell? ⟨b, o + p * 3 + 2, none⟩ = some (.string q.text) := hG.cell (a := ⟨b, o + p * 3 + 2, none⟩) HD3.out (by simp)
                    clear hG hbb
                    repeat (obtain ⟨hE, hD⟩ := hD; (try rw [hE]); clear hE)
                    try rw [hD]
                    try clear hD
                    go_wp2
                    exact ⟨grown_refl _ _, _, rfl, rfl⟩
                · have hGs := hG.size
                  rw [hD]
                  clear hG hbb hD
                  go_wp2
                  exact ⟨World.grownBy_alloc _ _ _, _, rfl, _, rfl, hGs, World.alloc_heap_new _ _⟩
                · obtain rfl : bb = false := hbb (.inr rfl)
                  obtain ⟨h1, z, h21, hz, hc⟩ := hD
                  have hGs := hG.size
                  have hrow1 : y1.ownsRow w3.heap.size 36 2 va al.length (al.flatMap atCells) := HPO.out.kept hG (by cases va.ownBlock <;> simp)
                  rw [h1, h21]
                  refine wpList_append_own_at _ rfl _ _ 24 rfl w3.heap.size 36 j0 _ 2 32 Tryd.underlying24 hj0 hy0 hy1 hy2 rfl (by decide) _ _ _ rfl hrow1 ⟨z, 0, none⟩ 1 1 [.string q.name, .string q.text] rfl rfl ?_ ?_ (by unfold maxLen; omega) (by omega) (by omega) ?_
                  · intro j u hj
                    have hadd : (⟨z, 0, none⟩ : Addr).add j = ⟨z, j, none⟩ := by unfold Addr.add; split <;> simp_all
                    rw [hadd, cell_at hc]
                    simpa using hj
                  · intro u hu; simp at hu; rcases hu with rfl | rfl <;> rfl
                  intro v' y2 hown' hgrow _ hloc
                  refine wpList_nil ?_
                  refine ⟨hgrow, v', rfl, hown', ?_⟩
                  rcases hloc with h | h
                  · exact .inl h
                  · exact .inr ⟨_, h, hGs⟩
                · clear hG hbb hD
                  go_wp2
                  exact ⟨grown_refl _ _, _, rfl, rfl⟩
              case fin2 =>
                intro u y1 bb hG hF
                simp only [Sp.AllF, and_true] at hF; (try dsimp only); generalize u 0 = u0 at *; generalize u 1 = u1 at *; generalize u 2 = u2 at *; generalize u 3 = u3 at *; generalize u 4 = u4 at *; generalize u 5 = u5 at *; generalize u 6 = u6 at *; generalize u 7 = u7 at *; generalize u 8 = u8 at *; generalize u 9 = u9 at *; generalize u 10 = u10 at *; generalize u 11 = u11 at *; generalize u 12 = u12 at *; generalize u 13 = u13 at *; generalize u 14 = u14 at *; generalize u 15 = u15 at *; clear u
                obtain ⟨-, -, -, -, -, -, -, -, -, -, -, -, -, -, ⟨hown, hloc⟩, h23⟩ := hF
                have hg1 : wr.grownBy y1 va.ownBlock := by cases bb; exact grown_weak hG; exact hG
                obtain ⟨gr, cr, hv⟩ := Joins.ownsRow_form hown (Nat.succ_pos _)
                rw [hv] at hown hloc ⊢
                rw [h23]
                have hgx : y1.heap[w2.heap.size]? = some (.cells #[.string s.name, .string ⟨#[]⟩, va, .slice none 0 0] 27 (0, 0)) := (hg1.block _ hntl HPX.out).trans HNT.out
                have cg : y1.cell? ⟨w2.heap.size, 2, none⟩ = some va := cell_at hgx 2
                have fg := frozenN hgx
                have hgl : w2.heap.size < y1.heap.size := by have := hg1.size; omega
                have hgr : gr ≠ w2.heap.size := fun e => by have := (hown.lt gr rfl).1; omega
                have hset : y1.grownBy (y1.setCell ⟨w2.heap.size, 2, none⟩ (.slice (some ⟨gr, 0, none⟩) (al.length + 1) cr)) (some w2.heap.size) := set_grownN _ _ _ _
                have hcell := heap_setCell_same y1 w2.heap.size 2 #[.string s.name, .string ⟨#[]⟩, va, .slice none 0 0] 27 (.slice (some ⟨gr, 0, none⟩) (al.length + 1) cr) hgx
                have hgn : w3.grownBy (y1.setCell ⟨w2.heap.size, 2, none⟩ (.slice (some ⟨gr, 0, none⟩) (al.length + 1) cr)) (some w2.heap.size) := grown_trans (grown_newN HG3.out hg1 (fun g hg => (HPO.out.lt g hg).1)) hset
                have HREL := Sp.hid (show AttrInv xs p0 w2.heap.size s.name w3 (.int .i64 ((p + 1 : Nat) : Int)) (y1.setCell ⟨w2.heap.size, 2, none⟩ (.slice (some ⟨gr, 0, none⟩) (al.length + 1) cr)) from
                  ⟨p + 1, al ++ [(q.name, q.text)], .slice (some ⟨gr, 0, none⟩) (al.length + 1) cr, by omega, by omega, rfl, by rw [List.length_append]; simp; omega, HAT.out, HDW.out, by simpa using hcell,
                    by rw [List.length_append, List.flatMap_append]; simpa [atCells] using hown.kept hset (.inr (fun e => hgr (Option.some.inj e))), HSZ.out, hgn⟩)
                clear hG hown hloc h23 hg1 hgx hgr hset hcell hgn hv
                go_wp2
                dsimp only [StepPost, normally]
                go_wp2
                go_roundw
                case rel => exact HREL.out
                case measure => simp [intOf]; omega
            · have h2' : (q.kind == 2) = false := by simpa using h2
              obtain ⟨ha1, ha2⟩ := attrs_stop (s := q) (r := xs.drop (p + 1)) (by unfold isAt; simpa using h2)
              have HKP := Sp.hid (show parL (F + 1) none (xs.drop p0) = parL F (some (s.name, al, [])) (xs.drop p) by
                rw [HP1.out, hat, hdw, HDP.out, ha1, ha2, List.append_nil])
              obtain ⟨w4, rfl⟩ : ∃ w4, w4 = wr := ⟨_, rfl⟩
              have HOW := Sp.hid hown
              have HSZ := Sp.hid hsz
              have HNT := Sp.hid hnt
              have HB4 := Sp.hid hbwr
              have HR4 := Sp.hid hresr
              have HG34 := Sp.hid hg3
              have hal1 : al.length ≤ 1048576 := by omega
              clear hat hdw ha1 ha2 hown hnt hg3 hsz hresr hbwr h2 n1 n2
              go_wp2
              clear d1 d2 d3
              go_loopw [1] (fun i wr => KidInv xs p0 (F + 1) w2.heap.size s.name al va w4 i wr) (fun i _ => xs.length - (intOf i).toNat)
              case atStart => exact ⟨p, F, [], .slice none 0 0, hp, by omega, rfl, Nat.zero_le _, by omega, HKP.out, HNT.out, World.ownsRow_nil _ _ _ _, by simp, grown_refl _ _⟩
              case round =>
                obtain ⟨p2, F', ks, vk, hp2, hpl2, rfl, hkl, hF', hpar, hnt2, hown2, hks, hg4⟩ := hrel
                have hs4 := hg4.size
                have hbwr2 : Below w.heap.size w wr := HB4.out.grown hg4 (by omega) (fun g hg => by have := Option.some.inj hg; omega)
                have hresr2 := (hg4.block _ (by omega) (fun e => by have := Option.some.inj e; omega)).trans HR4.out
                have hntl2 : w2.heap.size < wr.heap.size := by omega
                by_cases hlt2 : p2 < xs.length
                · obtain ⟨b', o', hbe, -, m1, m2, hcs⟩ := HAL.out p2 hlt2
                  cases hbe
                  have HDP2 := Sp.hid (drop_at hlt2)
                  obtain ⟨q2, hq2⟩ : ∃ q2, q2 = xs[p2] := ⟨_, rfl⟩
                  rw [← hq2] at hcs HDP2
                  obtain ⟨d1, d2, d3⟩ := hcs wr hbwr2
                  have HCQ2 := Sp.hid hcs
                  have hbr2 : b < wr.heap.size := by omega
                  obtain ⟨F', rfl⟩ : ∃ G, F' = G + 1 := ⟨F' - 1, by omega⟩
                  clear hq2 hcs m1 m2
                  by_cases h4 : q2.kind = 4
                  · have h4' : (q2.kind != 4) = false := by rw [h4]; rfl
                    have HPQ := Sp.hid (fun W => refPlain_any q2 W)
                    obtain ⟨pq, hpq⟩ : ∃ pq, pq = plainB q2 := ⟨_, rfl⟩
                    rw [← hpq] at HPQ
                    have HQP := Sp.hid hpq
                    have HK4 := Sp.hid h4
                    have HPAR := Sp.hid hpar
                    have HNT2 := Sp.hid hnt2
                    have HO2 := Sp.hid hown2
                    have HKS := Sp.hid hks
                    have HB5 := Sp.hid hbwr2
                    have HR5 := Sp.hid hresr2
                    have HG4 := Sp.hid hg4
                    clear hpq h4 hpar hnt2 hown2 hks hbwr2 hresr2 hg4
                    go_wp2_with fail
                    refine (HPQ.out _).mono ?_
                    rintro e w6 ⟨rfl, hb6⟩
                    clear d1 d2 d3
                    have hs6 := hb6.size
                    have hbw6 : Below w.heap.size w w6 := HB5.out.trans (hb6.mono (by omega))
                    have hres6 := (hb6.block _ (by omega)).trans HR5.out
                    have hnt6 := (hb6.block _ (by omega)).trans HNT2.out
                    have HB6 := Sp.hid hbw6
                    have HBK := Sp.hid hb6
                    have r0 : w6.cell? ⟨w.heap.size, 0, none⟩ = some (.string ⟨#[]⟩) := cell_at hres6 0
                    have r1 : w6.cell? ⟨w.heap.size, 1, none⟩ = some (.string ⟨#[]⟩) := cell_at hres6 1
                    have r2 : w6.cell? ⟨w.heap.size, 2, none⟩ = some (.slice none 0 0) := cell_at hres6 2
                    have r3 : w6.cell? ⟨w.heap.size, 3, none⟩ = some (.slice none 0 0) := cell_at hres6 3
                    have fr := frozenN hres6
                    cases pq
                    · have HN := Sp.hid (show parL (F + 1) none (xs.drop p0) = none by rw [HPAR.out, HDP2.out]; exact parL_close_bad HK4.out HQP.out.symm)
                      clear hb6 hbw6 hres6 hnt6
                      go_wp2
                      refine bodyPost_ret (v := .tuple #[.agg #[.string ⟨#[]⟩, .string ⟨#[]⟩, .slice none 0 0, .slice none 0 0], .int .i64 (-1)]) (by simp [results, Tryd.f34, go_sem, r0, r1, r2, r3]) rfl ⟨?_, .inr ⟨HN.out, rfl⟩⟩
                      first | exact HB6.out | exact (((HB6.out.setCell (Nat.le_refl _) _).setCell (Nat.le_refl _) _).setCell (Nat.le_refl _) _).setCell (Nat.le_refl _) _
                    · have HP := Sp.hid (show parL (F + 1) none (xs.drop p0) = some (.mk s.name ⟨#[]⟩ al (ks.map (·.2)), xs.drop (p2 + 1)) by rw [HPAR.out, HDP2.out]; exact parL_close HK4.out HQP.out.symm)
                      obtain ⟨aa, ca, rfl, hsa⟩ := own_attrs HOW.out HSZ.out
                      obtain ⟨ak, ck, rfl, hsk⟩ := own_sl (S := treeS (xs.length - (p0 + 1))) (F := fun b => w4.heap.size ≤ b ∧ b < wr.heap.size) (by rw [treeS_sz]; exact HO2.out) rfl (fun y hy => (treeS _).mono (HKS.out y hy) fun b hb => ⟨hb.1, hb.2.1⟩) (fun g hg => HO2.out.lt g hg)
                      have hlo := HOW.out.lt
                      have HSA := Sp.hid (show Sl attrS (fun b => w.heap.size + 1 ≤ b ∧ b < w6.heap.size) w6 aa al from
                        (hsa.frame fun b hb => by
                          have := hlo b hb
                          exact (hb6.block b (by omega)).trans (HG4.out.block b this.2 (fun e => by have := Option.some.inj e; omega))).mono fun b hb => by have := hlo b hb; omega)
                      have HSK := Sp.hid (show Sl (treeS (xs.length - (p0 + 1))) (fun b => w.heap.size + 1 ≤ b ∧ b < w6.heap.size) w6 ak (ks.map (·.2)) from
                        (hsk.frame fun b hb => hb6.block b hb.2).mono fun b hb => by have := hb.1; have := hb.2; omega)
                      have t0 : w6.cell? ⟨w2.heap.size, 0, none⟩ = some (.string s.name) := cell_at hnt6 0
                      have t1 : w6.cell? ⟨w2.heap.size, 1, none⟩ = some (.string ⟨#[]⟩) := cell_at hnt6 1
                      have t2 : w6.cell? ⟨w2.heap.size, 2, none⟩ = some (.slice aa al.length ca) := cell_at hnt6 2
                      have t3 : w6.cell? ⟨w2.heap.size, 3, none⟩ = some (.slice ak ks.length ck) := cell_at hnt6 3
                      clear hb6 hbw6 hres6 hnt6 hsa hsk hlo
                      go_wp2
                      refine bodyPost_ret (v := .tuple #[.agg #[.string s.name, .string ⟨#[]⟩, .slice aa al.length ca, .slice ak ks.length ck], .int .i64 ((p2 + 1 : Nat) : Int)]) (by simp [results, Tryd.f34, go_sem, r0, r1, r2, r3]) rfl ⟨?_, .inl ⟨_, p2 + 1, [.string s.name, .string ⟨#[]⟩, .slice aa al.length ca, .slice ak ks.length ck], HP.out, by omega, by omega, rfl, ?_⟩⟩
                      · first | exact HB6.out | exact (((HB6.out.setCell (Nat.le_refl _) _).setCell (Nat.le_refl _) _).setCell (Nat.le_refl _) _).setCell (Nat.le_refl _) _
                      · have e : xs.length - p0 = (xs.length - (p0 + 1)) + 1 := by omega
                        rw [e]
                        have hk2 : (TT.mk s.name ⟨#[]⟩ al (ks.map (·.2))).kids.length = ks.length := by simp [TT.kids]
                        have hfr : ∀ b, w.heap.size + 1 ≤ b ∧ b < w6.heap.size → ((((w6.setCell ⟨w.heap.size, 0, none⟩ (.string s.name)).setCell ⟨w.heap.size, 1, none⟩ (.string ⟨#[]⟩)).setCell ⟨w.heap.size, 2, none⟩ (.slice aa al.length ca)).setCell ⟨w.heap.size, 3, none⟩ (.slice ak ks.length ck)).heap[b]? = w6.heap[b]? := fun b hb => by
                          have h1 := hb.1
                          rw [Below.heap_setCell _ _ _ _ (by show b ≠ w.heap.size; omega), Below.heap_setCell _ _ _ _ (by show b ≠ w.heap.size; omega), Below.heap_setCell _ _ _ _ (by show b ≠ w.heap.size; omega), Below.heap_setCell _ _ _ _ (by show b ≠ w.heap.size; omega)]
                        refine ⟨⟨HN1.out, Nat.zero_le _, hal1, by rw [hk2]; unfold maxLen; omega⟩, aa, ca, ak, ck, by rw [hk2]; rfl, ?_, ?_⟩
                        · exact (HSA.out.frame hfr).mono fun b hb => by simp only [World.size_setCell]; omega
                        · exact (HSK.out.frame hfr).mono fun b hb => by simp only [World.size_setCell]; omega
                  · have h4' : (q2.kind != 4) = true := by simpa using h4
                    have HCALL := Sp.hid (HIH.out p2 F' wr (by omega) hpl2 (by omega) ((HSL.out wr hbwr2).mono fun k hk => by have : k < w.heap.size := hk; omega))
                    have HK4 := Sp.hid h4
                    have HPAR := Sp.hid hpar
                    have HNT2 := Sp.hid hnt2
                    have HO2 := Sp.hid hown2
                    have HKS := Sp.hid hks
                    have HB5 := Sp.hid hbwr2
                    have HR5 := Sp.hid hresr2
                    have HG4 := Sp.hid hg4
                    clear h4 hpar hnt2 hown2 hks hbwr2 hresr2 hg4
                    go_wp2_with fail
                    refine HCALL.out.mono ?_
                    rintro e w5 ⟨hb5, ⟨T, qe, vs, hpp, hq1, hq2, rfl, hrep⟩ | ⟨hpp, rfl⟩⟩
                    rotate_left
                    · have HN := Sp.hid (show parL (F + 1) none (xs.drop p0) = none by rw [HPAR.out, HDP2.out]; exact parL_kid_bad HK4.out (by rw [← HDP2.out]; exact hpp))
                      have HB6 := Sp.hid (HB5.out.trans (hb5.mono HB5.out.size))
                      have hres6 := (hb5.block _ (by omega)).trans HR5.out
                      have hs5 := hb5.size
                      have HRS := Sp.hid (show (w5.alloc (.cells #[.string ⟨#[]⟩, .string ⟨#[]⟩, .slice none 0 0, .slice none 0 0] 27)).heap[w.heap.size]? = some (.cells #[.string ⟨#[]⟩, .string ⟨#[]⟩, .slice none 0 0, .slice none 0 0] 27 (0, 0)) from (Below.heap_alloc _ _ _ (by omega)).trans hres6)
                      obtain ⟨w6, hw6⟩ : ∃ w6, w6 = w5.alloc (.cells #[.string ⟨#[]⟩, .string ⟨#[]⟩, .slice none 0 0, .slice none 0 0] 27) := ⟨_, rfl⟩
                      have HB7 := Sp.hid (show Below w.heap.size w (w5.alloc (.cells #[.string ⟨#[]⟩, .string ⟨#[]⟩, .slice none 0 0, .slice none 0 0] 27)) from HB6.out.alloc HB6.out.size _)
                      have hr6 := HRS.out
                      have r0 : (w5.alloc (.cells #[.string ⟨#[]⟩, .string ⟨#[]⟩, .slice none 0 0, .slice none 0 0] 27)).cell? ⟨w.heap.size, 0, none⟩ = some (.string ⟨#[]⟩) := cell_at hr6 0
                      have r1 : (w5.alloc (.cells #[.string ⟨#[]⟩, .string ⟨#[]⟩, .slice none 0 0, .slice none 0 0] 27)).cell? ⟨w.heap.size, 1, none⟩ = some (.string ⟨#[]⟩) := cell_at hr6 1
                      have r2 : (w5.alloc (.cells #[.string ⟨#[]⟩, .string ⟨#[]⟩, .slice none 0 0, .slice none 0 0] 27)).cell? ⟨w.heap.size, 2, none⟩ = some (.slice none 0 0) := cell_at hr6 2
                      have r3 : (w5.alloc (.cells #[.string ⟨#[]⟩, .string ⟨#[]⟩, .slice none 0 0, .slice none 0 0] 27)).cell? ⟨w.heap.size, 3, none⟩ = some (.slice none 0 0) := cell_at hr6 3
                      have fr := frozenN hr6
                      clear hb5 hpp hres6 hr6 hw6
                      go_wp2
                      refine bodyPost_ret (v := .tuple #[.agg #[.string ⟨#[]⟩, .string ⟨#[]⟩, .slice none 0 0, .slice none 0 0], .int .i64 (-1)]) (by simp [results, Tryd.f34, go_sem, r0, r1, r2, r3]) rfl ⟨?_, .inr ⟨HN.out, rfl⟩⟩
                      first | exact HB7.out | exact (((HB7.out.setCell (Nat.le_refl _) _).setCell (Nat.le_refl _) _).setCell (Nat.le_refl _) _).setCell (Nat.le_refl _) _
                    · obtain ⟨i0, hi0, hz0, hz1, hz2⟩ := info_parts infoTreeR
                      have hs5 := hb5.size
                      have hd1 : xs.length - p2 ≤ xs.length - (p0 + 1) := by omega
                      have hrep2 := treeS_le hd1 hrep
                      obtain ⟨d, hd⟩ : ∃ d, xs.length - p2 = d + 1 := ⟨xs.length - p2 - 1, by omega⟩
                      rw [hd] at hrep
                      obtain ⟨-, aa, ca, ka, ck, hvs, -, -⟩ := tree_open hrep
                      subst hvs
                      have HREP := Sp.hid hrep2
                      have HPAR2 := Sp.hid (show parL (F + 1) none (xs.drop p0) = parL F' (some (s.name, al, ks.map (·.2) ++ [T])) (xs.drop qe) by rw [HPAR.out, HDP2.out]; exact parL_kid HK4.out (by rw [← HDP2.out]; exact hpp))
                      have HB6 := Sp.hid (HB5.out.trans (hb5.mono HB5.out.size))
                      have HBK := Sp.hid hb5
                      have hnt5 := (hb5.block _ (by omega)).trans HNT2.out
                      have hres5 := (hb5.block _ (by omega)).trans HR5.out
                      have HO5 := Sp.hid (own_same HO2.out (fun j hj => hb5.block j (HO2.out.lt j hj).2) : w5.ownsRow w4.heap.size 27 4 vk ks.length (ks.flatMap (·.1)))
                      have hqn : ¬ ((qe : Nat) : Int) < 0 := by omega
                      have HNT5 := Sp.hid hnt5
                      have x3 : (w5.alloc (.cells #[.string T.label, .string T.text, .slice aa T.attrs.length ca, .slice ka T.kids.length ck] 27)).cell? ⟨w2.heap.size, 3, none⟩ = some vk := cell_at ((Below.heap_alloc _ _ _ (by omega)).trans hnt5) 3
                      have hnl5 : w2.heap.size < w5.heap.size := by omega
                      have hvx : some w2.heap.size ≠ vk.ownBlock := fun e => by have := (HO2.out.lt _ e.symm).1; omega
                      have HVX := Sp.hid hvx
                      clear hrep hrep2 hpp hb5 hnt5 hres5 hd hd1 hvx d1 d2 d3
                      go_wp2_with (at_builtin; refine wpList_append_own_at _ rfl _ _ 25 rfl w4.heap.size 27 i0 _ 4 80 Tryd.underlying25 hi0 hz0 hz1 hz2 rfl (by decide) _ _ _ rfl ((HO5.out.alloc _).alloc _) ⟨w5.heap.size + 1, 0, none⟩ 1 1 [.string T.label, .string T.text, .slice aa T.attrs.length ca, .slice ka T.kids.length ck] rfl rfl ?c1 ?c2 ?c3 ?c4 ?c5 ?c6)
                      case c1 => have := news4r (w5.alloc (.cells #[.string T.label, .string T.text, .slice aa T.attrs.length ca, .slice ka T.kids.length ck] 27)) (.string T.label) (.string T.text) (.slice aa T.attrs.length ca) (.slice ka T.kids.length ck) 27; simpa using this
                      case c2 => intro u hu; simp at hu; rcases hu with rfl | rfl | rfl | rfl <;> rfl
                      case c3 => unfold maxLen; omega
                      case c4 => omega
                      case c5 => simp; omega
                      case c6 =>
                        intro v' w7 hown' hgrow _ hwh
                        have a5 : w5.grownBy w7 vk.ownBlock := grown_trans (grown_weak (grown_below (((Below.refl _ _).alloc (Nat.le_refl _) _).alloc (by simp) _))) hgrow
                        have ha5 := a5.size
                        have hgx : w7.heap[w2.heap.size]? = some (.cells #[.string s.name, .string ⟨#[]⟩, va, vk] 27 (0, 0)) := (a5.block _ hnl5 HVX.out).trans HNT5.out
                        have cg : w7.cell? ⟨w2.heap.size, 3, none⟩ = some vk := cell_at hgx 3
                        have fg := frozenN hgx
                        have hgl : w2.heap.size < w7.heap.size := by omega
                        have hset : w7.grownBy (w7.setCell ⟨w2.heap.size, 3, none⟩ v') (some w2.heap.size) := set_grownN _ _ _ _
                        have hcell := heap_setCell_same w7 w2.heap.size 3 #[.string s.name, .string ⟨#[]⟩, va, vk] 27 v' hgx
                        have hub : ∀ g, vk.ownBlock = some g → w4.heap.size ≤ g ∧ g < wr.heap.size := fun g hg => HO2.out.lt g hg
                        have hg47 : w4.grownBy w7 (some w2.heap.size) := grown_newN (grown_trans HG4.out (grown_weak (grown_below HBK.out))) a5 (fun g hg => (hub g hg).1)
                        have hvn : ∀ g, v'.ownBlock = some g → w4.heap.size ≤ g := fun g hg => (hown'.lt g hg).1
                        have hels : ∀ y ∈ ks, (treeS (xs.length - (p0 + 1))).rep (KidF w4.heap.size (w7.setCell ⟨w2.heap.size, 3, none⟩ v') v') (w7.setCell ⟨w2.heap.size, 3, none⟩ v') y.1 y.2 := fun y hy => (treeS _).mono ((treeS _).frame (HKS.out y hy) fun b hb => by
                          have h1 := hb.1
                          have h2 := hb.2.1
                          rw [hset.block b (by omega) (fun e => by have := Option.some.inj e; omega), a5.block b (by omega) hb.2.2]
                          exact HBK.out.block b h2) fun b hb => ⟨hb.1, by have := hb.2.1; simp only [World.size_setCell]; omega, fun e => by
                          rcases hwh with hw | hw
                          · rw [hw] at e; exact hb.2.2 e
                          · rw [hw] at e; have h2 := hb.2.1; have := Option.some.inj e; first | omega | (simp at this; omega)⟩
                        have hnew : (treeS (xs.length - (p0 + 1))).rep (KidF w4.heap.size (w7.setCell ⟨w2.heap.size, 3, none⟩ v') v') (w7.setCell ⟨w2.heap.size, 3, none⟩ v') [.string T.label, .string T.text, .slice aa T.attrs.length ca, .slice ka T.kids.length ck] T := (treeS _).mono ((treeS _).frame HREP.out fun b hb => by
                          have h1 := hb.1
                          have h2 := hb.2
                          rw [hset.block b (by omega) (fun e => by have := Option.some.inj e; omega), a5.block b h2 (fun e => by have := hub b e.symm; omega)]) fun b hb => ⟨by have := hb.1; omega, by have := hb.2; simp only [World.size_setCell]; omega, fun e => by
                          have h1 := hb.1
                          have h2 := hb.2
                          rcases hwh with hw | hw
                          · rw [hw] at e; have := hub b e.symm; omega
                          · rw [hw] at e; have := Option.some.inj e; first | omega | (simp at this; omega)⟩
                        have HREL := Sp.hid (show KidInv xs p0 (F + 1) w2.heap.size s.name al va w4 (.int .i64 ((qe : Nat) : Int)) (w7.setCell ⟨w2.heap.size, 3, none⟩ v') from
                          ⟨qe, F', ks ++ [([.string T.label, .string T.text, .slice aa T.attrs.length ca, .slice ka T.kids.length ck], T)], v', by omega, hq2, rfl, by rw [List.length_append]; simp; omega, by omega, by rw [List.map_append]; exact HPAR2.out, by simpa using hcell,
                            by rw [List.length_append, List.flatMap_append]; simpa using hown'.kept hset (.inr (fun e => by have := hvn _ e; omega)), fun y hy => by
                              rcases List.mem_append.1 hy with hy | hy
                              · exact hels y hy
                              · rw [List.mem_singleton.1 hy]; exact hnew, grown_trans hg47 hset⟩)
                        obtain ⟨va', vn', vc', hv'⟩ : ∃ va' vn' vc', v' = .slice va' vn' vc' := by
                          rcases Joins.ownsRow_forms hown' with ⟨h, _⟩ | ⟨g1, cap1, h⟩
                          · exact ⟨_, _, _, h⟩
                          · exact ⟨_, _, _, h⟩
                        subst hv'
                        clear hown' hgrow hwh a5 ha5 hgx hset hcell hub hg47 hvn hels hnew
                        go_wp2
                        go_roundw
                        case rel => exact HREL.out
                        case measure => simp [intOf]; omega
                · obtain rfl : p2 = xs.length := by omega
                  have HN := Sp.hid (show parL (F + 1) none (xs.drop p0) = none by rw [hpar, List.drop_length]; exact parL_end)
                  have HB5 := Sp.hid hbwr2
                  have r0 : wr.cell? ⟨w.heap.size, 0, none⟩ = some (.string ⟨#[]⟩) := cell_at hresr2 0
                  have r1 : wr.cell? ⟨w.heap.size, 1, none⟩ = some (.string ⟨#[]⟩) := cell_at hresr2 1
                  have r2 : wr.cell? ⟨w.heap.size, 2, none⟩ = some (.slice none 0 0) := cell_at hresr2 2
                  have r3 : wr.cell? ⟨w.heap.size, 3, none⟩ = some (.slice none 0 0) := cell_at hresr2 3
                  have fr := frozenN hresr2
                  clear hpar hnt2 hown2 hks hbwr2 hresr2 hg4
                  go_wp2
                  refine bodyPost_ret (v := .tuple #[.agg #[.string ⟨#[]⟩, .string ⟨#[]⟩, .slice none 0 0, .slice none 0 0], .int .i64 (-1)]) (by simp [results, Tryd.f34, go_sem, r0, r1, r2, r3]) rfl ⟨?_, .inr ⟨HN.out, rfl⟩⟩
                  first | exact HB5.out | exact (((HB5.out.setCell (Nat.le_refl _) _).setCell (Nat.le_refl _) _).setCell (Nat.le_refl _) _).setCell (Nat.le_refl _) _
          · obtain rfl : p = xs.length := by omega
            have HN := Sp.hid (show parL (F + 1) none (xs.drop p0) = none by rw [HP1.out, hdw, List.drop_length]; exact parL_end)
            have HB5 := Sp.hid hbwr
            obtain ⟨w4, rfl⟩ : ∃ w4, w4 = wr := ⟨_, rfl⟩
            have r0 : w4.cell? ⟨w.heap.size, 0, none⟩ = some (.string ⟨#[]⟩) := cell_at hresr 0
            have r1 : w4.cell? ⟨w.heap.size, 1, none⟩ = some (.string ⟨#[]⟩) := cell_at hresr 1
            have r2 : w4.cell? ⟨w.heap.size, 2, none⟩ = some (.slice none 0 0) := cell_at hresr 2
            have r3 : w4.cell? ⟨w.heap.size, 3, none⟩ = some (.slice none 0 0) := cell_at hresr 3
            have fr := frozenN hresr
            clear hat hdw hnt hown hsz hg3 hbwr hresr
            go_wp2
            go_loopw [1] (fun i wr => i = .int .i64 (xs.length : Nat) ∧ wr = w4) (fun _ _ => 0)
            case atStart => exact ⟨rfl, rfl⟩
            case round =>
              obtain ⟨rfl, hwr⟩ := hrel
              subst hwr
              go_wp2
              refine bodyPost_ret (v := .tuple #[.agg #[.string ⟨#[]⟩, .string ⟨#[]⟩, .slice none 0 0, .slice none 0 0], .int .i64 (-1)]) (by simp [results, Tryd.f34, go_sem, r0, r1, r2, r3]) rfl ⟨?_, .inr ⟨HN.out, rfl⟩⟩
              first | exact HB5.out | exact (((HB5.out.setCell (Nat.le_refl _) _).setCell (Nat.le_refl _) _).setCell (Nat.le_refl _) _).setCell (Nat.le_refl _) _

/-- The tree that begins at a place. -/
theorem node_any (xs : List Stp) (hxl : xs.length ≤ 1048576) (a : Option Addr) (c : Nat) : ∀ (n p F : Nat) (w : World), xs.length - p ≤ n → p ≤ xs.length → 2 * (xs.length - p) + 1 ≤ F → Sl stpS (· < w.heap.size) w a xs →
    Calls Tryd.prog 34 #[.slice a xs.length c, .int .i64 p] w (NodePost xs p F w) := by
  intro n
  induction n with
  | zero =>
    intro p F w hn hp _ _
    obtain rfl : p = xs.length := by omega
    exact node_end xs a c F w
  | succ n ih =>
    intro p F w hn hp hF hs
    by_cases he : p = xs.length
    · subst he; exact node_end xs a c F w
    · exact node_step xs hxl a c p F w hs (by omega) hF fun p' F' W h1 h2 h3 h4 => ih p' F' W (by omega) h2 h3 h4

end Go.Proofs.YtoknglpfchjbjaaDoor
