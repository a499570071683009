/- path's texts: strconv.Itoa at this program, a predicate's text, a step's text. Conditions: the table of powers of ten as laid; names of up to 64 bytes, values of up to 80. -/
import Derived.Test.YtoknglpfchjbjaaGreatDoorBackP
import Derived.Test.YtoknglpfchjbjaaGreatDoorJoin
import Derived.Shelf.Strconv.Itoa3
import Derived.Lib.AppendIntMem
namespace Go.Proofs.YtoknglpfchjbjaaGreatDoor
open Go.Shelf Go.RowKit Go.Sp

def Tryz.laysItoa_ren : Go.Shelf.Ren := ⟨fun | 171 => 79 | 243 => 95 | 246 => 108 | 283 => 112 | 284 => 113 | 285 => 114 | 286 => 115 | 129 => 121 | 317 => 120 | 318 => 122 | 319 => 123 | 320 => 124 | 337 => 126 | 338 => 127 | n => n, fun | 3 => 3 | 9 => 9 | 2 => 2 | 4 => 4 | 171 => 178 | 0 => 0 | 53 => 179 | 37 => 119 | 5 => 5 | 173 => 182 | 212 => 186 | 51 => 187 | 20 => 20 | 213 => 188 | 46 => 170 | 232 => 193 | 233 => 194 | n => n, fun | 17 => 2 | 18 => 3 | 19 => 4 | n => n⟩
theorem Tryz.laysItoa : Go.Proofs.LaysM.n171 Tryz.prog Tryz.laysItoa_ren := {
  mixed := by kernel_rfl
  f129 := Tryz.func121.trans (congrArg some (by kernel_rfl))
  f171 := Tryz.func79.trans (congrArg some (by kernel_rfl))
  f243 := Tryz.func95.trans (congrArg some (by kernel_rfl))
  f246 := Tryz.func108.trans (congrArg some (by kernel_rfl))
  f283 := Tryz.func112.trans (congrArg some (by kernel_rfl))
  f284 := Tryz.func113.trans (congrArg some (by kernel_rfl))
  f285 := Tryz.func114.trans (congrArg some (by kernel_rfl))
  f286 := Tryz.func115.trans (congrArg some (by kernel_rfl))
  f317 := Tryz.func120.trans (congrArg some (by kernel_rfl))
  f318 := Tryz.func122.trans (congrArg some (by kernel_rfl))
  f319 := Tryz.func123.trans (congrArg some (by kernel_rfl))
  f320 := Tryz.func124.trans (congrArg some (by kernel_rfl))
  f337 := Tryz.func126.trans (congrArg some (by kernel_rfl))
  f338 := Tryz.func127.trans (congrArg some (by kernel_rfl))
  t0 := Tryz.underlying0
  a0 := Tryz.isAgg0
  z0 := Tryz.sizeOf0
  v0 := Tryz.zeroValue0
  t2 := Tryz.underlying2
  a2 := Tryz.isAgg2
  z2 := Tryz.sizeOf2
  v2 := Tryz.zeroValue2
  t3 := Tryz.underlying3
  a3 := Tryz.isAgg3
  z3 := Tryz.sizeOf3
  v3 := Tryz.zeroValue3
  t4 := Tryz.underlying4
  a4 := Tryz.isAgg4
  z4 := Tryz.sizeOf4
  v4 := Tryz.zeroValue4
  t5 := Tryz.underlying5
  a5 := Tryz.isAgg5
  z5 := Tryz.sizeOf5
  v5 := Tryz.zeroValue5
  t9 := Tryz.underlying9
  a9 := Tryz.isAgg9
  z9 := Tryz.sizeOf9
  v9 := Tryz.zeroValue9
  t20 := Tryz.underlying20
  a20 := Tryz.isAgg20
  z20 := Tryz.sizeOf20
  v20 := Tryz.zeroValue20
  t37 := Tryz.underlying119
  a37 := Tryz.isAgg119
  z37 := Tryz.sizeOf119
  v37 := Tryz.zeroValue119
  t46 := Tryz.underlying170
  a46 := Tryz.isAgg170
  z46 := Tryz.sizeOf170
  v46 := Tryz.zeroValue170
  t51 := Tryz.underlying187
  a51 := Tryz.isAgg187
  z51 := Tryz.sizeOf187
  v51 := Tryz.zeroValue187
  t53 := Tryz.underlying179
  a53 := Tryz.isAgg179
  z53 := Tryz.sizeOf179
  v53 := Tryz.zeroValue179
  t171 := Tryz.underlying178
  a171 := Tryz.isAgg178
  z171 := Tryz.sizeOf178
  v171 := Tryz.zeroValue178
  t173 := Tryz.underlying182
  a173 := Tryz.isAgg182
  z173 := Tryz.sizeOf182
  v173 := Tryz.zeroValue182
  t212 := Tryz.underlying186
  a212 := Tryz.isAgg186
  z212 := Tryz.sizeOf186
  v212 := Tryz.zeroValue186
  t213 := Tryz.underlying188
  a213 := Tryz.isAgg188
  z213 := Tryz.sizeOf188
  t232 := Tryz.underlying193
  a232 := Tryz.isAgg193
  z232 := Tryz.sizeOf193
  v232 := Tryz.zeroValue193
  t233 := Tryz.underlying194
  a233 := Tryz.isAgg194
  z233 := Tryz.sizeOf194
  v233 := Tryz.zeroValue194
  g17 := by kernel_rfl
  g18 := by kernel_rfl
  g19 := by kernel_rfl
  i0 := by kernel_rfl
  i2 := by kernel_rfl
  i3 := by kernel_rfl
  i4 := by kernel_rfl
  i5 := by kernel_rfl
  i9 := by kernel_rfl
  i20 := by kernel_rfl
  i37 := by kernel_rfl
  i46 := by kernel_rfl
  i51 := by kernel_rfl
  i53 := by kernel_rfl
  i171 := by kernel_rfl
  i173 := by kernel_rfl
  i212 := by kernel_rfl
  i232 := by kernel_rfl
  i233 := by kernel_rfl
  m17 := by kernel_rfl
  m18 := by kernel_rfl
  m19 := by kernel_rfl }

/-- The table of powers of ten, as its text lays it. -/
abbrev PowAt (w : World) : Prop := Lib.TabIs Tryz.prog w "internal/strconv.uint64pow10" .u64 Lib.pow10Tab
theorem PowAt.below {w w' : World} (h : PowAt w) (hb : Below w.heap.size w w') : PowAt w' := Lib.tabBelow_of_tabIs h w' hb

theorem itoa_any (n : Int) (h0 : 0 ≤ n) (h1 : n ≤ 9223372036854775807) (w : World) (ht : PowAt w) :
    Calls Tryz.prog 79 #[.int .i64 n] w fun e w' => e = .returned (.string (bsOf (Lib.itoa n))) ∧ Below w.heap.size w w' := by
  refine (Any.strconv_Itoa Tryz.laysItoa n (by omega) h1 w ht).mono ?_
  rintro e w' ⟨rfl, k, os, rfl⟩
  exact ⟨rfl, Lib.below_grow _ w (Nat.le_refl _) k os⟩

theorem add_run (P : Program) (a b : ByteArray) (h : a.size + b.size ≤ 9223372036854775807) : ∃ s : ByteArray, s.data.toList = a.data.toList ++ b.data.toList ∧ s.size = a.size + b.size ∧ ∀ W, (Op.stringOp .add a b).run P W = .ok (.string s) W :=
  ⟨a ++ b, by simp, by simp, fun W => run_string_add_sum (w := W) a b h⟩
theorem bs_of {s : ByteArray} {l : List UInt8} (h : s.data.toList = l) : s = bsOf l := by rw [← h, bsOf_toList]

theorem goodP_sizes {q : PredM} (h : goodP q) : q.attr.size ≤ 64 ∧ 0 ≤ q.place ∧ q.place ≤ 4096 := by
  obtain ⟨h1, h2⟩ := h
  unfold formedP at h1
  rw [Lib.toList_data] at h1 h2
  cases he : q.attr.data.toList.isEmpty
  · rw [he] at h1 h2
    simp only [Bool.false_eq_true, if_false, Bool.false_or, Bool.and_eq_true, beq_iff_eq] at h1 h2
    obtain ⟨c, l, _, _, _, h6⟩ := name_list h2
    exact ⟨h6, by omega, by omega⟩
  · rw [he] at h1
    simp only [if_true, Bool.and_eq_true, decide_eq_true_eq] at h1
    rw [List.isEmpty_iff] at he
    have : q.attr = ⟨#[]⟩ := empty_list he
    refine ⟨by rw [this]; decide, by omega, by omega⟩
theorem itoa_len {n : Int} (h0 : 0 ≤ n) (h1 : n ≤ 4096) : (Lib.itoa n).length ≤ 4 := by
  have hi : Lib.itoa n = Lib.decDigits n.toNat := by unfold Lib.itoa; rw [if_neg (by omega)]
  rw [hi]; exact digits_len (by omega)

set_option maxRecDepth 100000 in
set_option maxHeartbeats 2000000 in
theorem predText_any (q : PredM) (w : World) (hg : goodP q) (hv : q.value.size ≤ 80) (ht : PowAt w) :
    Calls Tryz.prog 54 #[.agg #[.string q.attr, .string q.value, .int .i64 q.place]] w fun e w' => e = .returned (.string (bsOf (predT q))) ∧ Below w.heap.size w w' := by
  obtain ⟨ha, hp0, hp1⟩ := goodP_sizes hg
  clear hg
  obtain ⟨v, hvv⟩ : ∃ v, v = bsOf (predT q) := ⟨_, rfl⟩
  rw [← hvv]
  obtain ⟨qa, qv, qp⟩ := q
  dsimp only at ha hv hp0 hp1 hvv ⊢
  have hb0 : Below w.heap.size w (w.alloc (.cells #[.string qa, .string qv, .int .i64 qp] 70)) := (Below.refl _ _).alloc (Nat.le_refl _) _
  have HB0 := Sp.hid hb0
  by_cases h0 : qp = 0
  · subst h0
    obtain ⟨m, hm⟩ : ∃ m : UInt8, m = quoteOf qv := ⟨_, rfl⟩
    have hv2 : v = bsOf ([91, 64] ++ qa.data.toList ++ [61] ++ [m] ++ qv.data.toList ++ [m] ++ [93]) := by rw [hvv, hm]; unfold predT; simp
    have HC := Sp.hid (fun W => contains_any qv 34 W)
    obtain ⟨s1, l1, z1, r1⟩ := add_run Tryz.prog ⟨#[91, 64]⟩ qa (by have : (ByteArray.mk #[91, 64]).size = 2 := rfl; omega)
    obtain ⟨s2, l2, z2, r2⟩ := add_run Tryz.prog s1 ⟨#[61]⟩ (by have e1 : (ByteArray.mk #[91, 64]).size = 2 := rfl; have : (ByteArray.mk #[61]).size = 1 := rfl; omega)
    obtain ⟨s3, l3, z3, r3⟩ := add_run Tryz.prog s2 ⟨#[m]⟩ (by have e1 : (ByteArray.mk #[91, 64]).size = 2 := rfl; have : (ByteArray.mk #[61]).size = 1 := rfl; have : (ByteArray.mk #[m]).size = 1 := rfl; omega)
    obtain ⟨s4, l4, z4, r4⟩ := add_run Tryz.prog s3 qv (by have e1 : (ByteArray.mk #[91, 64]).size = 2 := rfl; have : (ByteArray.mk #[61]).size = 1 := rfl; have : (ByteArray.mk #[m]).size = 1 := rfl; omega)
    obtain ⟨s5, l5, z5, r5⟩ := add_run Tryz.prog s4 ⟨#[m]⟩ (by have e1 : (ByteArray.mk #[91, 64]).size = 2 := rfl; have : (ByteArray.mk #[61]).size = 1 := rfl; have : (ByteArray.mk #[m]).size = 1 := rfl; omega)
    obtain ⟨s6, l6, z6, r6⟩ := add_run Tryz.prog s5 ⟨#[93]⟩ (by have e1 : (ByteArray.mk #[91, 64]).size = 2 := rfl; have : (ByteArray.mk #[61]).size = 1 := rfl; have : (ByteArray.mk #[m]).size = 1 := rfl; have : (ByteArray.mk #[93]).size = 1 := rfl; omega)
    have hs6 : s6 = v := by
      rw [hv2]; apply bs_of
      rw [l6, l5, l4, l3, l2, l1]
    subst hs6
    clear l1 l2 l3 l4 l5 l6 z1 z2 z3 z4 z5 z6 hvv hv2 hb0
    unfold quoteOf at hm
    obtain ⟨b, hb⟩ : ∃ b, b = hasB qv 34 := ⟨_, rfl⟩
    rw [← hb] at hm HC
    clear hb
    cases b
    · rw [if_neg (by simp)] at hm
      subst hm
      go_enter Tryz.func54, Tryz.ntmps54
      go_wp2_with fail
      refine (HC.out _).mono ?_
      rintro e w' ⟨rfl, rfl⟩
      go_wp2
      go_ret
      exact ⟨rfl, HB0.out⟩
    · rw [if_pos rfl] at hm
      subst hm
      go_enter Tryz.func54, Tryz.ntmps54
      go_wp2_with fail
      refine (HC.out _).mono ?_
      rintro e w' ⟨rfl, rfl⟩
      go_wp2
      go_ret
      exact ⟨rfl, HB0.out⟩
  · have h0' : (qp != 0) = true := by simpa using h0
    have hv2 : v = bsOf ([91] ++ Lib.itoa qp ++ [93]) := by rw [hvv]; unfold predT; dsimp only; rw [if_pos h0]; simp
    have HI := Sp.hid (itoa_any qp hp0 (by omega) _ (ht.below hb0))
    have hil : (bsOf (Lib.itoa qp)).size ≤ 4 := by rw [bsOf_size]; exact itoa_len hp0 hp1
    have hil2 : (bsOf (Lib.itoa qp)).data.toList = Lib.itoa qp := rfl
    obtain ⟨t, htt⟩ : ∃ t, t = bsOf (Lib.itoa qp) := ⟨_, rfl⟩
    rw [← htt] at HI hil hil2
    obtain ⟨s1, l1, z1, r1⟩ := add_run Tryz.prog ⟨#[91]⟩ t (by have : (ByteArray.mk #[91]).size = 1 := rfl; omega)
    obtain ⟨s2, l2, z2, r2⟩ := add_run Tryz.prog s1 ⟨#[93]⟩ (by have : (ByteArray.mk #[91]).size = 1 := rfl; have : (ByteArray.mk #[93]).size = 1 := rfl; omega)
    have hs2 : s2 = v := by
      rw [hv2]; apply bs_of
      rw [l2, l1, hil2]
    subst hs2
    clear l1 l2 z1 z2 hvv hv2 hb0 htt hil2 h0
    go_enter Tryz.func54, Tryz.ntmps54
    go_wp2_with fail
    refine HI.out.mono ?_
    rintro e w' ⟨rfl, hb1⟩
    have HB1 := Sp.hid (HB0.out.trans (hb1.mono (by simp)))
    clear hb1
    go_wp2
    go_ret
    exact ⟨rfl, HB1.out⟩

end Go.Proofs.YtoknglpfchjbjaaGreatDoor
