/- tree.Build's stack of open nodes in memory: their rows lie apart; what a push, a new attribute, a new child, a pop leave. Conditions: none. -/
import Derived.Test.YtoknglpfchjbjaaGreatDoorTree
import Derived.Test.YtoknglpfchjbjaaGreatDoorRows
import Derived.Lib.SmallJoins
import Derived.Laws.OwnMore
import Derived.WalkSmall
namespace Go.Sp
open Go.RowKit

theorem own_same {w w' : World} {base : Nat} {e : TypeId} {size : Nat} {v : Value} {n : Nat} {xs : List Value} (h : w.ownsRow base e size v n xs) (hs : ∀ g, v.ownBlock = some g → w'.heap[g]? = w.heap[g]?) : w'.ownsRow base e size v n xs := by
  refine ⟨h.1, ?_⟩
  rcases h.2 with hn | ⟨g, cap, cur, rfl, hb, hgg, rest⟩
  · exact .inl hn
  · exact .inr ⟨g, cap, cur, rfl, hb, (hs g rfl).trans hgg, rest⟩
theorem own_set {w w' : World} {base : Nat} {e : TypeId} {size n g cap : Nat} {xs : List Value} {cur : Array Value} (h : w.ownsRow base e size (.slice (some ⟨g, 0, none⟩) n cap) n xs) (hc : w.heap[g]? = some (.cells cur e (0, 0))) (j : Nat) (u : Value)
    (hc' : w'.heap[g]? = some (.cells (cur.setIfInBounds j u) e (0, 0))) : w'.ownsRow base e size (.slice (some ⟨g, 0, none⟩) n cap) n (xs.set j u) := by
  rcases h.2 with ⟨h', _⟩ | ⟨g', cap', cur', h', hb, hg, hnc, hcm, hcs, htake⟩
  · simp at h'
  · simp only [Value.slice.injEq, Option.some.injEq, Addr.mk.injEq, and_true, true_and] at h'
    obtain ⟨rfl, rfl⟩ := h'
    rw [hc] at hg
    cases hg
    refine ⟨by simpa using h.1, .inr ⟨g, cap, cur.setIfInBounds j u, rfl, hb, hc', hnc, hcm, by simpa using hcs, ?_⟩⟩
    rw [Array.toList_setIfInBounds, ← htake, List.take_set]
theorem flat_at {β : Type} {f : β → List Value} {sz : Nat} : ∀ {xs : List β}, (∀ x ∈ xs, (f x).length = sz) → ∀ (i j : Nat) (hi : i < xs.length), j < sz → (xs.flatMap f)[i * sz + j]? = (f xs[i])[j]?
  | [], _, i, j, hi, _ => by simp at hi
  | x :: xs, h, i, j, hi, hj => by
    have hx := h x (by simp)
    cases i with
    | zero => rw [List.flatMap_cons, List.getElem?_append_left (by omega)]; simp
    | succ i =>
      rw [List.flatMap_cons, List.getElem?_append_right (by rw [Nat.add_mul]; omega), hx, show (i + 1) * sz + j - sz = i * sz + j by rw [Nat.add_mul]; omega]
      exact flat_at (fun y hy => h y (by simp [hy])) i j (by simpa using hi) hj
theorem flat_len {β : Type} {f : β → List Value} {sz : Nat} : ∀ {xs : List β}, (∀ x ∈ xs, (f x).length = sz) → (xs.flatMap f).length = xs.length * sz
  | [], _ => by simp
  | x :: xs, h => by rw [List.flatMap_cons, List.length_append, h x (by simp), flat_len (fun y hy => h y (by simp [hy])), List.length_cons, Nat.add_mul]; omega

/-- An owned row whose elements stand for data, as a slice of that data. -/
theorem own_sl {α : Type} {S : Shape α} {F : Nat → Prop} {w : World} {base : Nat} {e : TypeId} {v : Value} {n : Nat} {xs : List (List Value × α)} (h : w.ownsRow base e S.sz v n (xs.flatMap (·.1))) (hn : n = xs.length) (hr : ∀ x ∈ xs, S.rep F w x.1 x.2)
    (hF : ∀ g, v.ownBlock = some g → F g) : ∃ a cap, v = .slice a n cap ∧ Sl S F w a (xs.map (·.2)) := by
  have hl : ∀ x ∈ xs, x.1.length = S.sz := fun x hx => S.len (hr x hx)
  rcases h.2 with ⟨rfl, h0⟩ | ⟨g, cap, cur, rfl, hg, hh, hc, hm, hs, ht⟩
  · refine ⟨none, 0, by rw [h0], ?_⟩
    have : xs = [] := List.length_eq_zero_iff.1 (by omega)
    subst this; exact Sl.nil
  · refine ⟨some ⟨g, 0, none⟩, cap, rfl, fun i hi => ?_⟩
    have hi' : i < xs.length := by simpa using hi
    refine ⟨g, 0, xs[i].1, rfl, hF g rfl, by simpa using hr _ (List.getElem_mem hi'), fun j hj => ?_⟩
    have hj' : j < S.sz := by rw [← hl _ (List.getElem_mem hi')]; exact hj
    have := h.cells (g := g) rfl (i * S.sz + j) _ ((flat_at hl i j hi' hj').trans (List.getElem?_eq_getElem hj))
    have hadd : (⟨g, 0, none⟩ : Addr).add (i * S.sz + j) = ⟨g, i * S.sz + j, none⟩ := by unfold Addr.add; split <;> simp_all
    rw [hadd] at this
    rw [Nat.zero_add]
    exact this
end Go.Sp
namespace Go.Proofs.YtoknglpfchjbjaaGreatDoor
open Go.RowKit Go.Sp

/-- An open node. -/
structure Nd where
  label : ByteArray
  va : Value
  attrs : List (ByteArray × ByteArray)
  vk : Value
  kids : List (List Value × TT)
def Nd.cells (e : Nd) : List Value := [.string e.label, .string ⟨#[]⟩, e.va, e.vk]
def acells (l : List (ByteArray × ByteArray)) : List Value := l.flatMap fun a => [.string a.1, .string a.2]
def Nd.tt (e : Nd) : TT := .mk e.label ⟨#[]⟩ e.attrs (e.kids.map (·.2))
def Nd.live (e : Nd) : List Nat := e.va.ownBlock.toList ++ e.vk.ownBlock.toList
def live (vo : Value) (es : List Nd) : List Nat := vo.ownBlock.toList ++ es.flatMap Nd.live
def Dead (base : Nat) (w : World) (L : List Nat) (b : Nat) : Prop := base ≤ b ∧ b < w.heap.size ∧ b ∉ L

structure NdOK (base n : Nat) (F : Nat → Prop) (w : World) (e : Nd) : Prop where
  arow : w.ownsRow base 72 2 e.va e.attrs.length (acells e.attrs)
  krow : w.ownsRow base 29 4 e.vk e.kids.length (e.kids.flatMap (·.1))
  kids : ∀ x ∈ e.kids, (treeS n).rep F w x.1 x.2
  sizes : e.label.size ≤ maxLen ∧ (∀ a ∈ e.attrs, a.1.size ≤ maxLen ∧ a.2.size ≤ maxLen) ∧ e.attrs.length ≤ n ∧ e.kids.length ≤ n

/-- The stack, the top first. -/
structure Stk (base n : Nat) (w : World) (vo : Value) (es : List Nd) : Prop where
  row : w.ownsRow base 29 4 vo es.length (es.reverse.flatMap Nd.cells)
  ok : ∀ e ∈ es, NdOK base n (Dead base w (live vo es)) w e
  nodup : (live vo es).Nodup
  few : es.length ≤ n

section
variable {base n : Nat} {F F' : Nat → Prop} {w w' : World} {vo : Value} {e : Nd} {es : List Nd}

theorem NdOK.step (h : NdOK base n F w e) (hF : ∀ b, F b → F' b) (hsame : ∀ b, F b → w'.heap[b]? = w.heap[b]?) (hrow : ∀ b ∈ e.live, w'.heap[b]? = w.heap[b]?) {m : Nat} (hm : n ≤ m) : NdOK base m F' w' e := by
  refine ⟨own_same h.arow (fun g hg => hrow g (by simp [Nd.live, hg])), own_same h.krow (fun g hg => hrow g (by simp [Nd.live, hg])), fun x hx => treeS_le hm ((treeS n).mono ((treeS n).frame (h.kids x hx) hsame) hF), h.sizes.1, h.sizes.2.1, ?_, ?_⟩
  · have := h.sizes.2.2.1; omega
  · have := h.sizes.2.2.2; omega
theorem NdOK.lt (h : NdOK base n F w e) : ∀ b ∈ e.live, base ≤ b ∧ b < w.heap.size := by
  intro b hb
  rcases List.mem_append.1 hb with hb | hb
  · exact h.arow.lt b (by simpa using hb)
  · exact h.krow.lt b (by simpa using hb)
theorem Stk.lt (h : Stk base n w vo es) : ∀ b ∈ live vo es, base ≤ b ∧ b < w.heap.size := by
  intro b hb
  rcases List.mem_append.1 hb with hb | hb
  · exact h.row.lt b (by simpa using hb)
  · obtain ⟨e, he, hb⟩ := List.mem_flatMap.1 hb
    exact (h.ok e he).lt b hb
theorem Stk.start (w : World) (base : Nat) : Stk base 0 w (.slice none 0 0) [] := ⟨World.ownsRow_nil _ _ _ _, by simp, by simp [live, Value.ownBlock], Nat.le_refl _⟩
theorem Stk.keep (h : Stk base n w vo es) (hb : Below w.heap.size w w') {m : Nat} (hm : n ≤ m) : Stk base m w' vo es := by
  have hs := hb.size
  refine ⟨own_same h.row (fun g hg => hb.block g (h.row.lt g hg).2), fun e he => ?_, h.nodup, Nat.le_trans h.few hm⟩
  exact (h.ok e he).step (fun b hb' => ⟨hb'.1, by have := hb'.2.1; omega, hb'.2.2⟩) (fun b hb' => hb.block b hb'.2.1) (fun b hb' => hb.block b ((h.ok e he).lt b hb').2) hm

theorem Nd.cells_len (es : List Nd) : (es.flatMap Nd.cells).length = es.length * 4 := flat_len (fun _ _ => rfl)
theorem acells_len (l : List (ByteArray × ByteArray)) : (acells l).length = l.length * 2 := flat_len (fun _ _ => rfl)

/-- A new open node. -/
theorem Stk.push (h : Stk base n w vo es) {vo' : Value} {label : ByteArray} (hl : label.size ≤ maxLen)
    (hrow : w'.ownsRow base 29 4 vo' (es.length + 1) (es.reverse.flatMap Nd.cells ++ [.string label, .string ⟨#[]⟩, .slice none 0 0, .slice none 0 0]))
    (hsame : ∀ b, b < w.heap.size → some b ≠ vo.ownBlock → w'.heap[b]? = w.heap[b]?) (hs : w.heap.size ≤ w'.heap.size) (hown : vo'.ownBlock = vo.ownBlock ∨ ∃ g, vo'.ownBlock = some g ∧ w.heap.size ≤ g) :
    Stk base (n + 1) w' vo' (⟨label, .slice none 0 0, [], .slice none 0 0, []⟩ :: es) := by
  have hlt := h.lt
  have hnd := h.nodup
  have hrest : ∀ b ∈ es.flatMap Nd.live, b ∈ live vo es := fun b hb => List.mem_append_right _ hb
  have hne : ∀ b ∈ es.flatMap Nd.live, some b ≠ vo.ownBlock := fun b hb e => by
    have h1 : b ∈ vo.ownBlock.toList := by simp [← e]
    exact (List.nodup_append.1 hnd).2.2 b h1 b hb rfl
  have hlive : live vo' (⟨label, .slice none 0 0, [], .slice none 0 0, []⟩ :: es) = vo'.ownBlock.toList ++ es.flatMap Nd.live := by simp [live, Nd.live, Value.ownBlock]
  have hdead : ∀ b, Dead base w (live vo es) b → Dead base w' (live vo' (⟨label, .slice none 0 0, [], .slice none 0 0, []⟩ :: es)) b := by
    rintro b ⟨h1, h2, h3⟩
    refine ⟨h1, by omega, fun hb => ?_⟩
    rw [hlive] at hb
    rcases List.mem_append.1 hb with hb | hb
    · rcases hown with ho | ⟨g, ho, hg⟩
      · exact h3 (List.mem_append_left _ (by rw [ho] at hb; exact hb))
      · rw [ho] at hb; simp at hb; omega
    · exact h3 (hrest b hb)
  refine ⟨?_, ?_, ?_, by have := h.few; simp only [List.length_cons]; omega⟩
  · simpa [Nd.cells] using hrow
  · intro e he
    rcases List.mem_cons.1 he with rfl | he
    · exact ⟨World.ownsRow_nil _ _ _ _, World.ownsRow_nil _ _ _ _, by simp, hl, by simp, Nat.zero_le _, Nat.zero_le _⟩
    · refine (h.ok e he).step hdead (fun b hb => hsame b hb.2.1 (fun e' => hb.2.2 (List.mem_append_left _ (by simp [← e'])))) (fun b hb => ?_) (Nat.le_succ _)
      have hb' : b ∈ es.flatMap Nd.live := List.mem_flatMap.2 ⟨e, he, hb⟩
      exact hsame b (hlt b (hrest b hb')).2 (hne b hb')
  · rw [hlive]
    rcases hown with ho | ⟨g, ho, hg⟩
    · rw [ho]; exact hnd
    · rw [ho]
      simp only [Option.toList_some, List.singleton_append, List.nodup_cons]
      exact ⟨fun hb => by have := (hlt g (hrest g hb)).2; omega, (List.nodup_append.1 hnd).2.1⟩

theorem set_top (A : List Value) (a b c d v : Value) : (A ++ [a, b, c, d]).set (A.length + 2) v = A ++ [a, b, v, d] ∧ (A ++ [a, b, c, d]).set (A.length + 3) v = A ++ [a, b, c, v] := by
  constructor <;> simp [List.set_append]

/-- The top turned: one of its rows has a new element, and its cell holds that row. -/
theorem Stk.top (h : Stk base n w vo (e :: es)) {e' : Nd} {r : Option Nat} {g : Nat} (hvo : vo.ownBlock = some g) (hlive : ∀ b ∈ e'.live, b ∈ e.live ∨ w.heap.size ≤ b) (hnd : e'.live.Nodup) (hr : ∀ b, r = some b → b ∈ e.live)
    (hrow : w'.ownsRow base 29 4 vo (es.length + 1) ((es.reverse.flatMap Nd.cells) ++ e'.cells))
    (hsame : ∀ b, b < w.heap.size → b ≠ g → some b ≠ r → w'.heap[b]? = w.heap[b]?) (hs : w.heap.size ≤ w'.heap.size)
    (hok : ∀ F', (∀ b, Dead base w (live vo (e :: es)) b → F' b) → (∀ b, base ≤ b → b < w.heap.size → b ∉ live vo (e :: es) → w'.heap[b]? = w.heap[b]?) → NdOK base (n + 1) F' w' e') :
    Stk base (n + 1) w' vo (e' :: es) := by
  have hlt := h.lt
  have hnd0 := h.nodup
  have hl0 : live vo (e :: es) = [g] ++ (e.live ++ es.flatMap Nd.live) := by simp [live, hvo]
  have hl1 : live vo (e' :: es) = [g] ++ (e'.live ++ es.flatMap Nd.live) := by simp [live, hvo]
  rw [hl0] at hnd0 hlt
  have n1 := List.nodup_append.1 hnd0
  have n2 := List.nodup_append.1 n1.2.1
  have hgd : ∀ b, b ∉ live vo (e :: es) → b ≠ g ∧ some b ≠ r := fun b hb => ⟨fun e1 => hb (by rw [hl0, e1]; simp), fun e1 => hb (by rw [hl0]; exact List.mem_append_right _ (List.mem_append_left _ (hr b e1.symm)))⟩
  have hdead : ∀ b, Dead base w (live vo (e :: es)) b → Dead base w' (live vo (e' :: es)) b := by
    rintro b ⟨h1, h2, h3⟩
    refine ⟨h1, by omega, fun hb => ?_⟩
    rw [hl1] at hb
    rw [hl0] at h3
    rcases List.mem_append.1 hb with hb | hb
    · exact h3 (List.mem_append_left _ hb)
    · rcases List.mem_append.1 hb with hb | hb
      · rcases hlive b hb with hb | hb
        · exact h3 (List.mem_append_right _ (List.mem_append_left _ hb))
        · omega
      · exact h3 (List.mem_append_right _ (List.mem_append_right _ hb))
  have hsd : ∀ b, base ≤ b → b < w.heap.size → b ∉ live vo (e :: es) → w'.heap[b]? = w.heap[b]? := fun b _ h2 h3 => hsame b h2 (hgd b h3).1 (hgd b h3).2
  refine ⟨?_, ?_, ?_, by have := h.few; simp only [List.length_cons] at this ⊢; omega⟩
  · simpa using hrow
  · intro x hx
    rcases List.mem_cons.1 hx with rfl | hx
    · exact hok _ hdead hsd
    · refine (h.ok x (List.mem_cons_of_mem _ hx)).step hdead (fun b hb => hsd b hb.1 hb.2.1 hb.2.2) (fun b hb => ?_) (Nat.le_succ _)
      have hb' : b ∈ es.flatMap Nd.live := List.mem_flatMap.2 ⟨x, hx, hb⟩
      refine hsame b (hlt b (by simp [hb'])).2 (fun e1 => ?_) (fun e1 => ?_)
      · exact n1.2.2 g (by simp) b (List.mem_append_right _ hb') e1.symm
      · exact n2.2.2 b (hr b e1.symm) b hb' rfl
  · rw [hl1]
    refine List.nodup_append.2 ⟨by simp, List.nodup_append.2 ⟨hnd, n2.2.1, fun a ha b hb e1 => ?_⟩, fun a ha b hb e1 => ?_⟩
    · subst e1
      rcases hlive a ha with ha | ha
      · exact n2.2.2 a ha a hb rfl
      · have := (hlt a (by simp [hb])).2; omega
    · simp only [List.mem_singleton] at ha
      subst ha
      subst e1
      rcases List.mem_append.1 hb with hb | hb
      · rcases hlive a hb with hb | hb
        · exact n1.2.2 a (by simp) a (List.mem_append_left _ hb) rfl
        · have := (hlt a (by simp)).2; omega
      · exact n1.2.2 a (by simp) a (List.mem_append_right _ hb) rfl

theorem Stk.live_nodup (h : Stk base n w vo (e :: es)) : e.live.Nodup := by
  have := h.nodup
  simp only [live, List.flatMap_cons] at this
  exact (List.nodup_append.1 (List.nodup_append.1 this).2.1).1

/-- The cells of the top. -/
theorem Stk.cells {g cap : Nat} (h : Stk base n w (.slice (some ⟨g, 0, none⟩) (es.length + 1) cap) (e :: es)) (j : Nat) (hj : j < 4) : w.cell? ⟨g, es.length * 4 + j, none⟩ = e.cells[j]? := by
  have hro := h.row
  simp only [List.length_cons, List.reverse_cons, List.flatMap_append, List.flatMap_cons, List.flatMap_nil, List.append_nil] at hro
  rw [hro.cellAt _ (by omega), List.getElem?_append_right (by rw [Nd.cells_len, List.length_reverse]; omega), Nd.cells_len, List.length_reverse]
  congr 1
  omega
theorem Stk.block {g cap : Nat} (h : Stk base n w (.slice (some ⟨g, 0, none⟩) (es.length + 1) cap) (e :: es)) : ∃ cur, w.heap[g]? = some (.cells cur 29 (0, 0)) ∧ base ≤ g := by
  rcases h.row.2 with ⟨h', _⟩ | ⟨g', cap', cur', h', hb, hg, _⟩
  · simp at h'
  · simp only [Value.slice.injEq, Option.some.injEq, Addr.mk.injEq, and_true] at h'
    obtain ⟨rfl, _⟩ := h'
    exact ⟨_, hg, hb⟩

/-- One more attribute of the top. -/
theorem Stk.attr {g cap : Nat} {cur : Array Value} (h : Stk base n w (.slice (some ⟨g, 0, none⟩) (es.length + 1) cap) (e :: es)) (hcur : w.heap[g]? = some (.cells cur 29 (0, 0))) {va' : Value} {a : ByteArray × ByteArray} (ha : a.1.size ≤ maxLen ∧ a.2.size ≤ maxLen)
    (hrow : w'.ownsRow base 72 2 va' (e.attrs.length + 1) (acells e.attrs ++ [.string a.1, .string a.2])) (hcell : w'.heap[g]? = some (.cells (cur.setIfInBounds (es.length * 4 + 2) va') 29 (0, 0)))
    (hsame : ∀ b, b < w.heap.size → b ≠ g → some b ≠ e.va.ownBlock → w'.heap[b]? = w.heap[b]?) (hs : w.heap.size ≤ w'.heap.size) (hown : va'.ownBlock = e.va.ownBlock ∨ ∃ r, va'.ownBlock = some r ∧ w.heap.size ≤ r) :
    Stk base (n + 1) w' (.slice (some ⟨g, 0, none⟩) (es.length + 1) cap) ({ e with va := va', attrs := e.attrs ++ [a] } :: es) := by
  have hok := h.ok e (by simp)
  have hnd := h.live_nodup
  have hnd2 := List.nodup_append.1 hnd
  have hlt := hok.lt
  have hgl : g ∉ e.live := fun hg => by
    have := h.nodup
    simp only [live, List.flatMap_cons, Value.ownBlock, Option.toList_some, List.singleton_append, List.nodup_cons] at this
    exact this.1 (List.mem_append_left _ hg)
  refine h.top (g := g) rfl (r := e.va.ownBlock) ?_ ?_ (fun b hb => by simp [Nd.live, hb]) ?_ hsame hs ?_
  · intro b hb
    rcases List.mem_append.1 hb with hb | hb
    · rcases hown with ho | ⟨r, ho, hr⟩
      · exact .inl (List.mem_append_left _ (by rw [← ho]; exact hb))
      · have hb' : b ∈ va'.ownBlock.toList := hb
        rw [ho] at hb'; simp at hb'; exact .inr (by omega)
    · exact .inl (List.mem_append_right _ hb)
  · show (va'.ownBlock.toList ++ e.vk.ownBlock.toList).Nodup
    rcases hown with ho | ⟨r, ho, hr⟩
    · rw [ho]; exact hnd
    · rw [ho]
      simp only [Option.toList_some, List.singleton_append, List.nodup_cons]
      exact ⟨fun hb => by have := (hlt r (List.mem_append_right _ hb)).2; omega, hnd2.2.1⟩
  · have hro := h.row
    simp only [List.length_cons, List.reverse_cons, List.flatMap_append, List.flatMap_cons, List.flatMap_nil, List.append_nil] at hro
    have := own_set hro hcur (es.length * 4 + 2) va' hcell
    have hl : (es.reverse.flatMap Nd.cells).length = es.length * 4 := by rw [Nd.cells_len, List.length_reverse]
    rw [← hl] at this
    unfold Nd.cells at this ⊢
    rw [(set_top _ _ _ _ _ _).1] at this
    exact this
  · intro F' hF hsd
    refine ⟨by simpa [acells] using hrow, own_same hok.krow (fun b hb => ?_), fun x hx => treeS_up ((treeS n).mono ((treeS n).frame (hok.kids x hx) (fun b hb => hsd b hb.1 hb.2.1 hb.2.2)) hF), hok.sizes.1, ?_, ?_, ?_⟩
    · have hbl : b ∈ e.live := by simp [Nd.live, hb]
      refine hsame b (hlt b hbl).2 (fun e1 => hgl (e1 ▸ hbl)) (fun e1 => hnd2.2.2 b (by simp [← e1]) b (by simp [hb]) rfl)
    · intro x hx
      rcases List.mem_append.1 hx with hx | hx
      · exact hok.sizes.2.1 x hx
      · rw [List.mem_singleton.1 hx]; exact ha
    · have := hok.sizes.2.2.1; simp; omega
    · have := hok.sizes.2.2.2; show e.kids.length ≤ _; omega

/-- One more child of the top. -/
theorem Stk.kid {g cap : Nat} {cur : Array Value} (h : Stk base n w (.slice (some ⟨g, 0, none⟩) (es.length + 1) cap) (e :: es)) (hcur : w.heap[g]? = some (.cells cur 29 (0, 0))) {vk' : Value} {x : List Value × TT}
    (hx : (treeS (n + 1)).rep (Dead base w (live (.slice (some ⟨g, 0, none⟩) (es.length + 1) cap) (e :: es))) w x.1 x.2)
    (hrow : w'.ownsRow base 29 4 vk' (e.kids.length + 1) (e.kids.flatMap (·.1) ++ x.1)) (hcell : w'.heap[g]? = some (.cells (cur.setIfInBounds (es.length * 4 + 3) vk') 29 (0, 0)))
    (hsame : ∀ b, b < w.heap.size → b ≠ g → some b ≠ e.vk.ownBlock → w'.heap[b]? = w.heap[b]?) (hs : w.heap.size ≤ w'.heap.size) (hown : vk'.ownBlock = e.vk.ownBlock ∨ ∃ r, vk'.ownBlock = some r ∧ w.heap.size ≤ r) :
    Stk base (n + 1) w' (.slice (some ⟨g, 0, none⟩) (es.length + 1) cap) ({ e with vk := vk', kids := e.kids ++ [x] } :: es) := by
  have hok := h.ok e (by simp)
  have hnd := h.live_nodup
  have hnd2 := List.nodup_append.1 hnd
  have hlt := hok.lt
  have hgl : g ∉ e.live := fun hg => by
    have := h.nodup
    simp only [live, List.flatMap_cons, Value.ownBlock, Option.toList_some, List.singleton_append, List.nodup_cons] at this
    exact this.1 (List.mem_append_left _ hg)
  refine h.top (g := g) rfl (r := e.vk.ownBlock) ?_ ?_ (fun b hb => by simp [Nd.live, hb]) ?_ hsame hs ?_
  · intro b hb
    rcases List.mem_append.1 hb with hb | hb
    · exact .inl (List.mem_append_left _ hb)
    · rcases hown with ho | ⟨r, ho, hr⟩
      · exact .inl (List.mem_append_right _ (by rw [← ho]; exact hb))
      · have hb' : b ∈ vk'.ownBlock.toList := hb
        rw [ho] at hb'; simp at hb'; exact .inr (by omega)
  · show (e.va.ownBlock.toList ++ vk'.ownBlock.toList).Nodup
    rcases hown with ho | ⟨r, ho, hr⟩
    · rw [ho]; exact hnd
    · rw [ho]
      refine List.nodup_append.2 ⟨hnd2.1, by simp, fun a ha b hb e1 => ?_⟩
      simp only [Option.toList_some, List.mem_singleton] at hb
      subst hb
      subst e1
      have := (hlt a (List.mem_append_left _ ha)).2; omega
  · have hro := h.row
    simp only [List.length_cons, List.reverse_cons, List.flatMap_append, List.flatMap_cons, List.flatMap_nil, List.append_nil] at hro
    have := own_set hro hcur (es.length * 4 + 3) vk' hcell
    have hl : (es.reverse.flatMap Nd.cells).length = es.length * 4 := by rw [Nd.cells_len, List.length_reverse]
    rw [← hl] at this
    unfold Nd.cells at this ⊢
    rw [(set_top _ _ _ _ _ _).2] at this
    exact this
  · intro F' hF hsd
    refine ⟨own_same hok.arow (fun b hb => ?_), by simpa using hrow, fun y hy => ?_, hok.sizes.1, hok.sizes.2.1, ?_, ?_⟩
    · have hbl : b ∈ e.live := by simp [Nd.live, hb]
      refine hsame b (hlt b hbl).2 (fun e1 => hgl (e1 ▸ hbl)) (fun e1 => hnd2.2.2 b (by simp [hb]) b (by simp [← e1]) rfl)
    · rcases List.mem_append.1 hy with hy | hy
      · exact treeS_up ((treeS n).mono ((treeS n).frame (hok.kids y hy) (fun b hb => hsd b hb.1 hb.2.1 hb.2.2)) hF)
      · rw [List.mem_singleton.1 hy]
        exact (treeS (n + 1)).mono ((treeS (n + 1)).frame hx (fun b hb => hsd b hb.1 hb.2.1 hb.2.2)) hF
    · have := hok.sizes.2.2.1; show e.attrs.length ≤ _; omega
    · have := hok.sizes.2.2.2; simp; omega

/-- The top is taken off: it is a tree. -/
theorem Stk.pop {g cap : Nat} (h : Stk base n w (.slice (some ⟨g, 0, none⟩) (es.length + 1) cap) (e :: es)) (hn : n ≤ 1048576) :
    Stk base n w (.slice (some ⟨g, 0, none⟩) es.length cap) es ∧ (treeS (n + 1)).rep (Dead base w (live (.slice (some ⟨g, 0, none⟩) es.length cap) es)) w e.cells e.tt ∧ (∃ aa ca ak ck, e.va = .slice aa e.attrs.length ca ∧ e.vk = .slice ak e.kids.length ck) := by
  have hl0 : live (.slice (some ⟨g, 0, none⟩) (es.length + 1) cap) (e :: es) = [g] ++ (e.live ++ es.flatMap Nd.live) := by simp [live, Value.ownBlock]
  have hl1 : live (.slice (some ⟨g, 0, none⟩) es.length cap) es = [g] ++ es.flatMap Nd.live := by simp [live, Value.ownBlock]
  have hnd := h.nodup
  rw [hl0] at hnd
  have n1 := List.nodup_append.1 hnd
  have n2 := List.nodup_append.1 n1.2.1
  have hok := h.ok e (by simp)
  have hdead : ∀ b, Dead base w (live (.slice (some ⟨g, 0, none⟩) (es.length + 1) cap) (e :: es)) b → Dead base w (live (.slice (some ⟨g, 0, none⟩) es.length cap) es) b := by
    rintro b ⟨h1, h2, h3⟩
    refine ⟨h1, h2, fun hb => h3 ?_⟩
    rw [hl1] at hb
    rw [hl0]
    rcases List.mem_append.1 hb with hb | hb
    · exact List.mem_append_left _ hb
    · exact List.mem_append_right _ (List.mem_append_right _ hb)
  have hrowd : ∀ b ∈ e.live, Dead base w (live (.slice (some ⟨g, 0, none⟩) es.length cap) es) b := by
    intro b hb
    refine ⟨(hok.lt b hb).1, (hok.lt b hb).2, fun hb' => ?_⟩
    rw [hl1] at hb'
    rcases List.mem_append.1 hb' with hb' | hb'
    · exact n1.2.2 b hb' b (List.mem_append_left _ hb) rfl
    · exact n2.2.2 b hb b hb' rfl
  have hro := h.row
  simp only [List.length_cons, List.reverse_cons, List.flatMap_append, List.flatMap_cons, List.flatMap_nil, List.append_nil] at hro
  have hkids : ∀ x ∈ e.kids, (treeS n).rep (Dead base w (live (.slice (some ⟨g, 0, none⟩) es.length cap) es)) w x.1 x.2 := fun x hx => (treeS n).mono (hok.kids x hx) hdead
  have hkr : w.ownsRow base 29 (treeS n).sz e.vk e.kids.length (e.kids.flatMap (·.1)) := by rw [treeS_sz]; exact hok.krow
  obtain ⟨ak, ck, hvk, hsk⟩ := own_sl hkr rfl hkids (fun r hr => hrowd r (by simp [Nd.live, hr]))
  have har : w.ownsRow base 72 attrS.sz e.va e.attrs.length ((e.attrs.map fun a => ([Value.string a.1, Value.string a.2], a)).flatMap (·.1)) := by
    have h1 := hok.arow
    unfold acells at h1
    rw [List.flatMap_map]
    exact h1
  obtain ⟨aa, ca, hva, hsa⟩ := own_sl (S := attrS) har (by simp) (fun x hx => by
    obtain ⟨a, ha, rfl⟩ := List.mem_map.1 hx
    exact ⟨rfl, (hok.sizes.2.1 a ha).1, (hok.sizes.2.1 a ha).2⟩) (fun r hr => hrowd r (by simp [Nd.live, hr]))
  have hal : e.attrs.length ≤ 1048576 := Nat.le_trans hok.sizes.2.2.1 hn
  have hkl : e.kids.length ≤ maxLen := by
    rcases hok.krow.2 with ⟨_, h0⟩ | ⟨_, _, _, _, _, _, h1, h2, _⟩ <;> omega
  refine ⟨⟨?_, fun x hx => (h.ok x (List.mem_cons_of_mem _ hx)).step hdead (fun _ _ => rfl) (fun _ _ => rfl) (Nat.le_refl _), ?_, by have := h.few; simp only [List.length_cons] at this; omega⟩, ?_, aa, ca, ak, ck, hva, hvk⟩
  · exact ownsRow_pop (by rw [Nd.cells_len, List.length_reverse]) hro
  · rw [hl1]
    exact List.nodup_append.2 ⟨by simp, n2.2.1, fun a ha b hb e1 => n1.2.2 a ha b (List.mem_append_right _ hb) e1⟩
  · refine ⟨⟨hok.sizes.1, Nat.zero_le _, hal, by simpa [Nd.tt, TT.kids] using hkl⟩, aa, ca, ak, ck, ?_, ?_, hsk⟩
    · simp [Nd.cells, hva, hvk, Nd.tt, TT.label, TT.text, TT.attrs, TT.kids]
    · simpa [Nd.tt, TT.attrs, Function.comp_def] using hsa
end

end Go.Proofs.YtoknglpfchjbjaaGreatDoor
