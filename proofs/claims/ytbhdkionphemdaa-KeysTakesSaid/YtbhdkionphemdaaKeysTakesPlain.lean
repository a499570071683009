/- KeysTakes: what is shown without the program: entries that are alike are taken in order; the row of zeros. Also the dictionary that is nil. Conditions: none. -/
import Derived.Test.YtbhdkionphemdaaKeysOwn
import Derived.Test.YtbhdkionphemdaaKeysOnceWalk
namespace Go.Proofs.Ytbhdkionphemdaa
open Go.RowKit Go.Sp Go.Maps

def blankE : Ent := ⟨0, false, ⟨#[]⟩⟩

theorem take_head (N s m : Nat) (key : Lk) (h : s < N) : takeM (List.replicate N key) (List.range' s (m + 1)) key = some s ∧ restM (List.replicate N key) (List.range' s (m + 1)) key = List.range' (s + 1) m := by
  unfold takeM restM
  rw [List.range'_succ]
  have hp : decide ((List.replicate N key)[s]? = some key) = true := by simp [h]
  constructor
  · rw [List.find?_cons, hp]
  · rw [List.eraseP_cons, hp]; rfl

theorem align_blank (N : Nat) (key : Lk) : ∀ (m s : Nat), s + m ≤ N → alignM (List.replicate N key) (List.range' s m) (List.replicate m key) = (List.range' s m).map some
  | 0, _, _ => rfl
  | m + 1, s, h => by
    obtain ⟨h1, h2⟩ := take_head N s m key (by omega)
    rw [List.replicate_succ, alignM, h1, h2, align_blank N key m (s + 1) (by omega), List.range'_succ (s := s)]
    rfl

theorem align_blanks (n : Nat) : (alignM ((List.replicate n blankE).map Ent.lk) (List.range (List.replicate n blankE).length) ((List.replicate n blankE).map Ent.lk)).map encO = (List.range n).map Int.ofNat := by
  rw [List.map_replicate, List.length_replicate, List.range_eq_range', align_blank n _ n 0 (by omega), List.map_map]
  rfl

theorem made_blank (n : Nat) : (madeCells (Value.cells (.agg #[.int .i64 0, .bool false, .string ⟨#[]⟩])) (n * 3)).toList = (List.replicate n blankE).flatMap entCells := by
  apply List.ext_getElem?
  intro i
  have hc : Value.cells (.agg #[.int .i64 0, .bool false, .string ⟨#[]⟩]) = #[.int .i64 0, .bool false, .string ⟨#[]⟩] := by rfl
  rw [hc]
  have hl : ∀ n : Nat, ∀ i, ((List.replicate n blankE).flatMap entCells)[i]? = if i < n * 3 then some (#[.int .i64 0, .bool false, .string ⟨#[]⟩][i % 3]!) else none := by
    intro n
    induction n with
    | zero => intro i; simp
    | succ n ih =>
      intro i
      rw [List.replicate_succ, List.flatMap_cons]
      match i with
      | 0 => simp [entCells, blankE]
      | 1 => simp [entCells, blankE]; omega
      | 2 => simp [entCells, blankE]; omega
      | i + 3 =>
        rw [List.getElem?_append_right (by simp [entCells])]
        have : i + 3 - (entCells blankE).length = i := by simp [entCells]
        rw [this, ih i, Nat.add_mod_right]
        by_cases h : i < n * 3
        · rw [if_pos h, if_pos (by omega)]
        · rw [if_neg h, if_neg (by omega)]
  rw [hl]
  unfold madeCells
  by_cases h : i < n * 3
  · rw [if_pos h]
    simp [h]
  · rw [if_neg h]
    simp; omega

theorem rest_length {src : List Lk} {rem : List Nat} {k : Lk} {p : Nat} (h : takeM src rem k = some p) : (restM src rem k).length + 1 = rem.length := by
  cases hat : at_ src rem k with
  | nil => have := (take_none hat).1; rw [h] at this; cases this
  | cons q qs => exact (take_some hat).2
theorem rest_none {src : List Lk} {rem : List Nat} {k : Lk} (h : takeM src rem k = none) : restM src rem k = rem := by
  cases hat : at_ src rem k with
  | nil => exact (take_none hat).2
  | cons q qs => have := (take_some hat).1; rw [h] at this; cases this

theorem left_next {src : List Lk} {ks : List Lk} {n k : Nat} (hk : k < ks.length) : leftM src (List.range n) (ks.take (k + 1)) = restM src (leftM src (List.range n) (ks.take k)) ks[k] := by
  rw [List.take_succ_eq_append_getElem hk, leftM_snoc]

theorem took_at {src : List Lk} : ∀ {ks : List Lk} {rem : List Nat} {k : Nat} (hk : k < ks.length) (hk2 : k < (alignM src rem ks).length), (alignM src rem ks)[k] = takeM src (leftM src rem (ks.take k)) ks[k]
  | [], _, _, hk, _ => absurd hk (Nat.not_lt_zero _)
  | _ :: _, _, 0, _, _ => rfl
  | _ :: ks, rem, k + 1, hk, hk2 => by
    have := took_at (src := src) (ks := ks) (rem := restM src rem _) (k := k) (by simpa using hk) (by simpa [alignM] using hk2)
    simpa [alignM, leftM] using this

set_option maxHeartbeats 400000 in
theorem take_nil (n : Int) (hs : Bool) (s : ByteArray) (w : World) :
    Calls Try.prog 12 #[.pointer none, .agg #[.int .i64 n, .bool hs, .string s]] w fun e w' => e = .returned (.tuple #[.int .i64 0, .bool false]) ∧ Below w.heap.size w w' := by
  go_enter Try.func12, Try.ntmps12
  go_wp2
  go_ret2
  exact ⟨rfl, (Below.refl _ _).alloc (Nat.le_refl _) _⟩

end Go.Proofs.Ytbhdkionphemdaa
