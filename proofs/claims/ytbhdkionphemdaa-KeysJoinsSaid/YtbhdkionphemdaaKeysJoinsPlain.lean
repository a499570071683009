/- Plain law: views one behind the other. Conditions: none. -/
import Derived.Test.YtbhdkionphemdaaKeysOnceWalk
namespace Go.Proofs.Ytbhdkionphemdaa

def pickE (source : List Ent) (left : List Nat) : List Ent := left.map fun p => source.getD p ⟨0, false, ByteArray.empty⟩
theorem pickE_length (source : List Ent) (left : List Nat) : (pickE source left).length = left.length := by simp [pickE]

theorem range_getD (left : List Nat) : (List.range left.length).map (fun q => left.getD q 0) = left := by
  apply List.ext_getElem
  · simp
  · intro i h1 h2
    simp [List.getD, List.getElem?_eq_getElem h2]

theorem joins_plain (v0 v1 source : List Ent) (left : List Nat) (hl : left = leftTo (tookM v0 source) source.length) :
    tookM (v0 ++ v1) source = tookM v0 source ++ (tookM v1 (pickE source left)).map fun o => o.map fun q => left.getD q 0 := by
  have hlt : ∀ p ∈ left, p < (source.map Ent.lk).length := fun p hp => by rw [hl] at hp; simpa using left_lt hp
  unfold tookM
  rw [List.map_append, align_append, leftTo_eq]
  have e1 : leftTo (alignM (source.map Ent.lk) (List.range source.length) (v0.map Ent.lk)) source.length = left := hl.symm
  rw [e1]
  congr 1
  have h := align_renumber hlt (v1.map Ent.lk) (List.range left.length) (fun q hq => by simpa using hq)
  rw [range_getD] at h
  rw [h, pickE_length]
  congr 1
  congr 1
  unfold pickE
  rw [List.map_map]
  refine List.map_congr_left fun p hp => ?_
  have := hlt p hp
  simp only [List.length_map] at this
  simp [List.getD, List.getElem?_eq_getElem this]

end Go.Proofs.Ytbhdkionphemdaa
