/- The library's sort of numbers (the kit's contract, laid at this program); the keys of a map, sorted. -/
import Derived.Test.YtcjpiceklicmoaaGreatDoorSla
import Derived.Test.YtcjpiceklicmoaaGreatDoorSlW
import Derived.Test.YtcjpiceklicmoaaGreatDoorFb
import Derived.Test.YtcjpiceklicmoaaGreatDoorLay
namespace Go.SL
open Go.Proofs
set_option linter.unusedVariables false
set_option linter.unusedSimpArgs false
set_option linter.unusedSectionVars false
set_option maxRecDepth 10000
set_option maxHeartbeats 4000000
/-- A row of numbers of one's own. -/
abbrev ON (a : Option Addr) (c : Nat) (zs : List Int) : HP := Own 3 1 (.slice a zs.length c) zs.length (zs.map i64V)
theorem putCells_row (zs ys : List Int) (sp : List Value) (h : ys.length = zs.length) : Go.Sort.putCells (Value.int .i64) 0 ys.toArray (zs.map i64V ++ sp).toArray = (ys.map i64V ++ sp).toArray := by
  apply Array.ext
  · simp [Go.Sort.putCells, h]
  · intro j h1 h2
    simp only [Go.Sort.putCells, Array.getElem_mapIdx, Nat.zero_le, true_and, Nat.zero_add, Nat.sub_zero, List.getElem_toArray]
    by_cases hj : j < ys.length
    · rw [if_pos (by simpa using hj), List.getElem_append_left (by simpa using hj), List.getElem_map]
      simp [hj, i64V]
    · rw [if_neg (by simpa using hj), List.getElem_append_right (by simp; omega), List.getElem_append_right (by simp; omega)]
      congr 1
      simp [h]
theorem sl_SortI (b c : Nat) (zs : List Int) (L : List HP) (hn : zs.length < 1000000) :
    TriE Tryz.prog 149 #[.slice (some ⟨b, 0, none⟩) zs.length c] (fun v M => v = .tuple #[] ∧ M = ON (some ⟨b, 0, none⟩) c (zs.mergeSort fun x y => decide (x ≤ y)) :: L) (ON (some ⟨b, 0, none⟩) c zs :: L) := by
  unfold TriE Tri
  intro Fr w x
  have hlen : (zs.mergeSort fun x y => decide (x ≤ y)).length = zs.length := (List.mergeSort_perm zs _).length_eq
  rcases has_own x with ⟨e, _⟩ | ⟨b', cap, sp, fr, ⟨e1, e2, e3, e4, e5⟩, y⟩
  · cases e
  have e1' := e1
  simp only [Value.slice.injEq, Option.some.injEq, Addr.mk.injEq, and_true, true_and] at e1'
  obtain ⟨rfl, rfl⟩ := e1'
  have hb : heapOf w b = some (.cells (zs.map i64V ++ sp).toArray 3 fr) := has_pts y
  have hbs : b < w.heap.size := (Array.getElem?_eq_some_iff.1 hb).1
  have hH : Go.Sort.Holds (Value.int .i64) w b 0 zs.toArray := by
    intro j hj
    have hj : j < zs.length := by simpa using hj
    refine ⟨?_, ?_⟩
    · rw [cell_of hb, Nat.zero_add]
      rw [List.getElem?_toArray, List.getElem?_append_left (by simpa using hj)]
      simp [hj, i64V]
    · rw [frozen_of hb]
      simp only [Bool.and_eq_false_iff, decide_eq_false_iff_not]
      omega
  refine Calls.mono (Go.Proofs.Any.slices_Sort_int Go.Proofs.Tryz.lays189 b 0 c zs w hH hbs (by omega)) ?_
  rintro e w' ⟨rfl, n, os, rfl⟩
  refine ⟨_, ON (some ⟨b, 0, none⟩) c (zs.mergeSort fun x y => decide (x ≤ y)) :: L, rfl, ⟨_, Ent.refl _, rfl, rfl⟩, ?_, ?_⟩
  · have hset : Has (pts b (.cells ((zs.mergeSort fun x y => decide (x ≤ y)).map i64V ++ sp).toArray 3 fr) :: (L ++ Fr)) (heapOf (Go.Sort.putRow (Value.int .i64) (Go.Sort.ahead w n) b 0 (zs.mergeSort fun x y => decide (x ≤ y)).toArray)) := by
      refine has_set y fun k => ?_
      unfold heapOf Go.Sort.putRow Go.Sort.mapBlock Go.Sort.ahead
      simp only [Array.getElem?_modify]
      by_cases hk : b = k
      · subst hk
        rw [if_pos rfl, if_pos rfl]
        unfold heapOf at hb
        rw [hb]
        simp only [Option.map_some, Go.Sort.onCells]
        rw [putCells_row _ _ _ hlen]
      · rw [if_neg hk, if_neg (fun z => hk z.symm)]
    have hg : Has (pts b (.cells ((zs.mergeSort fun x y => decide (x ≤ y)).map i64V ++ sp).toArray 3 fr) :: (L ++ Fr)) (heapOf (Go.Sort.grow (Go.Sort.putRow (Value.int .i64) (Go.Sort.ahead w n) b 0 (zs.mergeSort fun x y => decide (x ≤ y)).toArray) os)) := by
      refine hset.mono fun k o hk => ?_
      unfold heapOf Go.Sort.grow at *
      rw [Array.getElem?_append_left (Array.getElem?_eq_some_iff.1 hk).1]
      exact hk
    refine own_of (cap := c) (sp := sp) (fr := fr) ⟨rfl, by omega, by simp, by rw [hlen]; exact e4, e5⟩ hg
  · refine ⟨rfl, rfl, rfl, ?_⟩
    simp [Go.Sort.grow, Go.Sort.putRow, Go.Sort.mapBlock, Go.Sort.ahead]
end Go.SL
