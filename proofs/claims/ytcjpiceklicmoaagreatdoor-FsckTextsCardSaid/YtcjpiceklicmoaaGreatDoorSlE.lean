/- SL 14: from a row's walk to a triple: what came in can be read; what was there stays. -/
import Derived.Test.YtcjpiceklicmoaaGreatDoorSlD
import Derived.Below
import Derived.DataShut
namespace Go.SL
open Go.RowKit
set_option linter.unusedVariables false
set_option linter.unusedSimpArgs false

theorem ro_self (w : World) : Has [ro (heapOf w)] (heapOf w) :=
  ⟨heapOf w, fun _ => none, fun _ => .inr rfl, Sub.refl _, fun _ _ e => by (cases e), Sub.refl _, trivial⟩
theorem below_of {w w' : World} (x : Has [ro (heapOf w)] (heapOf w')) (k : Keep w w') : Below w.heap.size w w' := by
  refine ⟨k.os, k.tape, k.output, k.size, fun b hb => ?_⟩
  obtain ⟨h1, h2, d, s1, s2, q, _⟩ := x
  have e : heapOf w b = some w.heap[b] := by simp [heapOf, hb]
  have := s1 _ _ (q _ _ e)
  simp only [heapOf] at this e
  rw [this, e]
theorem walk_of {P : Program} {g : FuncId} {args : Array Value} {w : World} {x : Value} (t : TriE P g args (fun v M => v = x ∧ M = [ro (heapOf w)]) [ro (heapOf w)]) :
    Calls P g args w fun e w' => e = .returned x ∧ Below w.heap.size w w' := by
  have t : Tri P g args _ _ := t
  unfold Tri at t
  refine Calls.mono (t [] w (by rw [List.append_nil]; exact ro_self w)) ?_
  rintro e w' ⟨v, L', rfl, ⟨M, en, rfl, rfl⟩, h, k⟩
  rw [List.append_nil] at h
  exact ⟨rfl, below_of (en _ h) k⟩

theorem cell_some {w : World} {a : Addr} {v : Value} (h : w.cell? a = some v) : a.spot = none ∧ ∃ cs T fr, w.heap[a.block]? = some (.cells cs T fr) ∧ cs[a.off]? = some v := by
  unfold World.cell? at h
  split at h
  · rename_i c T fr e
    by_cases hs : a.spot.isSome = true
    · rw [if_pos hs] at h; cases h
    · rw [if_neg hs] at h
      exact ⟨by simpa using hs, c, T, fr, e, h⟩
  · cases h
/-- A row of cells that came in, element by element: what can be read of it. -/
theorem cells_rd {w : World} {a : Option Addr} {len : Nat} {xs : List Value} (hx : xs.length = len) (h : len ≠ 0 → ∃ x, a = some x ∧ ∀ i, i < len → w.cell? (x.add i) = xs[i]?) : RdS 1 a len xs [ro (heapOf w)] := by
  by_cases h0 : len = 0
  · subst h0
    rw [List.eq_nil_of_length_eq_zero hx]; exact RdS.nil
  obtain ⟨x, rfl, hc⟩ := h h0
  obtain ⟨b, off, spot⟩ := x
  have g0 := hc 0 (by omega)
  rw [List.getElem?_eq_getElem (by omega)] at g0
  obtain ⟨g1, cs, T, fr, g2, g3⟩ := cell_some g0
  simp only [Addr.add, if_true] at g1 g2 g3
  subst g1
  have hcs : ∀ i, i < len → cs[off + i]? = xs[i]? := by
    intro i hi
    have g := hc i hi
    rw [List.getElem?_eq_getElem (by omega)] at g ⊢
    obtain ⟨_, cs', T', fr', q2, q3⟩ := cell_some g
    have hb : (Addr.add ⟨b, off, none⟩ i).block = b := by unfold Addr.add; split <;> rfl
    have ho : (Addr.add ⟨b, off, none⟩ i).off = off + i := by unfold Addr.add; split <;> simp_all
    rw [hb, g2] at q2
    injection q2 with q2; injection q2 with q2 _ _
    subst q2
    rw [ho] at q3; exact q3
  have hlen : off + len ≤ cs.size := by
    have := hcs (len - 1) (by omega)
    rw [List.getElem?_eq_getElem (by omega)] at this
    have := (Array.getElem?_eq_some_iff.1 this).1
    omega
  have e : heapOf w b = some (.cells cs.toList.toArray T fr) := by simpa [heapOf] using g2
  have r := RdS.ro (sz := 1) (n := len) (off := off) (L := [ro (heapOf w)]) e (by simpa using hlen) (Ent.refl _)
  have hl : lsub cs.toList off (len * 1) = xs := by
    rw [Nat.mul_one]
    refine List.ext_getElem? fun i => ?_
    by_cases hi : i < len
    · rw [lsub_get _ _ _ _ (by simpa using hlen) hi, ← hcs i hi]; simp
    · rw [List.getElem?_eq_none (by rw [lsub_length _ _ _ (by simpa using hlen)]; omega), List.getElem?_eq_none (by omega)]
  rw [hl] at r; exact r
/-- A slice of integers that came in, as the rows' steps tell it. -/
theorem ints_rd {k : IntKind} {w : World} {a : Option Addr} {len cap : Nat} {zs : List Int}
    (h : (a = none ∧ len = 0 ∧ cap = 0 ∧ zs = []) ∨ ∃ x, a = some x ∧ len ≤ cap ∧ cap ≤ maxLen ∧ zs.length = cap ∧ (∀ i, i < zs.length → w.cell? (x.add i) = some (.int k (zs.getD i 0))) ∧ ∀ n ∈ zs, (Lit.int k n).wf = true) :
    RdS 1 a len ((zs.take len).map (Value.int k)) [ro (heapOf w)] ∧ (zs.take len).length = len ∧ ∀ n ∈ zs.take len, k.min ≤ n ∧ n ≤ k.max := by
  rcases h with ⟨rfl, rfl, rfl, rfl⟩ | ⟨x, rfl, h1, h2, h3, h4, h5⟩
  · exact ⟨RdS.nil, rfl, fun n hn => by simp at hn⟩
  · have hl : (zs.take len).length = len := by rw [List.length_take]; omega
    refine ⟨cells_rd (by rw [List.length_map, hl]) fun _ => ⟨x, rfl, fun i hi => ?_⟩, hl, fun n hn => (Lit.wf_int_iff k n).1 (h5 n (List.mem_of_mem_take hn))⟩
    rw [h4 i (by omega)]
    simp [hi, show i < zs.length by omega]
end Go.SL
