/- Layer 8: marks: the plain law of a torn block. -/
import Derived.Test.YtlcahhfbhjbgoaaDoorMp
namespace Go.SL
set_option linter.unusedVariables false

theorem opOk_marks {s : Byt} (h : s.length = 256) (ok : opOk s = true) : s.take 17 = s.drop 239 := by
  unfold opOk at ok
  simp only [Bool.and_eq_true, decide_eq_true_eq] at ok
  obtain ⟨⟨⟨hk, he1, he2, he3⟩, hn⟩, hz⟩ := ok
  have hTl : (opT s).length = 17 := by simp [opT]; omega
  have hT : opT s = s.drop 239 := List.take_of_length_le (by rw [List.length_drop, h]; decide)
  have m1 := mkB_take (s := s) (by omega)
  have m2 := mkB_take (s := opT s) (by omega)
  have hTk : (opT s).take 17 = opT s := List.take_of_length_le (by rw [hTl]; decide)
  rw [← he1, ← he2, ← he3, m1, hTk, hT] at m2
  exact m2
theorem mkB_inj {k k' : UInt8} {e s e' s' : Nat} (he : e < 18446744073709551616) (hs : s < 18446744073709551616) (he' : e' < 18446744073709551616) (hs' : s' < 18446744073709551616) (h : mkB k e s = mkB k' e' s') : k = k' ∧ e = e' ∧ s = s' := by
  obtain ⟨a1, a2, a3⟩ := mkB_read k e s [] he hs
  obtain ⟨b1, b2, b3⟩ := mkB_read k' e' s' [] he' hs'
  rw [h] at a1 a2 a3
  exact ⟨a1.symm.trans b1, a2.symm.trans b2, a3.symm.trans b3⟩
theorem sealB_take {k : UInt8} {e s : Nat} {b : Byt} : (sealB k e s b).take 17 = mkB k e s := by
  unfold sealB
  rw [List.take_append_of_le_length (by simp), List.take_of_length_le (by simp)]
theorem sealB_end {k : UInt8} {e s : Nat} {b : Byt} (h : b.length ≤ 220) : (sealB k e s b).drop 239 = mkB k e s := by
  have e1 : sealB k e s b = (mkB k e s ++ [0, UInt8.ofNat b.length] ++ b ++ List.replicate (220 - b.length) 0) ++ mkB k e s := by simp [sealB]
  have e2 : (mkB k e s ++ [0, UInt8.ofNat b.length] ++ b ++ List.replicate (220 - b.length) 0).length = 239 := by simp; omega
  rw [e1, ← e2, List.drop_left]
/-- A block's first bytes, ahead of another one's, with other marks. -/
theorem torn_ok {x w m0 w0 : Byt} {n : Nat} (hx : x.length = 256) (hw : w.length = 256) (x1 : x.take 17 = m0) (x2 : x.drop 239 = m0) (w1 : w.take 17 = w0) (w2 : w.drop 239 = w0) (ne : m0 ≠ w0) (hn : n ≤ 256)
    (h : (x.take n ++ w.drop n).take 17 = (x.take n ++ w.drop n).drop 239) : x.take n ++ w.drop n = w ∨ x.take n ++ w.drop n = x := by
  have hl : (x.take n).length = n := by rw [List.length_take]; omega
  by_cases h1 : n < 17
  · left
    have e1 : (x.take n ++ w.drop n).take 17 = x.take n ++ (w.take 17).drop n := by
      rw [List.take_append, hl, List.take_of_length_le (by omega), List.drop_take]
    have e2 : (x.take n ++ w.drop n).drop 239 = w.drop 239 := by
      rw [List.drop_append, hl, List.drop_eq_nil_of_le (by omega), List.nil_append, List.drop_drop]
      congr 1; omega
    rw [e1, e2, w2, w1] at h
    have e3 : x.take n = w0.take n := by
      have := congrArg (List.take n) h
      rw [List.take_append_of_le_length (by omega), List.take_of_length_le (by omega)] at this
      exact this
    have e4 : w0.take n = w.take n := by rw [← w1, List.take_take, Nat.min_eq_left (by omega)]
    rw [e3, e4, List.take_append_drop]
  · by_cases h2 : n ≤ 239
    · exfalso
      have e1 : (x.take n ++ w.drop n).take 17 = m0 := by
        rw [List.take_append_of_le_length (by omega), List.take_take, Nat.min_eq_left (by omega), x1]
      have e2 : (x.take n ++ w.drop n).drop 239 = w0 := by
        rw [List.drop_append, hl, List.drop_eq_nil_of_le (by omega), List.nil_append, List.drop_drop, ← w2]
        congr 1; omega
      exact ne (by rw [← e1, ← e2, h])
    · right
      have e1 : (x.take n ++ w.drop n).take 17 = m0 := by
        rw [List.take_append_of_le_length (by omega), List.take_take, Nat.min_eq_left (by omega), x1]
      have e2 : (x.take n ++ w.drop n).drop 239 = (x.take n).drop 239 ++ w.drop n := by
        rw [List.drop_append_of_le_length (by omega)]
      have e3 : (x.take n).drop 239 = m0.take (n - 239) := by rw [List.drop_take, x2]
      rw [e1, e2, e3] at h
      have hm : m0.length = 17 := by rw [← x1]; simp; omega
      have e4 : w.drop n = m0.drop (n - 239) := by
        have := congrArg (List.drop (n - 239)) h
        have e : (m0.take (n - 239)).drop (n - 239) = [] := List.drop_eq_nil_of_le (by rw [List.length_take]; omega)
        rw [List.drop_append, e, List.nil_append, List.length_take, hm, show n - 239 - min (n - 239) 17 = 0 by omega, List.drop_zero] at this
        exact this.symm
      have e5 : m0.drop (n - 239) = x.drop n := by rw [← x2, List.drop_drop, show 239 + (n - 239) = n by omega]
      rw [e4, e5, List.take_append_drop]
/-- A covered block is none. -/
theorem cover_no {w : Byt} (hw : w.length = 256) : rOK (w.set 0 3) = false ∧ rZ (w.set 0 3) = 11 := by
  have h0 : (w.set 0 3).getD 0 0 = 3 := by
    cases w with
    | nil => simp at hw
    | cons a t => rfl
  have h1 : opOk (w.set 0 3) = false := by
    unfold opOk mkR
    rw [h0]
    rfl
  have h2 : rOK (w.set 0 3) = false := by unfold rOK; rw [h1, Bool.and_false]
  refine ⟨h2, ?_⟩
  unfold rZ
  rw [h2, List.length_set, if_pos hw]
  rfl
theorem bare_back {w : Byt} (hw : w.length = 256) : (w.set 0 3).set 0 (w.getD 0 0) = w ∧ (w.set 0 3).getD 0 0 = 3 := by
  cases w with
  | nil => simp at hw
  | cons a t => exact ⟨rfl, rfl⟩
theorem zero_marks : (List.replicate 256 (0 : UInt8)).take 17 = List.replicate 17 0 ∧ (List.replicate 256 (0 : UInt8)).drop 239 = List.replicate 17 0 := by
  exact ⟨by rw [List.take_replicate]; rfl, by rw [List.drop_replicate]⟩
theorem mkB_nz {k : UInt8} {e s : Nat} (h : k.toNat ≠ 0) : mkB k e s ≠ List.replicate 17 0 := by
  intro q
  have this : (mkB k e s).getD 0 0 = (List.replicate 17 (0 : UInt8)).getD 0 0 := by rw [q]
  have e1 : (mkB k e s).getD 0 0 = k := by simp [mkB]
  rw [e1] at this
  exact h (by rw [this]; rfl)
end Go.SL
