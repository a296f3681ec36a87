/- Layer 8: marks: the plain law: what is open is sealed as it was. -/
import Derived.Test.YtlcahhfbhjbgoaaDoorMj
namespace Go.SL
set_option linter.unusedVariables false

theorem sh_div (N A P D c : Nat) (hP : 0 < P) (hN : 0 < N) (hc : c < N) : (A * N + c) * P / (P * (N * D)) = A * (P * N) / (P * (N * D)) := by
  rw [Nat.mul_comm (A * N + c) P, Nat.mul_left_comm A P N, Nat.mul_div_mul_left _ _ hP, Nat.mul_div_mul_left _ _ hP, ← Nat.div_div_eq_div_mul, ← Nat.div_div_eq_div_mul, Nat.mul_comm A N, Nat.mul_add_div hN, Nat.div_eq_of_lt hc, Nat.add_zero, Nat.mul_div_cancel_left _ hN]
theorem byteOf_nbe {s : Byt} {i : Nat} : ∀ k, k ≤ 8 → ∀ j, j < k → byteOf (nbe s i k * 2 ^ (8 * (8 - k))) j = s.getD (i + j) 0
  | 0, _, j, hj => absurd hj (Nat.not_lt_zero _)
  | k + 1, hk, j, hj => by
    have hc := (s.getD (i + k) 0).toNat_lt
    rw [nbe]
    by_cases e : j = k
    · subst e
      unfold byteOf
      rw [show 8 * (8 - (j + 1)) = 8 * (7 - j) by omega, Nat.mul_div_cancel _ (Nat.two_pow_pos _)]
      apply UInt8.toNat_inj.1
      rw [UInt8.toNat_ofNat']
      omega
    · have ih := byteOf_nbe (s := s) (i := i) k (by omega) j (by omega)
      rw [← ih]
      unfold byteOf
      have e1 : 8 * (7 - j) = 8 * (8 - (k + 1)) + 8 * (k - j) := by omega
      have e2 : 8 * (8 - k) = 8 * (8 - (k + 1)) + 8 := by omega
      have e3 : 8 * (k - j) = 8 + 8 * (k - j - 1) := by omega
      congr 1
      have p1 : 2 ^ (8 * (8 - k)) = 2 ^ (8 * (8 - (k + 1))) * 256 := by rw [e2, Nat.pow_add]
      have p2 : 2 ^ (8 * (7 - j)) = 2 ^ (8 * (8 - (k + 1))) * (256 * 2 ^ (8 * (k - j - 1))) := by rw [e1, e3, Nat.pow_add 2 (8 * (8 - (k + 1))), Nat.pow_add 2 8]
      rw [p1, p2]
      exact sh_div 256 _ _ _ _ (Nat.two_pow_pos _) (by omega) hc
theorem beN_nbe {s : Byt} {i : Nat} (h : i + 8 ≤ s.length) : beN (nbe s i 8) 8 = (s.drop i).take 8 := by
  apply List.ext_getElem
  · simp; omega
  · intro j h1 h2
    have hj : j < 8 := by simpa using h1
    have q := byteOf_nbe (s := s) (i := i) 8 (Nat.le_refl _) j hj
    rw [show 8 * (8 - 8) = 0 from rfl, Nat.pow_zero, Nat.mul_one] at q
    simp only [beN, List.getElem_map, List.getElem_range, List.getElem_take, List.getElem_drop]
    rw [q]
    simp [show i + j < s.length by omega]
theorem mkB_take {s : Byt} (h : 17 ≤ s.length) : mkB (s.getD 0 0) (nbe s 1 8) (nbe s 9 8) = s.take 17 := by
  unfold mkB
  rw [beN_nbe (by omega), beN_nbe (by omega)]
  match s, h with
  | x :: t, h =>
    simp only [List.getD_cons_zero, List.drop_succ_cons, List.drop_zero, List.take_succ_cons, List.singleton_append, List.cons_append]
    congr 1
    exact (List.take_add (l := t) (i := 8) (j := 8)).symm
theorem part_join {s : Byt} (i k : Nat) : (s.drop i).take k ++ s.drop (i + k) = s.drop i := by
  rw [← List.drop_drop]; exact List.take_append_drop k (s.drop i)
theorem seal_open {s : Byt} (h : s.length = 256) (ok : opOk s = true) : sealB (s.getD 0 0) (nbe s 1 8) (nbe s 9 8) (opB s) = s := by
  unfold opOk at ok
  simp only [Bool.and_eq_true, decide_eq_true_eq] at ok
  obtain ⟨⟨⟨hk, he1, he2, he3⟩, hn⟩, hz⟩ := ok
  have hTl : (opT s).length = 17 := by simp [opT]; omega
  have hT : opT s = s.drop 239 := List.take_of_length_le (by rw [List.length_drop, h]; decide)
  have m1 := mkB_take (s := s) (by omega)
  have m2 := mkB_take (s := opT s) (by omega)
  have hTk : (opT s).take 17 = opT s := List.take_of_length_le (by rw [hTl]; decide)
  rw [← he1, ← he2, ← he3, m1, hTk, hT] at m2
  have hBl : (opB s).length = opN s := by simp [opB]; omega
  have z : opZ s = List.replicate (220 - opN s) 0 := List.eq_replicate_iff.2 ⟨by simp [opZ]; omega, hz⟩
  have h17 : [0, UInt8.ofNat (opN s)] = (s.drop 17).take 2 := by
    have hc := (s.getD 17 0).toNat_lt
    have hd := (s.getD 18 0).toNat_lt
    have e0 : s.getD 17 0 = 0 := by
      apply UInt8.toNat_inj.1
      show _ = 0
      unfold opN at hn
      omega
    have e1 : UInt8.ofNat (opN s) = s.getD 18 0 := by
      apply UInt8.toNat_inj.1
      rw [UInt8.toNat_ofNat', opN, e0]
      show (0 * 256 + _) % 256 = _
      omega
    rw [e1, ← e0]
    apply List.ext_getElem
    · simp; omega
    · intro j a b
      have hj : j < 2 := by simpa using a
      have hj2 : j = 0 ∨ j = 1 := by omega
      rcases hj2 with rfl | rfl
      · simp [show 17 < s.length by omega]
      · simp [show 18 < s.length by omega]
  have k1 : opZ s ++ s.take 17 = s.drop (19 + opN s) := by
    have q := part_join (s := s) (19 + opN s) (220 - opN s)
    rw [show 19 + opN s + (220 - opN s) = 239 by omega, ← m2] at q
    exact q
  have k2 : opB s ++ s.drop (19 + opN s) = s.drop 19 := part_join 19 (opN s)
  have k3 := part_join (s := s) 17 2
  unfold sealB
  rw [hBl, m1, ← z, h17, k1, k2, k3, List.take_append_drop]
end Go.SL
