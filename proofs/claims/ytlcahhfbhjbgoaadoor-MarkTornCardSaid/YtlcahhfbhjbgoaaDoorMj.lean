/- Layer 8: marks: the plain law: what is sealed reads as it was. -/
import Derived.Test.YtlcahhfbhjbgoaaDoorMh
namespace Go.SL
set_option linter.unusedVariables false

theorem nbe_of {s : Byt} {i v : Nat} (hv : v < 18446744073709551616) (h : ∀ j, j < 8 → s.getD (i + j) 0 = byteOf v j) : ∀ k, k ≤ 8 → nbe s i k = v / 2 ^ (8 * (8 - k))
  | 0, _ => by
    rw [nbe, Nat.div_eq_of_lt]
    exact hv
  | k + 1, hk => by
    have ih := nbe_of hv h k (by omega)
    rw [nbe, ih, h k (by omega), byteOf, UInt8.toNat_ofNat']
    rw [show 8 * (8 - k) = 8 * (7 - k) + 8 by omega, show 8 * (8 - (k + 1)) = 8 * (7 - k) by omega, Nat.pow_add, ← Nat.div_div_eq_div_mul]
    have : (2 : Nat) ^ 8 = 256 := by decide
    rw [this]
    omega
theorem beN_get (v j : Nat) (h : j < 8) (q : Byt) : (beN v 8 ++ q).getD j 0 = byteOf v j := by
  rw [List.getD_eq_getElem?_getD, List.getElem?_append_left (by simpa using h)]
  simp [beN, h]
theorem getD_app {p q : Byt} (i : Nat) : (p ++ q).getD (p.length + i) 0 = q.getD i 0 := by
  rw [List.getD_eq_getElem?_getD, List.getD_eq_getElem?_getD, List.getElem?_append_right (by omega), show p.length + i - p.length = i by omega]
theorem mkB_read (k : UInt8) (e s : Nat) (q : Byt) (he : e < 18446744073709551616) (hs : s < 18446744073709551616) :
    (mkB k e s ++ q).getD 0 0 = k ∧ nbe (mkB k e s ++ q) 1 8 = e ∧ nbe (mkB k e s ++ q) 9 8 = s := by
  refine ⟨by simp [mkB], ?_, ?_⟩
  · rw [nbe_of he (fun j hj => ?_) 8 (Nat.le_refl _)]
    · simp
    · have := getD_app (p := [k]) (q := beN e 8 ++ (beN s 8 ++ q)) j
      rw [beN_get e j hj] at this
      rw [← this]
      simp [mkB]
  · rw [nbe_of hs (fun j hj => ?_) 8 (Nat.le_refl _)]
    · simp
    · have := getD_app (p := [k] ++ beN e 8) (q := beN s 8 ++ q) j
      rw [beN_get s j hj] at this
      rw [← this]
      simp [mkB]
theorem sealB_opN {k : UInt8} {e s : Nat} {b : Byt} (h : b.length ≤ 220) : opN (sealB k e s b) = b.length := by
  have h1 := getD_app (p := mkB k e s) (q := [0, UInt8.ofNat b.length] ++ (b ++ (List.replicate (220 - b.length) 0 ++ mkB k e s))) 0
  have h2 := getD_app (p := mkB k e s) (q := [0, UInt8.ofNat b.length] ++ (b ++ (List.replicate (220 - b.length) 0 ++ mkB k e s))) 1
  rw [mkB_len] at h1 h2
  unfold opN sealB
  rw [show (17 : Nat) = 17 + 0 from rfl, h1, show (18 : Nat) = 17 + 1 from rfl, h2]
  simp [Nat.mod_eq_of_lt (show b.length < 256 by omega)]
theorem sealB_opT {k : UInt8} {e s : Nat} {b : Byt} (h : b.length ≤ 220) : opT (sealB k e s b) = mkB k e s := by
  have e1 : sealB k e s b = (mkB k e s ++ [0, UInt8.ofNat b.length] ++ b ++ List.replicate (220 - b.length) 0) ++ mkB k e s := by simp [sealB]
  have e2 : (mkB k e s ++ [0, UInt8.ofNat b.length] ++ b ++ List.replicate (220 - b.length) 0).length = 239 := by simp; omega
  unfold opT
  rw [e1, ← e2, List.drop_left, List.take_of_length_le (by simp)]
theorem sealB_drop {k : UInt8} {e s : Nat} {b : Byt} : (sealB k e s b).drop 19 = b ++ (List.replicate (220 - b.length) 0 ++ mkB k e s) := by
  have e1 : sealB k e s b = (mkB k e s ++ [0, UInt8.ofNat b.length]) ++ (b ++ (List.replicate (220 - b.length) 0 ++ mkB k e s)) := by simp [sealB]
  have e2 : (mkB k e s ++ [0, UInt8.ofNat b.length]).length = 19 := by simp
  rw [e1, ← e2, List.drop_left]
theorem sealB_opB {k : UInt8} {e s : Nat} {b : Byt} (h : b.length ≤ 220) : opB (sealB k e s b) = b := by
  rw [opB, sealB_opN h, sealB_drop, List.take_left]
theorem sealB_opZ {k : UInt8} {e s : Nat} {b : Byt} (h : b.length ≤ 220) : opZ (sealB k e s b) = List.replicate (220 - b.length) 0 := by
  have e1 : (List.replicate (220 - b.length) (0 : UInt8)).length = 220 - b.length := List.length_replicate
  rw [opZ, sealB_opN h, ← List.drop_drop, sealB_drop, List.drop_left]
  rw [List.take_append_of_le_length (by omega), List.take_of_length_le (by omega)]
theorem sealB_ok {k : UInt8} {e s : Nat} {b : Byt} (h : b.length ≤ 220) (he : e < 18446744073709551616) (hs : s < 18446744073709551616) (hk : mkR k = true) : opOk (sealB k e s b) = true := by
  obtain ⟨a1, a2, a3⟩ := mkB_read k e s ([0, UInt8.ofNat b.length] ++ (b ++ (List.replicate (220 - b.length) 0 ++ mkB k e s))) he hs
  obtain ⟨b1, b2, b3⟩ := mkB_read k e s [] he hs
  rw [List.append_nil] at b1 b2 b3
  have c1 : (sealB k e s b).getD 0 0 = k := a1
  have c2 : nbe (sealB k e s b) 1 8 = e := a2
  have c3 : nbe (sealB k e s b) 9 8 = s := a3
  unfold opOk
  rw [sealB_opT h, sealB_opN h, sealB_opZ h, c1, c2, c3, b1, b2, b3, hk, decide_eq_true (show k = k ∧ e = e ∧ s = s from ⟨rfl, rfl, rfl⟩), decide_eq_true h, decide_eq_true (fun x hx => (List.mem_replicate.1 hx).2)]
  rfl
end Go.SL
