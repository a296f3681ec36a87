/- Layer 11, plainly: how many bits; when two rows of bytes are one. -/
import Derived.Test.YtlcahhfbhjbgoaaBk
import Derived.Test.YtlcahhfbhjbgoaaBp
namespace Go.SL
set_option linter.unusedVariables false

/-- How many of the first n p tells. -/
def cnt (p : Nat → Bool) : Nat → Nat
  | 0 => 0
  | n + 1 => cnt p n + (if p n then 1 else 0)
theorem cnt_filter (p : Nat → Bool) : ∀ n, ((List.range n).filter p).length = cnt p n
  | 0 => rfl
  | n + 1 => by
    rw [List.range_succ, List.filter_append, List.length_append, cnt_filter p n, cnt]
    cases h : p n <;> simp [h]
theorem cnt_add (p : Nat → Bool) (n : Nat) : ∀ m, cnt p (n + m) = cnt p n + cnt (fun j => p (n + j)) m
  | 0 => rfl
  | m + 1 => by rw [show n + (m + 1) = n + m + 1 from rfl, cnt, cnt_add p n m, cnt]; omega
theorem cnt_congr {p q : Nat → Bool} : ∀ n, (∀ k, k < n → p k = q k) → cnt p n = cnt q n
  | 0, _ => rfl
  | n + 1, h => by rw [cnt, cnt, cnt_congr n (fun k hk => h k (by omega)), h n (by omega)]
theorem pop_cnt (x : Nat) : pop x = cnt x.testBit 8 := cnt_filter _ 8
theorem sumPop_cnt (bs : List Nat) : ∀ i, i ≤ bs.length → sumPop (bs.take i) = cnt (bitB bs) (8 * i)
  | 0, _ => rfl
  | i + 1, h => by
    rw [sumPop_take (by omega), sumPop_cnt bs i (by omega), show 8 * (i + 1) = 8 * i + 8 by omega, cnt_add, pop_cnt]
    congr 1
    refine cnt_congr 8 fun k hk => ?_
    unfold bitB
    rw [show (8 * i + k) / 8 = i by omega, show (8 * i + k) % 8 = k by omega]
theorem used_cnt (bs : List Nat) : sumPop bs = cnt (bitB bs) (8 * bs.length) := by
  have := sumPop_cnt bs bs.length (Nat.le_refl _)
  rwa [List.take_length] at this
theorem cnt_run {p q : Nat → Bool} {x m : Nat} (h1 : ∀ k, x ≤ k → k < x + m → p k = false) (h2 : ∀ k, q k = if x ≤ k ∧ k < x + m then true else p k) : ∀ n, cnt q n + min n x = cnt p n + min n (x + m)
  | 0 => by simp [cnt]
  | n + 1 => by
    have ih := cnt_run h1 h2 n
    rw [cnt, cnt, h2 n]
    by_cases h : x ≤ n ∧ n < x + m
    · rw [if_pos h, h1 n h.1 h.2]; simp only [if_true, Bool.false_eq_true, if_false]; omega
    · rw [if_neg h]; omega
theorem ext_bits {a b : List Nat} (hl : a.length = b.length) (ha : OkB a) (hb : OkB b) (h : ∀ k, bitB a k = bitB b k) : a = b := by
  refine List.ext_getElem hl fun i h1 h2 => ?_
  refine Nat.eq_of_testBit_eq fun j => ?_
  by_cases hj : j < 8
  · have := h (8 * i + j)
    unfold bitB at this
    rw [show (8 * i + j) / 8 = i by omega, show (8 * i + j) % 8 = j by omega] at this
    simpa [h1, h2] using this
  · have e1 : a[i] < 2 ^ j := Nat.lt_of_lt_of_le (ha _ (List.getElem_mem h1)) (Nat.pow_le_pow_right (n := 2) (by decide) (by omega : 8 ≤ j))
    have e2 : b[i] < 2 ^ j := Nat.lt_of_lt_of_le (hb _ (List.getElem_mem h2)) (Nat.pow_le_pow_right (n := 2) (by decide) (by omega : 8 ≤ j))
    rw [Nat.testBit_lt_two_pow e1, Nat.testBit_lt_two_pow e2]
/-- The facts of the law, of the bits of the four sets. -/
theorem back_used {bs bt : List Nat} {n : Nat} {m x : Nat} (hlen : n ≤ 8 * bs.length) (hl : bt.length = bs.length) (hxm : x + m ≤ n) (hfree : ∀ j, j < m → bitB bs (x + j) = false)
    (ht : ∀ k, bitB bt k = if x ≤ k ∧ k < x + m then true else bitB bs k) : sumPop bt = sumPop bs + m := by
  rw [used_cnt, used_cnt, hl]
  have := cnt_run (p := bitB bs) (q := bitB bt) (x := x) (m := m) (fun k h1 h2 => by have := hfree (k - x) (by omega); rwa [show x + (k - x) = k by omega] at this) ht (8 * bs.length)
  omega
theorem back_run {bs bt : List Nat} {n : Nat} {many x y : Int} (h : RunIs (bitB bs) n many x) (hx : 0 ≤ x) (h' : RunIs (bitB bt) n many y)
    (ht : ∀ k, bitB bs k = true → bitB bt k = true) (hxt : bitB bt x.toNat = true) : y < 0 ∨ x < y := by
  rcases h with ⟨h1, _⟩ | ⟨h1, h2, h3, h4, h5⟩
  · omega
  rcases h' with ⟨h1', _⟩ | ⟨h1', h2', h3', h4', h5'⟩
  · left; omega
  · right
    refine Classical.byContradiction fun hn => ?_
    rcases Int.lt_trichotomy y x with g | g | g
    · obtain ⟨j, hj, hp⟩ := h5 y.toNat (by omega)
      have := h4' j hj
      rw [ht _ hp] at this; cases this
    · subst g
      have := h4' 0 (by omega)
      rw [Nat.add_zero, hxt] at this; cases this
    · exact hn g
end Go.SL
