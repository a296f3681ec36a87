/- Layer 11: what its functions do (numbers). -/
import Derived.Test.YtlcahhfbhjbgoaaBm
import Derived.KernelRfl
namespace Go.SL
open Go.Proofs
set_option linter.unusedVariables false
set_option maxRecDepth 10000
attribute [local irreducible] W WO SV OW SW Tri Ent Tk Has Src SrcK DA DB RdS Own

theorem not_pow : ∀ s, s < 8 → ∀ i, i < 8 → (255 - 2 ^ s).testBit i = !decide (i = s) := by decide
theorem pow_lt : ∀ s, s < 8 → 2 ^ s < 256 := by decide
theorem u8_shl1 {s : Int} (h0 : 0 ≤ s) (h1 : s < 8) : IntKind.wrap .u8 (1 * 2 ^ (min s.toNat (IntKind.bits .u8))) = ((2 ^ s.toNat : Nat) : Int) := by
  have := pow_lt s.toNat (by omega)
  rw [u8bits, Nat.min_eq_left (by omega), Int.one_mul]
  have e : (2 : Int) ^ s.toNat = ((2 ^ s.toNat : Nat) : Int) := by norm_cast
  rw [e]; clear e; generalize 2 ^ s.toNat = y at *; exact u8w (by omega) (by omega)
theorem u8_andNot {a b : Int} (x y : Nat) (ha : a = x) (hb : b = y) (hx : x < 256) (hy : y < 256) :
    IntKind.wrap .u8 (((a % 2 ^ IntKind.bits .u8).toNat &&& (2 ^ IntKind.bits .u8 - 1 - (b % 2 ^ IntKind.bits .u8).toNat) : Nat) : Int) = ((x &&& (255 - y) : Nat) : Int) := by
  subst ha; subst hb
  have e1 : ((x : Int) % 2 ^ IntKind.bits .u8).toNat = x := by rw [u8bits]; omega
  have e2 : ((y : Int) % 2 ^ IntKind.bits .u8).toNat = y := by rw [u8bits]; omega
  rw [e1, e2]
  have := Nat.and_le_left (n := x) (m := 255 - y)
  rw [show 2 ^ IntKind.bits .u8 - 1 = 255 from rfl]
  exact u8w (by omega) (by omega)
theorem u8_or {a b : Int} (x y : Nat) (ha : a = x) (hb : b = y) (hx : x < 256) (hy : y < 256) :
    IntKind.wrap .u8 (((a % 2 ^ IntKind.bits .u8).toNat ||| (b % 2 ^ IntKind.bits .u8).toNat : Nat) : Int) = ((x ||| y : Nat) : Int) := by
  subst ha; subst hb
  have e1 : ((x : Int) % 2 ^ IntKind.bits .u8).toNat = x := by rw [u8bits]; omega
  have e2 : ((y : Int) % 2 ^ IntKind.bits .u8).toNat = y := by rw [u8bits]; omega
  rw [e1, e2]
  have : x ||| y < 2 ^ 8 := Nat.or_lt_two_pow hx hy
  exact u8w (by omega) (by omega)
/-- One block's bit, let in or out. -/
def clrB (bs : List Nat) (k : Nat) : List Nat := bs.set (k / 8) (bs.getD (k / 8) 0 &&& (255 - 2 ^ (k % 8)))
def addB (bs : List Nat) (k : Nat) : List Nat := bs.set (k / 8) (bs.getD (k / 8) 0 ||| 2 ^ (k % 8))
theorem okB_set {bs : List Nat} (ok : OkB bs) (i : Nat) {y : Nat} (hy : y < 256) : OkB (bs.set i y) := by
  intro x hx
  rcases List.mem_or_eq_of_mem_set hx with h | h
  · exact ok x h
  · omega
theorem okB_clr {bs : List Nat} (ok : OkB bs) (k : Nat) : OkB (clrB bs k) := okB_set ok _ (by have := ok.get (k / 8); have := Nat.and_le_left (n := bs.getD (k / 8) 0) (m := 255 - 2 ^ (k % 8)); omega)
theorem okB_add {bs : List Nat} (ok : OkB bs) (k : Nat) : OkB (addB bs k) := okB_set ok _ (Nat.or_lt_two_pow (n := 8) (ok.get _) (pow_lt _ (by omega)))
theorem bitB_set {bs : List Nat} {i y j : Nat} (hi : i < bs.length) : bitB (bs.set i y) j = if j / 8 = i then y.testBit (j % 8) else bitB bs j := by
  unfold bitB
  simp only [List.getD_eq_getElem?_getD, List.getElem?_set]
  by_cases h : i = j / 8
  · subst h; simp [hi]
  · have h' : ¬ j / 8 = i := fun e => h e.symm
    simp [h, h']
theorem bitB_clr {bs : List Nat} {k j : Nat} (hk : k / 8 < bs.length) : bitB (clrB bs k) j = (bitB bs j && !decide (j = k)) := by
  unfold clrB
  rw [bitB_set hk]
  by_cases h : j / 8 = k / 8
  · rw [if_pos h, Nat.testBit_and, not_pow _ (by omega) _ (by omega)]
    unfold bitB
    rw [h]
    congr 2
    exact decide_eq_decide.2 (by omega)
  · rw [if_neg h]
    have : ¬ j = k := fun e => h (by rw [e])
    simp [this]
theorem bitB_add {bs : List Nat} {k j : Nat} (hk : k / 8 < bs.length) : bitB (addB bs k) j = (bitB bs j || decide (j = k)) := by
  unfold addB
  rw [bitB_set hk]
  by_cases h : j / 8 = k / 8
  · rw [if_pos h, Nat.testBit_or, Nat.testBit_two_pow]
    unfold bitB
    rw [h]
    congr 1
    exact decide_eq_decide.2 (by omega)
  · rw [if_neg h]
    have : ¬ j = k := fun e => h (by rw [e])
    simp [this]
theorem map_set_u8 (bs : List Nat) (i y : Nat) : (bs.map u8).set i (u8 y) = (bs.set i y).map u8 := by rw [List.map_set]

/-- Is block k in the run? -/
def inRun (n : Nat) (from_ many : Int) (k : Nat) : Prop := k < n ∧ from_ ≤ k ∧ (from_ < 0 → (k : Int) < max 0 many + from_) ∧ (0 ≤ from_ → (k : Int) - from_ < many)
def Run2 (bs bs' : List Nat) (p : Nat → Prop) (use : Bool) : Prop := bs'.length = bs.length ∧ OkB bs' ∧ ∀ k, (p k → bitB bs' k = use) ∧ (¬ p k → bitB bs' k = bitB bs k)

end Go.SL
