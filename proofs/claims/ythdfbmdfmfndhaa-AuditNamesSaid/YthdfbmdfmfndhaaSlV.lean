/- Words of 32 bits. Generic in the program. -/
import Derived.Test.YthdfbmdfmfndhaaSlG
namespace Go.SL
set_option linter.unusedVariables false
set_option linter.unusedSimpArgs false
set_option linter.unusedSectionVars false
def w32 (x : UInt32) : Value := .int .u32 (x.toNat : Int)
theorem u32_lt (x : UInt32) : x.toNat < 4294967296 := x.toNat_lt
theorem w32_wrap {n : Nat} (h : n < 4294967296) : IntKind.u32.wrap (n : Int) = (n : Int) := by
  simp [IntKind.wrap, IntKind.bits, IntKind.signed]
  omega
theorem w32_mod (x : UInt32) : (((x.toNat : Nat) : Int) % 2 ^ IntKind.bits .u32).toNat = x.toNat := by
  have := u32_lt x
  rw [show IntKind.bits .u32 = 32 from rfl]; omega
section
variable {P : Program} {ro : Option Nat} {f : Frm} {L : List HP} {d : Option Nat} {ty : TypeId} {ps : String} {af : Array Edge} {gu : Option (Nat × Bool)} {K : Value → List HP → Prop} {t yt : TypeId} {x y : Operand} {a b : UInt32}
theorem SV.xor32 (hx : f.ev x = w32 a) (hy : f.ev y = w32 b) (h : K (w32 (a ^^^ b)) L) : SV P ro ⟨d, .binOp .xor t x y yt, ty, ps, af, gu⟩ f K L :=
  SV.bxor hx hy (by rw [w32_mod, w32_mod, ← UInt32.toNat_xor]; exact w32_wrap (u32_lt _)) h
theorem SV.and32 (hx : f.ev x = w32 a) (hy : f.ev y = w32 b) (h : K (w32 (a &&& b)) L) : SV P ro ⟨d, .binOp .and t x y yt, ty, ps, af, gu⟩ f K L :=
  SV.band hx hy (by rw [w32_mod, w32_mod, ← UInt32.toNat_and]; exact w32_wrap (u32_lt _)) h
theorem SV.or32 (hx : f.ev x = w32 a) (hy : f.ev y = w32 b) (h : K (w32 (a ||| b)) L) : SV P ro ⟨d, .binOp .or t x y yt, ty, ps, af, gu⟩ f K L :=
  SV.bor hx hy (by rw [w32_mod, w32_mod, ← UInt32.toNat_or]; exact w32_wrap (u32_lt _)) h
theorem SV.add32 (hx : f.ev x = w32 a) (hy : f.ev y = w32 b) (h : K (w32 (a + b)) L) : SV P ro ⟨d, .binOp .add t x y yt, ty, ps, af, gu⟩ f K L :=
  SV.add hx hy (by
    rw [UInt32.toNat_add]
    have := u32_lt a
    have := u32_lt b
    simp [IntKind.wrap, IntKind.bits, IntKind.signed]) h
theorem SV.shl32 {n : Nat} {k' : IntKind} (hx : f.ev x = w32 a) (hy : f.ev y = .int k' (n : Int)) (hn : n < 32) (h : K (w32 (a <<< (UInt32.ofNat n))) L) : SV P ro ⟨d, .binOp .shl t x y yt, ty, ps, af, gu⟩ f K L :=
  SV.shl hx hy (by omega) (by
    rw [UInt32.toNat_shiftLeft, UInt32.toNat_ofNat', show n % 2 ^ 32 % 32 = n by omega, Int.toNat_natCast, show min n (IntKind.bits .u32) = n by rw [show IntKind.bits .u32 = 32 from rfl]; omega, Nat.shiftLeft_eq]
    simp [IntKind.wrap, IntKind.bits, IntKind.signed]) h
theorem SV.shr32 {n : Nat} {k' : IntKind} (hx : f.ev x = w32 a) (hy : f.ev y = .int k' (n : Int)) (hn : n < 32) (h : K (w32 (a >>> (UInt32.ofNat n))) L) : SV P ro ⟨d, .binOp .shr t x y yt, ty, ps, af, gu⟩ f K L :=
  SV.shr hx hy (by omega) (by
    rw [UInt32.toNat_shiftRight, UInt32.toNat_ofNat', show n % 2 ^ 32 % 32 = n by omega, Int.toNat_natCast, show min n (IntKind.bits .u32) = n by rw [show IntKind.bits .u32 = 32 from rfl]; omega, Nat.shiftRight_eq_div_pow]
    rw [Int.fdiv_eq_ediv_of_nonneg _ (Int.le_of_lt (Int.pow_pos (by decide)))]
    simp) h
theorem SV.not32 (hx : f.ev x = w32 a) (h : K (w32 (~~~a)) L) : SV P ro ⟨d, .unOp .xor t x, ty, ps, af, gu⟩ f K L := by
  refine SV.val (Op.unary .xor (f.ev x)) (by intro c h; cases h) rfl ?_
  rw [hx]
  refine SW.ok (a := w32 (~~~a)) (fun w => ?_) h
  have e : (-1 : UInt32) ^^^ a = ~~~a := by simp
  have e2 : (if IntKind.signed .u32 = true then (-1 : Int) else IntKind.max .u32) = 4294967295 := by decide
  have e4 : (BitVec.ofInt 32 (a.toNat : Int)).toNat = a.toNat := by
    have := u32_lt a
    rw [BitVec.toNat_ofInt]
    omega
  have e3 : (BitVec.ofInt 32 (4294967295 : Int) ^^^ BitVec.ofInt 32 (a.toNat : Int)).toNat = (~~~a).toNat := by
    rw [BitVec.toNat_xor, e4, show (BitVec.ofInt 32 (4294967295 : Int)).toNat = (-1 : UInt32).toNat by decide, ← UInt32.toNat_xor, e]
  simp only [w32, Op.unary, e2, Op.intBits]
  rw [show IntKind.bits .u32 = 32 from rfl, e3, w32_wrap (u32_lt _)]
  rfl
end
end Go.SL
