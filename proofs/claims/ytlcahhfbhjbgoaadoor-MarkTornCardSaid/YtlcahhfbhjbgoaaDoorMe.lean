/- Layer 8: marks: reading one. -/
import Derived.Test.YtlcahhfbhjbgoaaDoorMd
namespace Go.SL
open Go.Proofs
set_option linter.unusedVariables false
set_option maxRecDepth 10000
set_option maxHeartbeats 4000000
attribute [local irreducible] W WO SV OW SW Tri Ent Tk Has Src SrcK DA DB RdS Own

/-- The number of k bytes from the i-th on. -/
def nbe (s : Byt) (i : Nat) : Nat → Nat
  | 0 => 0
  | k + 1 => nbe s i k * 256 + (s.getD (i + k) 0).toNat
theorem nbe_lt (s : Byt) (i : Nat) : ∀ k, nbe s i k < 256 ^ k
  | 0 => by simp [nbe]
  | k + 1 => by
    have h1 := nbe_lt s i k
    have h2 := (s.getD (i + k) 0).toNat_lt
    rw [nbe, Nat.pow_succ]
    omega
theorem nbe_56 (s : Byt) (i k : Nat) (h : k ≤ 7) : nbe s i k < 72057594037927936 :=
  Nat.lt_of_lt_of_le (nbe_lt s i k) (Nat.le_trans (Nat.pow_le_pow_right (by decide) h) (by decide))
theorem nbe_64 (s : Byt) (i : Nat) : nbe s i 8 < 18446744073709551616 := nbe_lt s i 8
theorem u64_wrap (x : Nat) (h : x < 18446744073709551616) : IntKind.wrap .u64 (x : Int) = x := by
  show (x : Int) % 18446744073709551616 = x
  omega
theorem u64_or (e : Nat) (c : UInt8) (he : e < 72057594037927936) : IntKind.wrap .u64 ((((((e * 256 : Nat) : Int)) % 2 ^ IntKind.bits .u64).toNat ||| (((c.toNat : Int)) % 2 ^ IntKind.bits .u64).toNat : Nat) : Int) = ((e * 256 + c.toNat : Nat) : Int) := by
  have hc := c.toNat_lt
  have h1 : (((e * 256 : Nat) : Int) % 2 ^ IntKind.bits .u64).toNat = 2 ^ 8 * e := by
    show (((e * 256 : Nat) : Int) % 18446744073709551616).toNat = _
    omega
  have h2 : ((c.toNat : Int) % 2 ^ IntKind.bits .u64).toNat = c.toNat := by
    show ((c.toNat : Int) % 18446744073709551616).toNat = _
    omega
  rw [h1, h2, ← Nat.two_pow_add_eq_or_of_lt (by omega), u64_wrap _ (by omega)]
  congr 1
  omega
theorem u64_shl8 (e : Nat) (he : e < 72057594037927936) : IntKind.wrap .u64 ((e : Int) * 2 ^ (min (8 : Int).toNat (IntKind.bits .u64))) = ((e * 256 : Nat) : Int) := by
  have : (e : Int) * 2 ^ (min (8 : Int).toNat (IntKind.bits .u64)) = ((e * 256 : Nat) : Int) := by
    show (e : Int) * 256 = _
    omega
  rw [this, u64_wrap _ (by omega)]

theorem mk_read (b o n cp : Nat) (s : Byt) (L : List HP) (hn : n = s.length) (h17 : 17 ≤ n) (hb : n ≤ 1000000) (r : RdS 1 (some ⟨b, o, none⟩) n (s.map u8V) L) :
    TriE Tryd.prog 28 #[.slice (some ⟨b, o, none⟩) n cp] (fun v M => v = .agg (mkL (s.getD 0 0) (nbe s 1 8) (nbe s 9 8)).toArray ∧ M = L) L := by
  have hget : ∀ i, i < n → (s.map u8V)[i]? = some (u8V (s.getD i 0)) := fun i hi => by simp [show i < s.length by omega]
  refine Tri.of (N := 35) (args := [.slice (some ⟨b, o, none⟩) n cp]) Tryd.func28 rfl rfl rfl ?_
  refine go ?_
  intro b2
  refine go ?_
  refine WO.sv rfl ?_
  refine SV.loadR 0 rfl rds (by omega) (hget 0 (by omega)) ?_
  refine go ?_
  refine W.loopS 17179868936 rfl (fun j : Nat => [(8, .int .i64 j)]) (fun j => pts b2 (.cells [u8V (s.getD 0 0), .int .u64 (nbe s 1 j), .int .u64 (nbe s 9 j)].toArray 24) :: L)
    (fun j => j ≤ 8) (fun j => 8 - j) 0 ⟨rfl, trivial⟩ (Nat.zero_le _) (Ent.app ent) ?_
  intro j bg hj
  by_cases h8 : j < 8
  · have e1 := nbe_56 s 1 j (by omega)
    have e2 := nbe_56 s 9 j (by omega)
    have n1 : nbe s 1 (j + 1) = nbe s 1 j * 256 + (s.getD (1 + j) 0).toNat := rfl
    have n2 : nbe s 9 (j + 1) = nbe s 9 j * 256 + (s.getD (9 + j) 0).toNat := rfl
    have hc1 := (s.getD (1 + j) 0).toNat_lt
    have hc2 := (s.getD (9 + j) 0).toNat_lt
    have g1 := hget (1 + j) (by omega)
    have g2 := hget (9 + j) (by omega)
    generalize nbe s 1 j = x1 at *
    generalize nbe s 9 j = x2 at *
    generalize s.getD (1 + j) 0 = y1 at *
    generalize s.getD (9 + j) 0 = y2 at *
    refine go ?_
    refine W.drawA rfl (by kernel_rfl) (by kernel_rfl) ?_
    refine go ?_
    refine DA.q (v := .int .u64 ((x1 * 256 : Nat) : Int)) rfl rfl (SV.shl rfl rfl (by decide) (u64_shl8 x1 e1) eqq) ?_
    refine go ?_
    refine DA.q (v := u8V y1) rfl rfl (SV.loadR (1 + j) rfl rds (by omega) g1 eqq) ?_
    refine go ?_
    refine DA.q (v := .int .u64 ((x1 * 256 + y1.toNat : Nat) : Int)) rfl rfl (SV.bor rfl rfl (u64_or x1 y1 e1) eqq) ?_
    refine go ?_
    refine DA.v rfl rfl rfl ?_
    refine SV.store rfl rfl cel rfl rfl rfl frz le0 nl ?_
    refine go ?_
    refine W.drawA rfl (by kernel_rfl) (by kernel_rfl) ?_
    refine go ?_
    refine DA.q (v := .int .u64 ((x2 * 256 : Nat) : Int)) rfl rfl (SV.shl rfl rfl (by decide) (u64_shl8 x2 e2) eqq) ?_
    refine go ?_
    refine DA.q (v := u8V y2) rfl rfl (SV.loadR (9 + j) rfl rds (by omega) g2 eqq) ?_
    refine go ?_
    refine DA.q (v := .int .u64 ((x2 * 256 + y2.toNat : Nat) : Int)) rfl rfl (SV.bor rfl rfl (u64_or x2 y2 e2) eqq) ?_
    refine go ?_
    refine DA.v rfl rfl rfl ?_
    refine SV.store rfl rfl cel rfl rfl rfl frz le0 nl ?_
    refine go ?_
    refine ⟨j + 1, ⟨rfl, trivial⟩, rfl, by omega, by omega, Ent.app ?_⟩
    rw [n1, n2]
    exact ent
  · obtain rfl : j = 8 := by omega
    refine go ?_
    exact ⟨rfl, [_], ⟨Res.cell rfl le0 nl, trivial⟩, _, ent, rfl, rfl⟩
end Go.SL
