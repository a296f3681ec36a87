/- Layer 8: marks: what the small functions do, each walked once. -/
import Derived.Test.YtlcahhfbhjbgoaaDoorDv
namespace Go.SL
open Go.Proofs
set_option linter.unusedVariables false
set_option maxRecDepth 10000
set_option maxHeartbeats 4000000
attribute [local irreducible] W WO SV OW SW Tri Ent Tk Has Src SrcK DA DB RdS Own

/-- The i-th byte of a number, the greatest first. -/
def byteOf (v i : Nat) : UInt8 := UInt8.ofNat (v / 2 ^ (8 * (7 - i)))
def beN (v i : Nat) : Byt := (List.range i).map (byteOf v)
theorem beN_succ (v i : Nat) : beN v (i + 1) = beN v i ++ [byteOf v i] := by unfold beN; rw [List.range_succ, List.map_append]; rfl
@[simp] theorem beN_len (v i : Nat) : (beN v i).length = i := by simp [beN]
theorem u64_shr (v i : Nat) (z : Int) (h : z = 8 * (7 - (i : Int))) (hi : i < 8) : (v : Int).fdiv (2 ^ (min z.toNat (IntKind.bits .u64))) = ((v / 2 ^ (8 * (7 - i)) : Nat) : Int) := by
  have e : min z.toNat (IntKind.bits .u64) = 8 * (7 - i) := by subst h; show min _ 64 = _; omega
  rw [e, Int.fdiv_eq_ediv_of_nonneg _ (by exact_mod_cast Nat.zero_le _)]
  exact_mod_cast rfl
theorem u8_of (n : Nat) : IntKind.wrap .u8 (n : Int) = ((UInt8.ofNat n).toNat : Int) := by
  show ((n : Int) % 256) = _
  rw [UInt8.toNat_ofNat']
  exact_mod_cast rfl

theorem mk_word (a : Option Addr) (c : Nat) (s : Byt) (v : Nat) (R : List HP) (hs : s.length ≤ 1000) (ha : SomeA a s.length) (hv : v < 18446744073709551616) :
    TriE Tryd.prog 46 #[.slice a s.length c, .int .u64 v] (fun r M => ∃ a' c', r = .slice a' (s ++ beN v 8).length c' ∧ SomeA a' (s ++ beN v 8).length ∧ M = OS a' c' (s ++ beN v 8) :: R) (OS a c s :: R) := by
  refine Tri.of (N := 19) (args := [.slice a s.length c, .int .u64 v]) Tryd.func46 rfl rfl rfl ?_
  unfold OS
  refine go ?_
  refine W.loopS 262113 rfl (fun q : Nat × Option Addr × Nat => [(0, .slice q.2.1 (s.length + q.1) q.2.2), (5, .int .i64 (7 - (q.1 : Int)))])
    (fun q => Own 5 1 (.slice q.2.1 (s.length + q.1) q.2.2) (s.length + q.1) ((s ++ beN v q.1).map u8V) :: R)
    (fun q => q.1 ≤ 8 ∧ SomeA q.2.1 (s.length + q.1)) (fun q => 8 - q.1) (0, a, c) ⟨rfl, rfl, trivial⟩ ⟨Nat.zero_le _, ha⟩ (Ent.app ?_) ?_
  · dsimp only
    rw [show s ++ beN v 0 = s by simp [beN]]
    exact ent
  rintro ⟨i, a, c⟩ bg ⟨hi, hsa⟩
  dsimp only at hi hsa ⊢
  by_cases h8 : i < 8
  · refine go ?_
    refine WO.sv rfl ?_
    refine SV.shr rfl rfl (by omega) (u64_shr v i _ (by omega) h8) ?_
    refine WO.sv rfl ?_
    refine SV.convInt rfl (u8_of _) ?_
    refine WO.sv rfl ?_
    refine SV.lit rfl rfl rfl parts rfl nl ?_
    intro bl
    refine WO.sv rfl ?_
    refine SV.append rfl rfl rfl tk (RdS.src (RdS.all (sz := 1) (n := 1) rfl)) rfl rfl (by omega) rfl ?_
    intro a' c' ha'
    refine go ?_
    refine ⟨(i + 1, a', c'), ⟨rfl, by show Value.int _ _ = _; congr 1; dsimp only; omega, trivial⟩, rfl, ⟨by dsimp only; omega, fun _ => ha' (by omega)⟩, by dsimp only; omega, Ent.app ?_⟩
    dsimp only
    rw [beN_succ, ← List.append_assoc, List.map_append (l₂ := [byteOf v i])]
    exact ent
  · obtain rfl : i = 8 := by omega
    refine go ?_
    refine ⟨rfl, [_], ⟨Res.tmp rfl, trivial⟩, Own 5 1 (.slice a (s ++ beN v 8).length c) (s ++ beN v 8).length ((s ++ beN v 8).map u8V) :: R, ?_, a, c, ?_, ?_, rfl⟩
    · rw [List.length_append, beN_len]
      exact ent
    · rw [List.length_append, beN_len]; rfl
    · rw [List.length_append, beN_len]; exact hsa
end Go.SL
