/- Layer 8: marks: the document's sealed block. -/
import Derived.Test.YtlcahhfbhjbgoaaDoorMh
namespace Go.SL
open Go.Proofs
set_option linter.unusedVariables false
set_option maxRecDepth 10000
set_option maxHeartbeats 4000000
attribute [local irreducible] W WO SV OW SW Tri Ent Tk Has Src SrcK DA DB RdS Own

theorem u8len {n : Nat} (h : n ≤ 220) : Value.int .u8 ((n : Nat) : Int) = u8V (UInt8.ofNat n) := by
  show _ = Value.int .u8 ((UInt8.ofNat n).toNat : Int)
  rw [UInt8.toNat_ofNat', Nat.mod_eq_of_lt (by omega)]
theorem l8_own (k : UInt8) (e s : Nat) (L : List HP) : TriE Tryd.prog 11 #[.agg (mkL k e s).toArray] (fun v M => v = .agg (mkL k e s).toArray ∧ M = L) L := by
  refine Tri.of (N := 10) (args := [.agg (mkL k e s).toArray]) Tryd.func11 rfl rfl rfl ?_
  dsimp only [mkL]
  refine go ?_
  intro b1
  refine go ?_
  intro b2
  refine go ?_
  exact ⟨rfl, [_], ⟨Res.cell rfl le0 nl, trivial⟩, L, ent, rfl, rfl⟩
theorem rm_Seal (k : UInt8) (e s : Nat) (b : Byt) (L : List HP) (hb : b.length ≤ 220) :
    TriE Tryd.prog 10 #[.agg (mkL k e s).toArray, strV b] (fun v M => v = strV (sealB k e s b) ∧ M = L) L := by
  refine Tri.of (N := 25) (args := [.agg (mkL k e s).toArray, strV b]) Tryd.func10 rfl rfl rfl ?_
  have hml := mkB_len k e s
  have hbytes := fun M => rm_Bytes k e s M
  have hsb : sealB k e s b = mkB k e s ++ ([0, UInt8.ofNat b.length] ++ (b ++ (List.replicate (220 - b.length) 0 ++ mkB k e s))) := rfl
  rw [hsb]
  generalize mkB k e s = mb at *
  refine go ?_
  intro b2
  refine go ?_
  refine W.drawB #[0, 1, 0, 4, 12, 28, 60, 127, 0, 511, 1023] [pts b2 (.cells [u8V k, .int .u64 e, .int .u64 s].toArray 31)] L rfl (by kernel_rfl) (by kernel_rfl) (by kernel_rfl) ent ?_
  refine go ?_
  refine DB.callE (vs := [.agg (mkL k e s).toArray]) Tryd.func27 rfl rfl rfl rfl hl hl (hbytes _) ?_
  rintro v M ⟨rfl, rfl⟩
  refine ⟨[], L, ent, ?_⟩
  refine go ?_
  refine DB.lit rfl rfl rfl parts rfl nl rfl rfl ?_
  intro b3
  rw [u8len hb]
  refine go ?_
  refine DB.q (v := strV [0, UInt8.ofNat b.length]) rfl rfl hl (SV.toStrR rfl (bs := [0, UInt8.ofNat b.length]) (RdS.all (sz := 1) (n := 2) rfl) eqq) ?_
  refine DB.q (v := strV (mb ++ [0, UInt8.ofNat b.length])) rfl rfl hl (SV.concat rfl rfl (by simp [hml]) eqq) ?_
  refine go ?_
  refine DB.q (v := strV (mb ++ [0, UInt8.ofNat b.length] ++ b)) rfl rfl hl (SV.concat rfl rfl (by simp [hml]; omega) eqq) ?_
  refine go ?_
  refine ⟨pts b2 (.cells [u8V k, .int .u64 e, .int .u64 s].toArray 31) :: L, ent, ?_⟩
  have hpl : (mb ++ [0, UInt8.ofNat b.length] ++ b).length = 19 + b.length := by simp [hml]; omega
  have hpe : mb ++ ([0, UInt8.ofNat b.length] ++ (b ++ (List.replicate (220 - b.length) 0 ++ mb))) = (mb ++ [0, UInt8.ofNat b.length] ++ b) ++ List.replicate (220 - b.length) 0 ++ mb := by simp
  rw [hpe]
  generalize mb ++ [0, UInt8.ofNat b.length] ++ b = pb at *
  refine go ?_
  refine W.loopS 2031648 rfl (fun j : Nat => [(5, strV (pb ++ List.replicate j 0))]) (fun _ => pts b2 (.cells [u8V k, .int .u64 e, .int .u64 s].toArray 31) :: L)
    (fun j => j ≤ 220 - b.length) (fun j => 220 - b.length - j) 0 ⟨by show _ = strV _; rw [List.replicate_zero, List.append_nil]; rfl, trivial⟩ (Nat.zero_le _) (Ent.app ent) ?_
  intro j bg hj
  have hjl : (pb ++ List.replicate j (0 : UInt8)).length = 19 + b.length + j := by simp [hpl]
  have hjs : pb ++ List.replicate (j + 1) (0 : UInt8) = (pb ++ List.replicate j 0) ++ [0] := by rw [List.replicate_succ', List.append_assoc]
  by_cases h9 : j < 220 - b.length
  · refine go ?_
    refine WO.sv rfl ?_
    refine SV.concat rfl rfl (by simp [hjl]; omega) ?_
    refine go ?_
    refine ⟨j + 1, ⟨?_, trivial⟩, rfl, by omega, by omega, Ent.app ent⟩
    rw [hjs]
    rfl
  · obtain rfl : j = 220 - b.length := by omega
    refine go ?_
    refine WO.callE (vs := [.agg (mkL k e s).toArray]) Tryd.func27 rfl rfl rfl rfl (hbytes _) ?_
    rintro v M ⟨rfl, rfl⟩
    refine WO.sv rfl ?_
    refine SV.concat rfl rfl (by simp [hjl, hml]; omega) ?_
    refine go ?_
    exact ⟨rfl, [_], ⟨Res.tmp rfl, trivial⟩, _, ent, rfl, rfl⟩
end Go.SL
