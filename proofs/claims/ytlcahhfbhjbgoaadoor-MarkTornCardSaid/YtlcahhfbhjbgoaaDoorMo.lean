/- Layer 8: marks: the law MarkSeals, walked. -/
import Derived.Test.YtlcahhfbhjbgoaaDoorMi
import Derived.Test.YtlcahhfbhjbgoaaDoorMk
namespace Go.SL
open Go.Proofs
set_option linter.unusedVariables false
set_option maxRecDepth 10000
set_option maxHeartbeats 4000000
attribute [local irreducible] W WO SV OW SW Tri Ent Tk Has Src SrcK DA DB RdS Own

theorem mkR_cases {k : UInt8} (hk : mkR k = false) : k.toNat = 0 ∨ k.toNat = 3 := by
  unfold mkR at hk
  by_cases q : k.toNat = 0
  · exact .inl q
  · refine .inr ?_
    by_cases q3 : k.toNat = 3
    · exact q3
    · rw [decide_eq_false q, decide_eq_false q3] at hk; cases hk
theorem mkR_ne {k : UInt8} (hk : mkR k = true) : k.toNat ≠ 0 ∧ k.toNat ≠ 3 := by
  unfold mkR at hk
  simpa using hk
theorem mk_seals (X : HP) (R : List HP) (k : UInt8) (e s : Nat) (a1 : Option Addr) (c1 : Nat) (b : Byt) (he : e < 18446744073709551616) (hs : s < 18446744073709551616)
    (hb1 : b.length ≤ 9223372036854775807) (r1 : RdS 1 a1 b.length (b.map u8V) [X]) :
    TriE Tryd.prog 3 #[.agg (mkL k e s).toArray, .slice a1 b.length c1] (fun v M => v = .bool true ∧ M = X :: R) (X :: R) := by
  have rX : ∀ M, RdS 1 a1 b.length (b.map u8V) (X :: M) := fun M => RdS.ent ent r1
  have hklt := k.toNat_lt
  refine Tri.of (N := 62) (args := [.agg (mkL k e s).toArray, .slice a1 b.length c1]) Tryd.func3 rfl rfl rfl ?_
  dsimp only [mkL]
  by_cases hb : 400 < b.length
  · refine go ?_
    intro b3
    refine go ?_
    exact ⟨rfl, [_], ⟨Res.tmp rfl, trivial⟩, X :: R, ent, rfl, rfl⟩
  refine go ?_
  intro b3
  refine go ?_
  refine WO.callE (vs := [.agg (mkL k e s).toArray, .slice a1 b.length c1]) Tryd.func8 rfl rfl rfl rfl (mk_Seal k e s a1 c1 b _ he hs (by omega) (RdS.ent ent r1)) ?_
  rintro v M (⟨hk, rfl, rfl⟩ | ⟨hk, h, rfl, rfl⟩ | ⟨hk, hb2, a', c', rfl, s', hc', rfl⟩)
  · rcases mkR_cases hk with q | q
    · refine go ?_
      refine WO.callE (vs := []) Tryd.func9 rfl rfl rfl rfl (l8_one _) ?_
      rintro v M ⟨rfl, rfl⟩
      refine go ?_
      exact ⟨rfl, [_], ⟨Res.tmp rfl, trivial⟩, X :: R, ent, rfl, rfl⟩
    · refine go ?_
      refine WO.callE (vs := []) Tryd.func9 rfl rfl rfl rfl (l8_one _) ?_
      rintro v M ⟨rfl, rfl⟩
      refine go ?_
      exact ⟨rfl, [_], ⟨Res.tmp rfl, trivial⟩, X :: R, ent, rfl, rfl⟩
  · obtain ⟨q0, q3⟩ := mkR_ne hk
    refine go ?_
    refine WO.callE (vs := []) Tryd.func9 rfl rfl rfl rfl (l8_one _) ?_
    rintro v M ⟨rfl, rfl⟩
    refine go ?_
    exact ⟨rfl, [_], ⟨Res.tmp rfl, trivial⟩, X :: R, ent, rfl, rfl⟩
  · obtain ⟨q0, q3⟩ := mkR_ne hk
    have hSeal := fun L => rm_Seal k e s b L hb2
    generalize sealB k e s b = sb at *
    refine go ?_
    refine W.drawB #[0, 1, 3, 7, 15, 7, 39, 7, 135, 487, 1023, 2047, 4095, 8191, 16383, 32767] [OS a' c' sb, pts b3 (.cells [u8V k, .int .u64 e, .int .u64 s].toArray 24), X] R rfl (by kernel_rfl) (by kernel_rfl) (by kernel_rfl) ent ?_
    refine go ?_
    refine DB.q (v := strV sb) rfl rfl hl (SV.toStrR rfl (bs := sb) (OS.rd tk s') eqq) ?_
    refine go ?_
    refine DB.callE (vs := [.agg (mkL k e s).toArray]) Tryd.func11 rfl rfl rfl rfl hl hl (l8_own k e s _) ?_
    rintro v M ⟨rfl, rfl⟩
    refine ⟨[], R, ent, ?_⟩
    refine go ?_
    refine DB.q (v := strV b) rfl rfl hl (SV.toStrR rfl (bs := b) (RdS.ent ent r1) eqq) ?_
    refine go ?_
    refine DB.callE (vs := [.agg (mkL k e s).toArray, strV b]) Tryd.func10 rfl rfl rfl rfl hl hl (hSeal _) ?_
    rintro v M ⟨rfl, rfl⟩
    refine ⟨[], R, ent, ?_⟩
    refine go ?_
    refine DB.q (v := .bool true) rfl rfl hl (SV.eqlST (a := sb) (b := sb) rfl rfl rfl eqq) ?_
    refine go ?_
    refine DB.callE (vs := []) Tryd.func9 rfl rfl rfl rfl hl hl (l8_one _) ?_
    rintro v M ⟨rfl, rfl⟩
    refine ⟨[], R, ent, ?_⟩
    refine go ?_
    refine ⟨X :: R, ent, ?_⟩
    refine go ?_
    exact ⟨rfl, [_], ⟨Res.tmp rfl, trivial⟩, X :: R, ent, rfl, rfl⟩
end Go.SL
