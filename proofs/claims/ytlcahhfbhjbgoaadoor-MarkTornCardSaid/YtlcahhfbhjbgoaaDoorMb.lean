/- Layer 8: marks: what the small functions do, each walked once. -/
import Derived.Test.YtlcahhfbhjbgoaaDoorMa
namespace Go.SL
open Go.Proofs
set_option linter.unusedVariables false
set_option maxRecDepth 10000
set_option maxHeartbeats 4000000
attribute [local irreducible] W WO SV OW SW Tri Ent Tk Has Src SrcK DA DB RdS Own

abbrev mkL (k : UInt8) (e s : Nat) : List Value := [u8V k, .int .u64 e, .int .u64 s]
def mkB (k : UInt8) (e s : Nat) : Byt := [k] ++ beN e 8 ++ beN s 8
@[simp] theorem mkB_len (k : UInt8) (e s : Nat) : (mkB k e s).length = 17 := by simp [mkB]
/-- Whether a kind may be. -/
def mkR (k : UInt8) : Bool := !decide (k.toNat = 0) && !decide (k.toNat = 3)

theorem mk_right (k : UInt8) (e s : Nat) (L : List HP) : TriE Tryd.prog 25 #[.agg (mkL k e s).toArray] (fun v M => v = .bool (mkR k) ∧ M = L) L := by
  have hlt := k.toNat_lt
  unfold mkR
  refine Tri.of (N := 11) (args := [.agg (mkL k e s).toArray]) Tryd.func25 rfl rfl rfl ?_
  dsimp only [mkL, u8V]
  refine go ?_
  intro b1
  by_cases h0 : k.toNat = 0
  · refine go ?_
    exact ⟨rfl, [_], ⟨Res.tmp rfl, trivial⟩, L, ent, by rw [decide_eq_true h0]; rfl, rfl⟩
  · by_cases h3 : k.toNat = 3
    · refine go ?_
      exact ⟨rfl, [_], ⟨Res.tmp rfl, trivial⟩, L, ent, by rw [decide_eq_false h0, decide_eq_true h3]; rfl, rfl⟩
    · refine go ?_
      exact ⟨rfl, [_], ⟨Res.tmp rfl, trivial⟩, L, ent, by rw [decide_eq_false h0, decide_eq_false h3]; rfl, rfl⟩

theorem mk_lay (k : UInt8) (e s : Nat) (R : List HP) (h1 : e < 18446744073709551616) (h2 : s < 18446744073709551616) :
    TriE Tryd.prog 26 #[.agg (mkL k e s).toArray] (fun r M => ∃ a c, r = .slice a (mkB k e s).length c ∧ SomeA a (mkB k e s).length ∧ M = OS a c (mkB k e s) :: R) R := by
  refine Tri.of (N := 12) (args := [.agg (mkL k e s).toArray]) Tryd.func26 rfl rfl rfl ?_
  refine go ?_
  intro b1
  refine go ?_
  refine W.drawG (fun _ => false) #[0, 1, 3, 0, 8, 31, 0, 64, 255, 511] [pts b1 (.cells [u8V k, .int .u64 e, .int .u64 s].toArray 24)] R rfl (by kernel_rfl) (by kernel_rfl) (by kernel_rfl) ent ?_
  refine go ?_
  refine DB.litH rfl rfl rfl parts rfl nl rfl rfl ?_
  intro b2
  refine go ?_
  refine DB.callE (vs := [.slice (some ⟨b2, 0, none⟩) 1 1, .int .u64 e]) Tryd.func46 rfl rfl rfl rfl hl hl (TriE.ent (Ent.trans (B := pts b2 (.cells [u8V k].toArray 5) :: pts b1 (.cells [u8V k, .int .u64 e, .int .u64 s].toArray 24) :: R) ent (ent_own (sz := 1) (n := 1) rfl)) (mk_word (some ⟨b2, 0, none⟩) 1 [k] e (pts b1 (.cells [u8V k, .int .u64 e, .int .u64 s].toArray 24) :: R) (by simp) (fun _ => ⟨b2, rfl⟩) h1)) ?_
  rintro v M ⟨a3, c3, rfl, s3, rfl⟩
  refine ⟨[], OS a3 c3 ([k] ++ beN e 8) :: R, ent, ?_⟩
  refine go ?_
  refine DB.callE (vs := [.slice a3 ([k] ++ beN e 8).length c3, .int .u64 s]) Tryd.func46 rfl rfl rfl rfl hl hl (TriE.ent ent (mk_word a3 c3 ([k] ++ beN e 8) s (pts b1 (.cells [u8V k, .int .u64 e, .int .u64 s].toArray 24) :: R) (by simp) s3 h2)) ?_
  rintro v M ⟨a4, c4, rfl, s4, rfl⟩
  refine ⟨[], OS a4 c4 (mkB k e s) :: R, ent, ?_⟩
  refine go ?_
  refine ⟨OS a4 c4 (mkB k e s) :: R, ent, ?_⟩
  refine go ?_
  exact ⟨rfl, [_], ⟨Res.tmp rfl, trivial⟩, _, ent, a4, c4, rfl, s4, rfl⟩

theorem app_succ (p : Byt) (v i : Nat) : p ++ beN v (i + 1) = (p ++ beN v i) ++ [byteOf v i] := by rw [beN_succ, ← List.append_assoc]
theorem rm_Bytes (k : UInt8) (e s : Nat) (R : List HP) :
    TriE Tryd.prog 27 #[.agg (mkL k e s).toArray] (fun r M => r = strV (mkB k e s) ∧ M = R) R := by
  refine Tri.of (N := 36) (args := [.agg (mkL k e s).toArray]) Tryd.func27 rfl rfl rfl ?_
  refine go ?_
  intro b1
  refine go ?_
  refine WO.sv rfl ?_
  refine SV.lit rfl rfl rfl parts rfl nl ?_
  intro b2
  refine WO.sv rfl ?_
  refine SV.toStrR rfl (bs := [k]) (RdS.all (sz := 1) (n := 1) rfl) ?_
  refine go ?_
  refine W.loopS 34359736440 rfl (fun q : Nat => [(3, strV (if q = 0 then [k] else if q = 1 then [k] ++ beN e 8 else mkB k e s)), (4, .int .i64 q)]) (fun _ => pts b1 (.cells [u8V k, .int .u64 e, .int .u64 s].toArray 31) :: R)
    (fun q => q ≤ 2) (fun q => 2 - q) 0 ⟨rfl, rfl, trivial⟩ (Nat.zero_le _) (Ent.app ent) ?_
  intro q bg hq
  by_cases h2 : q < 2
  · have key : ∀ (s0 : Byt) (v : Nat), ∀ (s1 : Byt), s1 = s0 ++ beN v 8 → True := fun _ _ _ _ => trivial
    have hq2 : q = 0 ∨ q = 1 := by omega
    rcases hq2 with rfl | rfl
    · rw [if_pos rfl]
      refine go ?_
      refine W.loopS 34357641288 rfl (fun i : Nat => [(3, strV ([k] ++ beN e i)), (6, .int .i64 (7 - (i : Int)))]) (fun _ => pts b1 (.cells [u8V k, .int .u64 e, .int .u64 s].toArray 31) :: R)
        (fun i => i ≤ 8) (fun i => 8 - i) 0 ⟨by simp [beN]; rfl, rfl, trivial⟩ (Nat.zero_le _) (Ent.app ent) ?_
      intro i bg2 hi
      by_cases h8 : i < 8
      · refine go ?_
        refine WO.sv rfl ?_
        refine SV.shr rfl rfl (by omega) (u64_shr e i _ (by omega) h8) ?_
        refine WO.sv rfl ?_
        refine SV.convInt rfl (u8_of _) ?_
        refine WO.sv rfl ?_
        refine SV.lit rfl rfl rfl parts rfl nl ?_
        intro bl
        refine WO.sv rfl ?_
        refine SV.toStrR rfl (bs := [byteOf e i]) (RdS.all (sz := 1) (n := 1) rfl) ?_
        refine WO.sv rfl ?_
        refine SV.concat rfl rfl (by simp; omega) ?_
        refine go ?_
        refine ⟨i + 1, ⟨?_, ?_, trivial⟩, rfl, by omega, by omega, Ent.app ent⟩
        · show _ = strV _
          rw [app_succ [k] e i]
          rfl
        · show Value.int _ _ = _
          congr 1
          omega
      · obtain rfl : i = 8 := by omega
        refine go ?_
        exact ⟨1, ⟨rfl, rfl, trivial⟩, rfl, by omega, by omega, Ent.app ent⟩
    · rw [if_neg (show ¬ (1 : Nat) = 0 by decide), if_pos rfl]
      refine go ?_
      refine W.loopS 34357641288 rfl (fun i : Nat => [(3, strV (([k] ++ beN e 8) ++ beN s i)), (6, .int .i64 (7 - (i : Int)))]) (fun _ => pts b1 (.cells [u8V k, .int .u64 e, .int .u64 s].toArray 31) :: R)
        (fun i => i ≤ 8) (fun i => 8 - i) 0 ⟨by simp [beN]; rfl, rfl, trivial⟩ (Nat.zero_le _) (Ent.app ent) ?_
      intro i bg2 hi
      by_cases h8 : i < 8
      · refine go ?_
        refine WO.sv rfl ?_
        refine SV.shr rfl rfl (by omega) (u64_shr s i _ (by omega) h8) ?_
        refine WO.sv rfl ?_
        refine SV.convInt rfl (u8_of _) ?_
        refine WO.sv rfl ?_
        refine SV.lit rfl rfl rfl parts rfl nl ?_
        intro bl
        refine WO.sv rfl ?_
        refine SV.toStrR rfl (bs := [byteOf s i]) (RdS.all (sz := 1) (n := 1) rfl) ?_
        refine WO.sv rfl ?_
        refine SV.concat rfl rfl (by simp; omega) ?_
        refine go ?_
        refine ⟨i + 1, ⟨?_, ?_, trivial⟩, rfl, by omega, by omega, Ent.app ent⟩
        · show _ = strV _
          rw [app_succ ([k] ++ beN e 8) s i]
          rfl
        · show Value.int _ _ = _
          congr 1
          omega
      · obtain rfl : i = 8 := by omega
        refine go ?_
        exact ⟨2, ⟨rfl, rfl, trivial⟩, rfl, by omega, by omega, Ent.app ent⟩
  · obtain rfl : q = 2 := by omega
    refine go ?_
    exact ⟨rfl, [_], ⟨Res.tmp rfl, trivial⟩, _, ent, rfl, rfl⟩
end Go.SL
