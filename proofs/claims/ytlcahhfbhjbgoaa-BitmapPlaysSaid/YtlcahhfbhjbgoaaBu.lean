/- Layer 11: what the document's functions do. -/
import Derived.Test.YtlcahhfbhjbgoaaBp
import Derived.Test.YtlcahhfbhjbgoaaBq
namespace Go.SL
open Go.Proofs
set_option linter.unusedVariables false
set_option maxRecDepth 10000
attribute [local irreducible] W WO SV OW SW Tri Ent Tk Has Src SrcK DA DB RdS Own

theorem bitB_none {bs : List Nat} {k : Nat} (h : bs.length ≤ k / 8) : bitB bs k = false := by
  unfold bitB
  rw [List.getD_eq_getElem?_getD, List.getElem?_eq_none h]; simp

theorem rf_Has (a : Option Addr) (c : Nat) (bs : List Nat) (blocks k : Int) (L : List HP) (hl : bs.length ≤ 9223372036854775807) (ok : OkB bs) (hb : blocks ≤ 1000000) (hk : -1000000 ≤ k ∧ k ≤ 1000000) (r : RdS 1 a bs.length (bs.map u8) L) :
    TriE Try.prog 20 #[.slice a bs.length c, .int .i64 blocks, .int .i64 k] (fun v M => v = .bool (decide (0 ≤ k) && (decide (k < blocks) && bitB bs k.toNat)) ∧ M = L) L := by
  refine Tri.of (N := 32) (args := [.slice a bs.length c, .int .i64 blocks, .int .i64 k]) Try.func20 rfl rfl rfl ?_
  refine go ?_
  refine WO.sv rfl ?_
  refine SV.lssC rfl rfl ?_ ?_
  · intro h1
    refine go ?_
    refine ⟨rfl, [_], ⟨Res.tmp rfl, trivial⟩, L, ent, ?_, rfl⟩
    rw [decide_eq_false (show ¬ (0 : Int) ≤ k by omega)]; rfl
  intro h1
  refine go ?_
  refine WO.sv rfl ?_
  refine SV.geqC rfl rfl ?_ ?_
  · intro h2
    refine go ?_
    refine ⟨rfl, [_], ⟨Res.tmp rfl, trivial⟩, L, ent, ?_, rfl⟩
    rw [decide_eq_false (show ¬ k < blocks by omega), Bool.false_and, Bool.and_false]; rfl
  intro h2
  refine go ?_
  refine WO.sv rfl ?_
  refine SV.geqC rfl rfl ?_ ?_
  · intro h3
    refine go ?_
    refine ⟨rfl, [_], ⟨Res.tmp rfl, trivial⟩, L, ent, ?_, rfl⟩
    rw [bitB_none (by omega), Bool.and_false, Bool.and_false]; rfl
  intro h3
  have hj : (k / 8).toNat < bs.length := by omega
  obtain ⟨b, off, rfl⟩ := r.at (by omega)
  refine go ?_
  refine WO.sv rfl ?_
  refine SV.loadR (k / 8).toNat rfl r (by rw [Nat.mul_one]) (getu hj) ?_
  refine go ?_
  refine WO.sv rfl ?_
  refine SV.shr rfl rfl (by omega) (u8_shr (by omega) (by omega)) ?_
  generalize hy : bs.getD (k / 8).toNat 0 / 2 ^ (k % 8).toNat = y
  refine goD ?_
  refine ⟨rfl, [_], ⟨Res.tmp rfl, trivial⟩, L, ent, ?_, rfl⟩
  show Value.bool (decide ((y : Int) % 2 = 1)) = _
  have e1 : (k / 8).toNat = k.toNat / 8 := by omega
  have e2 : (k % 8).toNat = k.toNat % 8 := by omega
  rw [e1, e2] at hy
  rw [decide_eq_true (show (0 : Int) ≤ k by omega), decide_eq_true (show k < blocks by omega), Bool.true_and, Bool.true_and, bitB, Nat.testBit_eq_decide_div_mod_eq, hy]
  congr 1
  exact decide_eq_decide.2 (by omega)

theorem getb {us : List Bool} {j : Nat} (h : j < us.length) : (us.map Value.bool)[j]? = some (.bool (us.getD j false)) := by
  simp [h]
theorem rf_Run (a : Option Addr) (c : Nat) (us : List Bool) (many : Int) (L : List HP) (hl : us.length ≤ 1000000) (r : RdS 1 a us.length (us.map Value.bool) L)
    (hm : -9223372036854775808 ≤ many ∧ many ≤ 9223372036854775807) :
    TriE Try.prog 21 #[.slice a us.length c, .int .i64 many] (fun v M => ∃ x, RunIs (fun k => us.getD k false) us.length many x ∧ v = .int .i64 x ∧ M = L) L := by
  refine Tri.of (N := 35) (args := [.slice a us.length c, .int .i64 many]) Try.func21 rfl rfl rfl ?_
  refine go ?_
  refine WO.sv rfl ?_
  refine SV.lssC rfl rfl ?_ ?_
  · intro h1
    refine go ?_
    exact ⟨rfl, [_], ⟨Res.tmp rfl, trivial⟩, L, ent, -1, .inl ⟨rfl, .inl h1⟩, rfl, rfl⟩
  intro h1
  refine go ?_
  refine W.loopS 34359737968 rfl (fun s : Nat => [(5, .int .i64 s)]) (fun _ => L)
    (fun s => s ≤ us.length ∧ ∀ k : Nat, k < s → (k : Int) + many ≤ us.length → ∃ j : Nat, (j : Int) < many ∧ us.getD (k + j) false = true) (fun s => us.length - s) 0 ⟨rfl, trivial⟩ ⟨Nat.zero_le _, fun k h => absurd h (Nat.not_lt_zero _)⟩ (fun _ _ x => x) ?_
  rintro s bg ⟨hs, hq⟩
  refine go ?_
  refine WO.sv rfl ?_
  refine SV.leqC rfl rfl ?_ ?_
  · intro h2
    obtain ⟨b, off, rfl⟩ := r.at (by omega)
    refine go ?_
    refine W.loopS 2147352640 rfl (fun k : Nat => [(6, .int .i64 k)]) (fun _ => L)
      (fun k => (k : Int) ≤ many ∧ ∀ j : Nat, j < k → us.getD (s + j) false = false) (fun k => many.toNat - k) 0 ⟨rfl, trivial⟩ ⟨by omega, fun k h => absurd h (Nat.not_lt_zero _)⟩ (fun _ _ x => x) ?_
    rintro k bg2 ⟨hk, hf⟩
    refine go ?_
    refine WO.sv rfl ?_
    refine SV.lssC rfl rfl ?_ ?_
    · intro h3
      refine go ?_
      refine WO.sv rfl ?_
      refine SV.loadR (s + k) rfl r (by omega) (getb (by omega)) ?_
      cases hu : us.getD (s + k) false
      · refine go ?_
        refine ⟨k + 1, ⟨by show Value.int .i64 _ = _; congr 1, trivial⟩, rfl, ⟨by omega, fun j hj => ?_⟩, by omega, fun _ _ x => x⟩
        by_cases h : j < k
        · exact hf j h
        · rw [show j = k by omega]; exact hu
      · refine go ?_
        refine ⟨s + 1, ⟨by show Value.int .i64 _ = _; congr 1, trivial⟩, rfl, ⟨by omega, fun i hi hb => ?_⟩, by omega, fun _ _ x => x⟩
        by_cases h : i < s
        · exact hq i h hb
        · exact ⟨k, h3, by rw [show i = s by omega]; exact hu⟩
    · intro h3
      refine go ?_
      refine ⟨rfl, [_], ⟨Res.tmp rfl, trivial⟩, L, ent, s, .inr ⟨by omega, by omega, by omega, fun j hj => ?_, fun k hk => hq k (by omega) (by omega)⟩, rfl, rfl⟩
      rw [Int.toNat_natCast]; exact hf j (by omega)
  · intro h2
    refine go ?_
    refine ⟨rfl, [_], ⟨Res.tmp rfl, trivial⟩, L, ent, -1, .inl ⟨rfl, .inr fun k hk => hq k (by omega) hk⟩, rfl, rfl⟩
end Go.SL
