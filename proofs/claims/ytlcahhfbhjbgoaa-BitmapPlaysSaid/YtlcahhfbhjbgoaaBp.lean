/- Layer 11: what its functions do (4): the runs. -/
import Derived.Test.YtlcahhfbhjbgoaaBk
import Derived.Test.YtlcahhfbhjbgoaaSlD
namespace Go.SL
open Go.Proofs
set_option linter.unusedVariables false
set_option maxRecDepth 10000
attribute [local irreducible] W WO SV OW SW Tri Ent Tk Has Src SrcK DA DB RdS Own

/-- r is the least run of so many that p lets free (-1: there is none). -/
def RunIs (p : Nat → Bool) (n : Nat) (many r : Int) : Prop :=
  (r = -1 ∧ (many < 1 ∨ ∀ k : Nat, (k : Int) + many ≤ n → ∃ j : Nat, (j : Int) < many ∧ p (k + j) = true)) ∨
  (0 ≤ r ∧ 1 ≤ many ∧ r + many ≤ n ∧ (∀ j : Nat, (j : Int) < many → p (r.toNat + j) = false) ∧ ∀ k : Nat, (k : Int) < r → ∃ j : Nat, (j : Int) < many ∧ p (k + j) = true)

theorem bm_Run (a : Option Addr) (c : Nat) (bs : List Nat) (n : Nat) (many : Int) (L : List HP) (h0 : bs.length ≤ 1000) (hn : n ≤ 8 * bs.length) (ok : OkB bs) (r : RdS 1 a bs.length (bs.map u8) L)
    (hm : -9223372036854775808 ≤ many ∧ many ≤ 9223372036854775807) :
    TriE Try.prog 11 #[BV a c bs n, .int .i64 many] (fun v M => ∃ x, RunIs (bitB bs) n many x ∧ v = .int .i64 x ∧ M = L) L := by
  refine Tri.of (N := 31) (args := [BV a c bs n, .int .i64 many]) Try.func11 rfl rfl rfl ?_
  refine go ?_
  intro b2
  refine go ?_
  refine W.scope ?_
  refine go ?_
  refine WO.sv rfl ?_
  refine SV.lssC rfl rfl ?_ ?_
  · intro h1
    refine go ?_
    exact ⟨rfl, [_], ⟨Res.tmp rfl, trivial⟩, L, ent, -1, .inl ⟨rfl, .inl h1⟩, rfl, rfl⟩
  intro h1
  refine go ?_
  refine W.loopS 2147483248 rfl (fun s : Nat => [(5, .int .i64 s)]) (fun _ => pts b2 (.cells [Value.slice a bs.length c, .int .i64 n].toArray 24) :: L)
    (fun s => s ≤ n ∧ ∀ k : Nat, k < s → (k : Int) + many ≤ n → ∃ j : Nat, (j : Int) < many ∧ bitB bs (k + j) = true) (fun s => n - s) 0 ⟨rfl, trivial⟩ ⟨Nat.zero_le _, fun k h => absurd h (Nat.not_lt_zero _)⟩ (fun _ _ x => x) ?_
  rintro s bg ⟨hs, hq⟩
  refine go ?_
  refine WO.sv rfl ?_
  refine SV.leqC rfl rfl ?_ ?_
  · intro h2
    refine go ?_
    refine W.loopS 1073479776 rfl (fun k : Nat => [(5, .int .i64 s), (18, .int .i64 k)]) (fun _ => pts b2 (.cells [Value.slice a bs.length c, .int .i64 n].toArray 24) :: L)
      (fun k => (k : Int) ≤ many ∧ ∀ j : Nat, j < k → bitB bs (s + j) = false) (fun k => many.toNat - k) 0 ⟨rfl, rfl, trivial⟩ ⟨by omega, fun k h => absurd h (Nat.not_lt_zero _)⟩ (fun _ _ x => x) ?_
    rintro k bg2 ⟨hk, hf⟩
    refine go ?_
    refine WO.sv rfl ?_
    refine SV.lssC rfl rfl ?_ ?_
    · intro h3
      refine go ?_
      refine WO.callE (vs := [BV a c bs n, .int .i64 (s + k)]) Try.func15 rfl rfl rfl rfl (bm_Has a c bs n (s + k) _ h0 hn ok (RdS.cons r)) ?_
      rintro v M ⟨rfl, rfl⟩
      have hh : hasB bs n (s + k) = bitB bs (s + k) := by
        unfold hasB
        rw [decide_eq_true (by omega), decide_eq_true (by omega), Bool.true_and, Bool.true_and]; congr 1
      rw [hh]
      refine go ?_
      refine W.cond rfl (fun e => ?_) (fun e => ?_)
      · refine go ?_
        refine ⟨s + k + 1, ⟨by show Value.int .i64 _ = _; congr 1, trivial⟩, rfl, ⟨by omega, fun i hi hb => ?_⟩, by omega, fun _ _ x => x⟩
        by_cases h : i < s
        · exact hq i h hb
        · refine ⟨s + k - i, by omega, ?_⟩
          rw [show i + (s + k - i) = s + k by omega]; exact e
      · refine go ?_
        refine ⟨k + 1, ⟨rfl, by show Value.int .i64 _ = _; congr 1, trivial⟩, rfl, ⟨by omega, fun j hj => ?_⟩, by omega, fun _ _ x => x⟩
        by_cases h : j < k
        · exact hf j h
        · rw [show j = k by omega]; exact e
    · intro h3
      refine go ?_
      refine ⟨rfl, [_], ⟨Res.tmp rfl, trivial⟩, L, ent, s, .inr ⟨by omega, by omega, by omega, fun j hj => ?_, fun k hk => hq k (by omega) (by omega)⟩, rfl, rfl⟩
      rw [Int.toNat_natCast]; exact hf j (by omega)
  · intro h2
    refine go ?_
    refine ⟨rfl, [_], ⟨Res.tmp rfl, trivial⟩, L, ent, -1, .inl ⟨rfl, .inr fun k hk => hq k (by omega) hk⟩, rfl, rfl⟩
end Go.SL
