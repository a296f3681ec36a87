/- Layer 8: marks: opening a block. -/
import Derived.Test.YtlcahhfbhjbgoaaDoorMg
namespace Go.SL
open Go.Proofs
set_option linter.unusedVariables false
set_option maxRecDepth 10000
set_option maxHeartbeats 4000000
attribute [local irreducible] W WO SV OW SW Tri Ent Tk Has Src SrcK DA DB RdS Own

/-- How many bytes a block says it has; the mark at its end; the bytes; whether it is sealed. -/
def opN (s : Byt) : Nat := (s.getD 17 0).toNat * 256 + (s.getD 18 0).toNat
def opT (s : Byt) : Byt := (s.drop 239).take 17
def opB (s : Byt) : Byt := (s.drop 19).take (opN s)
def opZ (s : Byt) : Byt := (s.drop (19 + opN s)).take (220 - opN s)
def opOk (s : Byt) : Bool :=
  mkR (s.getD 0 0) && decide (s.getD 0 0 = (opT s).getD 0 0 ∧ nbe s 1 8 = nbe (opT s) 1 8 ∧ nbe s 9 8 = nbe (opT s) 9 8) && decide (opN s ≤ 220) && decide (∀ x ∈ opZ s, x = 0)
theorem i64_or (a : Nat) (c : UInt8) (ha : a < 65536) : IntKind.wrap .i64 ((((((a * 256 : Nat) : Int)) % 2 ^ IntKind.bits .i64).toNat ||| (((c.toNat : Int)) % 2 ^ IntKind.bits .i64).toNat : Nat) : Int) = ((a * 256 + c.toNat : Nat) : Int) := by
  have hc := c.toNat_lt
  have h1 : (((a * 256 : Nat) : Int) % 2 ^ IntKind.bits .i64).toNat = 2 ^ 8 * a := by
    show (((a * 256 : Nat) : Int) % 18446744073709551616).toNat = _
    omega
  have h2 : ((c.toNat : Int) % 2 ^ IntKind.bits .i64).toNat = c.toNat := by
    show ((c.toNat : Int) % 18446744073709551616).toNat = _
    omega
  rw [h1, h2, ← Nat.two_pow_add_eq_or_of_lt (by omega)]
  rw [show ((2 ^ 8 * a + c.toNat : Nat) : Int) = ((a * 256 + c.toNat : Nat) : Int) by congr 1; omega]
  exact wI
theorem i64_shl8 (a : Nat) (ha : a < 65536) : IntKind.wrap .i64 ((a : Int) * 2 ^ (min (8 : Int).toNat (IntKind.bits .i64))) = ((a * 256 : Nat) : Int) := by
  have : (a : Int) * 2 ^ (min (8 : Int).toNat (IntKind.bits .i64)) = ((a * 256 : Nat) : Int) := by
    show (a : Int) * 256 = _
    omega
  rw [this]
  exact wI

theorem mk_Open (X : HP) (a : Option Addr) (c : Nat) (s : Byt) (R : List HP) (hb : s.length ≤ 9223372036854775807) (hcp : s.length ≤ c) (r : RdS 1 a s.length (s.map u8V) [X]) :
    TriE Tryd.prog 12 #[.slice a s.length c] (fun v M =>
      (s.length ≠ 256 ∧ v = .tuple #[.agg (mkL 0 0 0).toArray, .slice none 0 0, .int .i64 2] ∧ M = X :: R) ∨ (s.length = 256 ∧ opOk s = false ∧ v = .tuple #[.agg (mkL 0 0 0).toArray, .slice none 0 0, .int .i64 11] ∧ M = X :: R) ∨
      (s.length = 256 ∧ opOk s = true ∧ ∃ a' c', v = .tuple #[.agg (mkL (s.getD 0 0) (nbe s 1 8) (nbe s 9 8)).toArray, .slice a' (opB s).length c', .int .i64 0] ∧ SomeA a' (opB s).length ∧ M = OS a' c' (opB s) :: X :: R)) (X :: R) := by
  have rX : ∀ M, RdS 1 a s.length (s.map u8V) (X :: M) := fun M => RdS.ent ent r
  refine Tri.of (N := 52) (args := [.slice a s.length c]) Tryd.func12 rfl rfl rfl ?_
  refine go ?_
  intro b2
  by_cases h256 : s.length ≠ 256
  · refine go ?_
    exact ⟨rfl, [_, _, _], ⟨Res.cell rfl le0 nl, Res.tmp rfl, Res.tmp rfl, trivial⟩, X :: R, ent, .inl ⟨h256, rfl, rfl⟩⟩
  have h2 : s.length = 256 := Classical.not_not.1 h256
  clear h256
  obtain ⟨b, o, rfl⟩ := r.at (by omega)
  have hget : ∀ i, i < 256 → (s.map u8V)[i]? = some (u8V (s.getD i 0)) := fun i hi => by simp [show i < s.length by omega]
  have hc17 := (s.getD 17 0).toNat_lt
  have hc18 := (s.getD 18 0).toNat_lt
  have hread := fun M => mk_read b o s.length c s (X :: M) rfl (by omega) (by omega) (rX M)
  have hT : (opT s).length = s.length - 239 := by simp [opT]; omega
  have hread2 := fun M => mk_read b (o + 239) (s.length - 239) (c - 239) (opT s) (X :: M) hT.symm (by omega) (by omega) (by rw [h2, show 256 - 239 = 17 by decide]; have q := RdS.sub (i := 239) (k := 17) (rX M) (by omega); rw [← List.map_drop, ← List.map_take] at q; exact q)
  have hop : opOk s = (mkR (s.getD 0 0) && decide (s.getD 0 0 = (opT s).getD 0 0 ∧ nbe s 1 8 = nbe (opT s) 1 8 ∧ nbe s 9 8 = nbe (opT s) 9 8) && decide (opN s ≤ 220) && decide (∀ x ∈ opZ s, x = 0)) := rfl
  have hN : opN s ≤ 65535 := by unfold opN; omega
  have hnv : IntKind.wrap .i64 ((((((((s.getD 17 0).toNat * 256 : Nat) : Int)) % 2 ^ IntKind.bits .i64).toNat ||| ((((s.getD 18 0).toNat : Int)) % 2 ^ IntKind.bits .i64).toNat : Nat) : Int)) = ((opN s : Nat) : Int) := i64_or _ _ (by omega)
  have g17 := hget 17 (by decide)
  have g18 := hget 18 (by decide)
  generalize s.getD 17 0 = y17 at *
  generalize s.getD 18 0 = y18 at *
  generalize s.getD 0 0 = k0 at *
  generalize nbe s 1 8 = e1 at *
  generalize nbe s 9 8 = e2 at *
  generalize (opT s).getD 0 0 = k3 at *
  generalize nbe (opT s) 1 8 = e3 at *
  generalize nbe (opT s) 9 8 = e4 at *
  refine go ?_
  refine W.drawB #[0, 1, 0, 4, 12, 28, 60, 0, 128, 384, 896, 2044, 0, 4099, 16383] [X] (pts b2 (.cells [.int .u8 0, .int .u64 0, .int .u64 0].toArray 24) :: R) rfl (by kernel_rfl) (by kernel_rfl) (by kernel_rfl) ent ?_
  refine go ?_
  refine DB.callE (vs := [.slice (some ⟨b, o, none⟩) s.length c]) Tryd.func28 rfl rfl rfl rfl hl hl (hread _) ?_
  rintro v M ⟨rfl, rfl⟩
  refine ⟨[], pts b2 (.cells [.int .u8 0, .int .u64 0, .int .u64 0].toArray 24) :: R, ent, ?_⟩
  refine go ?_
  refine DB.q (v := u8V y17) rfl rfl hl (SV.loadR 17 rfl r (by omega) g17 eqq) ?_
  refine go ?_
  refine DB.q (v := .int .i64 ((y17.toNat * 256 : Nat) : Int)) rfl rfl hl (SV.shl rfl rfl (by decide) (i64_shl8 _ (by omega)) eqq) ?_
  refine go ?_
  refine DB.q (v := u8V y18) rfl rfl hl (SV.loadR 18 rfl r (by omega) g18 eqq) ?_
  refine go ?_
  refine DB.q (v := .int .i64 ((opN s : Nat) : Int)) rfl rfl hl (SV.bor rfl rfl hnv eqq) ?_
  refine go ?_
  refine DB.alloc rfl ?_
  intro b5
  refine go ?_
  refine DB.v rfl rfl rfl hl hl ?_
  refine SV.store rfl rfl cel rfl rfl rfl frz le0 nl ?_
  refine ⟨[], pts b5 (.cells [u8V k0, .int .u64 e1, .int .u64 e2].toArray 24) :: pts b2 (.cells [.int .u8 0, .int .u64 0, .int .u64 0].toArray 24) :: R, ent, ?_⟩
  refine go ?_
  refine ⟨X :: pts b5 (.cells [u8V k0, .int .u64 e1, .int .u64 e2].toArray 24) :: pts b2 (.cells [.int .u8 0, .int .u64 0, .int .u64 0].toArray 24) :: R, ent, ?_⟩
  refine go ?_
  refine W.drawB #[0, 1, 3, 7, 15, 15, 47, 111, 255, 511, 1023, 2047, 4095, 8191, 16383, 32767, 32767, 98303, 262143, 524287, 1048575, 2097151] [X, pts b5 (.cells [u8V k0, .int .u64 e1, .int .u64 e2].toArray 24)] (pts b2 (.cells [.int .u8 0, .int .u64 0, .int .u64 0].toArray 24) :: R) rfl (by kernel_rfl) (by kernel_rfl) (by kernel_rfl) ent ?_
  refine go ?_
  refine DB.callE (vs := [.agg (mkL k0 e1 e2).toArray]) Tryd.func25 rfl rfl rfl rfl hl hl (mk_right k0 e1 e2 _) ?_
  rintro v M ⟨rfl, rfl⟩
  refine ⟨[], pts b2 (.cells [.int .u8 0, .int .u64 0, .int .u64 0].toArray 24) :: R, ent, ?_⟩
  cases hR : mkR k0
  · refine go ?_
    refine ⟨X :: pts b5 (.cells [u8V k0, .int .u64 e1, .int .u64 e2].toArray 24) :: pts b2 (.cells [.int .u8 0, .int .u64 0, .int .u64 0].toArray 24) :: R, ent, ?_⟩
    refine go ?_
    exact ⟨rfl, [_, _, _], ⟨Res.cell rfl le0 nl, Res.tmp rfl, Res.tmp rfl, trivial⟩, X :: R, ent, .inr (.inl ⟨h2, by rw [hop]; rw [hR]; rfl, rfl, rfl⟩)⟩
  refine go ?_
  refine DB.q (v := .slice (some ⟨b, o + 239, none⟩) (s.length - 239) (c - 239)) rfl rfl hl ?_ ?_
  · refine SV.cut (l := 239) (h := s.length) rfl (cutAt.of rfl rfl) rfl (by omega) (by omega) ?_
    intro off' ho
    rw [ho (.inl (by omega))]
    exact eqq
  refine go ?_
  refine DB.callE (vs := [.slice (some ⟨b, o + 239, none⟩) (s.length - 239) (c - 239)]) Tryd.func28 rfl rfl rfl rfl hl hl (hread2 _) ?_
  rintro v M ⟨rfl, rfl⟩
  refine ⟨[], pts b2 (.cells [.int .u8 0, .int .u64 0, .int .u64 0].toArray 24) :: R, ent, ?_⟩
  refine go ?_
  refine DB.q (v := .bool (!decide (k0 = k3 ∧ e1 = e3 ∧ e2 = e4))) rfl rfl hl (SV.neqMk rfl rfl eqq) ?_
  by_cases heq : k0 = k3 ∧ e1 = e3 ∧ e2 = e4
  rotate_left
  · rw [decide_eq_false heq]
    rw [Bool.not_false]
    refine go ?_
    refine ⟨X :: pts b5 (.cells [u8V k0, .int .u64 e1, .int .u64 e2].toArray 24) :: pts b2 (.cells [.int .u8 0, .int .u64 0, .int .u64 0].toArray 24) :: R, ent, ?_⟩
    refine go ?_
    exact ⟨rfl, [_, _, _], ⟨Res.cell rfl le0 nl, Res.tmp rfl, Res.tmp rfl, trivial⟩, X :: R, ent, .inr (.inl ⟨h2, by rw [hop]; rw [decide_eq_false heq, Bool.and_false]; rfl, rfl, rfl⟩)⟩
  rw [decide_eq_true heq]
  rw [Bool.not_true]
  by_cases hle : 220 < opN s
  · refine go ?_
    refine ⟨X :: pts b5 (.cells [u8V k0, .int .u64 e1, .int .u64 e2].toArray 24) :: pts b2 (.cells [.int .u8 0, .int .u64 0, .int .u64 0].toArray 24) :: R, ent, ?_⟩
    refine go ?_
    exact ⟨rfl, [_, _, _], ⟨Res.cell rfl le0 nl, Res.tmp rfl, Res.tmp rfl, trivial⟩, X :: R, ent, .inr (.inl ⟨h2, by rw [hop]; rw [decide_eq_false (show ¬ opN s ≤ 220 by omega), Bool.and_false]; rfl, rfl, rfl⟩)⟩
  have hZl : (opZ s).length = 239 - (19 + opN s) := by simp [opZ]; omega
  have hBl : (opB s).length = opN s := by simp [opB]; omega
  have hzero : ∀ M, TriE Tryd.prog 29 #[.slice (some ⟨b, o + (19 + opN s), none⟩) (239 - (19 + opN s)) (c - (19 + opN s))] (fun v M' => v = .bool (decide (∀ x ∈ opZ s, x = 0)) ∧ M' = X :: M) (X :: M) := fun M => by
    have q := RdS.sub (i := 19 + opN s) (k := 220 - opN s) (rX M) (by omega)
    rw [← List.map_drop, ← List.map_take] at q
    have q2 := mk_zero b (o + (19 + opN s)) (c - (19 + opN s)) (opZ s) (X :: M) (by omega) (by omega) (by rw [hZl, show 239 - (19 + opN s) = 220 - opN s by omega]; exact q)
    rw [hZl] at q2
    exact q2
  have hclone : ∀ M, TriE Tryd.prog 30 #[.slice (some ⟨b, o + 19, none⟩) (19 + opN s - 19) (c - 19)] (fun v M' => ∃ a' c', v = .slice a' (opB s).length c' ∧ SomeA a' (opB s).length ∧ M' = OS a' c' (opB s) :: X :: M) (X :: M) := fun M => by
    have q := RdS.sub (i := 19) (k := opN s) (rX M) (by omega)
    rw [← List.map_drop, ← List.map_take] at q
    have q2 := sl_CloneB (some ⟨b, o + 19, none⟩) (c - 19) (opB s) (X :: M) (by omega) (by rw [hBl]; exact q)
    rw [show 19 + opN s - 19 = (opB s).length by omega]
    exact q2
  clear hnv
  generalize opN s = n at *
  refine go ?_
  refine DB.q (v := .slice (some ⟨b, o + (19 + n), none⟩) (239 - (19 + n)) (c - (19 + n))) rfl rfl hl ?_ ?_
  · refine SV.cut (l := 19 + n) (h := 239) rfl (cutAt.of rfl (by omega)) (cutAt.of rfl rfl) (by omega) (by omega) ?_
    intro off' ho
    rw [ho (.inl (by omega)), Nat.mul_one]
    exact eqq
  refine go ?_
  refine DB.callE (vs := [.slice (some ⟨b, o + (19 + n), none⟩) (239 - (19 + n)) (c - (19 + n))]) Tryd.func29 rfl rfl rfl rfl hl hl (hzero _) ?_
  rintro v M ⟨rfl, rfl⟩
  refine ⟨[], pts b2 (.cells [.int .u8 0, .int .u64 0, .int .u64 0].toArray 24) :: R, ent, ?_⟩
  by_cases hz : ∀ x ∈ opZ s, x = 0
  rotate_left
  · rw [decide_eq_false hz]
    refine go ?_
    refine ⟨X :: pts b5 (.cells [u8V k0, .int .u64 e1, .int .u64 e2].toArray 24) :: pts b2 (.cells [.int .u8 0, .int .u64 0, .int .u64 0].toArray 24) :: R, ent, ?_⟩
    refine go ?_
    exact ⟨rfl, [_, _, _], ⟨Res.cell rfl le0 nl, Res.tmp rfl, Res.tmp rfl, trivial⟩, X :: R, ent, .inr (.inl ⟨h2, by rw [hop]; rw [decide_eq_false hz, Bool.and_false], rfl, rfl⟩)⟩
  rw [decide_eq_true hz]
  refine go ?_
  refine ⟨X :: pts b5 (.cells [u8V k0, .int .u64 e1, .int .u64 e2].toArray 24) :: pts b2 (.cells [.int .u8 0, .int .u64 0, .int .u64 0].toArray 24) :: R, ent, ?_⟩
  refine go ?_
  refine W.drawB #[0, 0, 0, 4, 14, 30, 63, 127, 255] [X, pts b5 (.cells [u8V k0, .int .u64 e1, .int .u64 e2].toArray 24)] (pts b2 (.cells [.int .u8 0, .int .u64 0, .int .u64 0].toArray 24) :: R) rfl (by kernel_rfl) (by kernel_rfl) (by kernel_rfl) ent ?_
  refine go ?_
  refine DB.q (v := .slice (some ⟨b, o + 19, none⟩) (19 + n - 19) (c - 19)) rfl rfl hl ?_ ?_
  · refine SV.cut (l := 19) (h := 19 + n) rfl (cutAt.of rfl rfl) (cutAt.of rfl (by omega)) (by omega) (by omega) ?_
    intro off' ho
    rw [ho (.inl (by omega)), Nat.mul_one]
    exact eqq
  refine go ?_
  refine DB.callE (vs := [.slice (some ⟨b, o + 19, none⟩) (19 + n - 19) (c - 19)]) Tryd.func30 rfl rfl rfl rfl hl hl (hclone _) ?_
  rintro v M ⟨a9, c9, rfl, s9, rfl⟩
  refine ⟨[], OS a9 c9 (opB s) :: pts b2 (.cells [.int .u8 0, .int .u64 0, .int .u64 0].toArray 24) :: R, ent, ?_⟩
  refine go ?_
  refine DB.v rfl rfl rfl hl hl ?_
  refine SV.store rfl rfl cel rfl rfl rfl frz le0 nl ?_
  refine ⟨[], OS a9 c9 (opB s) :: pts b2 (.cells [u8V k0, .int .u64 e1, .int .u64 e2].toArray 24) :: R, ent, ?_⟩
  refine go ?_
  refine ⟨X :: OS a9 c9 (opB s) :: pts b2 (.cells [u8V k0, .int .u64 e1, .int .u64 e2].toArray 24) :: R, ent, ?_⟩
  refine go ?_
  exact ⟨rfl, [_, _, _], ⟨Res.cell rfl le0 nl, Res.tmp rfl, Res.tmp rfl, trivial⟩, OS a9 c9 (opB s) :: X :: R, ent, .inr (.inr ⟨h2, by rw [hop, hR, decide_eq_true heq, decide_eq_true (show n ≤ 220 by omega), decide_eq_true hz]; rfl, a9, c9, rfl, s9, rfl⟩)⟩
end Go.SL
