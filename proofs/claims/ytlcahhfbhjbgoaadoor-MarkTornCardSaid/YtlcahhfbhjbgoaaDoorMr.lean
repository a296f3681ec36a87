/- Layer 8: marks: the law MarkOpens, walked. -/
import Derived.Test.YtlcahhfbhjbgoaaDoorMq
import Derived.Test.YtlcahhfbhjbgoaaDoorMo
namespace Go.SL
open Go.Proofs
set_option linter.unusedVariables false
set_option maxRecDepth 10000
set_option maxHeartbeats 4000000
attribute [local irreducible] W WO SV OW SW Tri Ent Tk Has Src SrcK DA DB RdS Own

theorem mk_opens (X : HP) (R : List HP) (a1 : Option Addr) (c1 : Nat) (b : Byt) (y : UInt8)
    (hb1 : b.length ≤ 9223372036854775807) (hc1 : b.length ≤ c1) (r1 : RdS 1 a1 b.length (b.map u8V) [X]) :
    TriE Tryd.prog 5 #[.slice a1 b.length c1, u8V y] (fun v M => v = .bool true ∧ M = X :: R) (X :: R) := by
  have hylt := y.toNat_lt
  refine Tri.of (N := 153) (args := [.slice a1 b.length c1, u8V y]) Tryd.func5 rfl rfl rfl ?_
  by_cases hb : 400 < b.length
  · refine go ?_
    exact ⟨rfl, [_], ⟨Res.tmp rfl, trivial⟩, X :: R, ent, rfl, rfl⟩
  refine go ?_
  refine WO.callE (vs := [.slice a1 b.length c1]) Tryd.func12 rfl rfl rfl rfl (mk_OpenU X a1 c1 b R hb1 hc1 r1) ?_
  rintro v M ⟨a', c', rfl, s', eM⟩
  refine WO.ent eM ?_
  have href := fun L => rm_Open b L
  have hzt : rOK b = true → rZ b = 0 := by intro h; unfold rZ; rw [h]; rfl
  have hzf : rOK b = false → (b.length = 256 → rZ b = 11) ∧ (b.length ≠ 256 → rZ b = 2) := by
    intro h; unfold rZ; rw [h]
    exact ⟨fun g => if_pos g, fun g => if_neg g⟩
  have hok : rOK b = true → b.length = 256 := fun h => (rOK_iff.1 h).1
  generalize rK b = k at *
  generalize rE b = e at *
  generalize rQ b = q at *
  generalize rB b = bs at *
  generalize rZ b = z at *
  generalize rOK b = ok at *
  have hcases : (ok = true ∧ z = 0 ∧ b.length = 256) ∨ (ok = false ∧ z = 11 ∧ b.length = 256) ∨ (ok = false ∧ z = 2 ∧ b.length ≠ 256) := by
    cases ok with
    | true => exact .inl ⟨rfl, hzt rfl, hok rfl⟩
    | false =>
      by_cases g : b.length = 256
      · exact .inr (.inl ⟨rfl, (hzf rfl).1 g, g⟩)
      · exact .inr (.inr ⟨rfl, (hzf rfl).2 g, g⟩)
  clear hzt hzf hok
  refine go ?_
  intro b5
  refine go ?_
  refine WO.sv rfl ?_
  refine SV.toStrR rfl (bs := b) (RdS.ent ent r1) ?_
  refine go ?_
  refine WO.callE (vs := [strV b]) Tryd.func13 rfl rfl rfl rfl (href _) ?_
  rintro v M ⟨rfl, rfl⟩
  refine go ?_
  intro b8
  refine go ?_
  refine W.cut (σ := Unit) 1152921500311879680 rfl (fun _ => [(59, .bool false)]) (fun _ => X :: R) (fun _ => True) ?_ ?_
  · refine W.drawB #[0, 1, 0, 7, 15, 31, 63, 31, 255, 511, 1023, 2047, 4095, 2047, 16383, 32767, 65535, 131071, 262143, 524287, 1048575, 2097151, 1048575, 5242879, 13631487, 33554431, 67108863, 134217727]
      [OS a' c' bs, pts b5 (.cells (mkL k e q).toArray 24), pts b8 (.cells (mkL k e q).toArray 31), X] R rfl (by kernel_rfl) (by kernel_rfl) (by kernel_rfl) ent ?_
    rcases hcases with ⟨rfl, rfl, h256⟩ | ⟨rfl, rfl, h256⟩ | ⟨rfl, rfl, h256⟩
    all_goals
      refine go ?_
      refine DB.callE (vs := [.agg (mkL k e q).toArray]) Tryd.func11 rfl rfl rfl rfl hl hl (l8_own k e q _) ?_
      rintro v M ⟨rfl, rfl⟩
      refine ⟨[], R, ent, ?_⟩
      refine go ?_
      refine DB.q (v := .bool (!true)) rfl rfl hl (SV.neqSt (xs := mkL k e q) (ys := mkL k e q) rfl rfl rfl rfl rfl (sEq_self _) eqq) ?_
      refine go ?_
      refine DB.q (v := strV bs) rfl rfl hl (SV.toStrR rfl (bs := bs) (OS.rd tk s') eqq) ?_
      refine go ?_
      refine DB.q (v := .bool false) rfl rfl hl (SV.neqSF (a := bs) (b := bs) rfl rfl rfl eqq) ?_
      refine go ?_
      refine ⟨X :: R, ent, ⟨(), ⟨rfl, trivial⟩, rfl, trivial, Ent.refl _⟩⟩
  rintro u bg -
  refine go ?_
  refine WO.callE (vs := [.slice a1 b.length c1]) Tryd.func14 rfl rfl rfl rfl (mk_Cover X a1 c1 b R hb1 r1) ?_
  rintro v M (⟨g256, rfl, rfl⟩ | ⟨g256, a3, c3, rfl, s3, rfl⟩)
  · refine go ?_
    refine WO.callE (vs := [.slice a1 b.length c1, u8V y]) Tryd.func15 rfl rfl rfl rfl (mk_Bare X a1 c1 b y R hb1 r1) ?_
    rintro v M (⟨h256, rfl, rfl⟩ | ⟨h256, _⟩ | ⟨h256, _⟩)
    rotate_left
    · exact absurd h256 g256
    · exact absurd h256 g256
    refine go ?_
    refine WO.callE (vs := []) Tryd.func9 rfl rfl rfl rfl (l8_one _) ?_
    rintro v M ⟨rfl, rfl⟩
    refine go ?_
    exact ⟨rfl, [_], ⟨Res.tmp rfl, trivial⟩, X :: R, ent, rfl, rfl⟩
  · have g0 : (b.map u8V)[0]? = some (u8V (b.getD 0 0)) := by simp [show 0 < b.length by omega]
    obtain ⟨b0, o, rfl⟩ := r1.at (by omega)
    have hset : ∀ x : UInt8, b.set 0 x = [x] ++ b.drop 1 := by
      intro x
      cases b with
      | nil => simp at g256
      | cons u t => rfl
    have rsub : RdS 1 (some ⟨b0, o + 1, none⟩) (b.length - 1) ((b.drop 1).map u8V) [X] := by
      have := RdS.sub (i := 1) (k := b.length - 1) r1 (by omega)
      rwa [List.take_of_length_le (by simp), ← List.map_drop] at this
    have hy0 : (b.getD 0 0).toNat < 256 := (b.getD 0 0).toNat_lt
    have hlen : (b.drop 1).length = 255 := by rw [List.length_drop]; omega
    have hl2 : ∀ x : UInt8, (b.set 0 x).length = 256 := fun x => by rw [List.length_set]; exact g256
    have h33 : b.getD 0 0 ≠ 3 → (b.getD 0 0).toNat ≠ 3 := fun h g => h (UInt8.toNat_inj.1 g)
    have h34 : b.getD 0 0 = 3 → (b.getD 0 0).toNat = 3 := fun h => by rw [h]; rfl
    have hcut : ∀ x : UInt8, [x] ++ b.drop 1 = b.set 0 x := fun x => (hset x).symm
    refine go ?_
    refine WO.callE (vs := [.slice (some ⟨b0, o, none⟩) b.length c1, u8V y]) Tryd.func15 rfl rfl rfl rfl (TriE.ent ent (mk_Bare X (some ⟨b0, o, none⟩) c1 b y (OS a3 c3 (b.set 0 3) :: R) hb1 r1)) ?_
    rintro v M (⟨h256, rfl, rfl⟩ | ⟨h256, h3, rfl, rfl⟩ | ⟨h256, h3, a4, c4, rfl, s4, rfl⟩)
    · exact absurd g256 h256
    · have h3n := h33 h3
      refine go ?_
      refine W.drawB #[0, 1, 3, 7, 7, 23, 55, 127, 255, 511, 1023, 2047, 1023, 5119, 13311, 29695, 65535, 131071, 262143, 524287, 1048575, 524287, 2621439, 6815743, 15204351, 33554431, 67108863, 134217727, 268435455, 536870911, 1073741823, 2147483647, 4294967295, 8589934591, 17179869183, 34359738367, 68719476735, 137438953471, 274877906943, 549755813887]
        [OS a3 c3 (b.set 0 3), X] R rfl (by kernel_rfl) (by kernel_rfl) (by kernel_rfl) ent ?_
      refine go ?_
      refine DB.q (v := u8V (b.getD 0 0)) rfl rfl hl (SV.loadR 0 rfl (RdS.ent ent r1) (by omega) g0 eqq) ?_
      refine go ?_
      refine DB.q (v := strV (b.set 0 3)) rfl rfl hl (SV.toStrR rfl (bs := b.set 0 3) (OS.rd tk s3) eqq) ?_
      refine go ?_
      refine DB.q (v := .slice (some ⟨b0, o + 1, none⟩) (b.length - 1) (c1 - 1)) rfl rfl hl ?_ ?_
      · refine SV.cut (l := 1) (h := b.length) rfl (cutAt.of rfl rfl) rfl (by omega) (by omega) ?_
        intro off' ho
        rw [ho (.inl (by omega))]
        exact eqq
      refine go ?_
      refine DB.q (v := strV (b.drop 1)) rfl rfl hl (SV.toStrR rfl (bs := b.drop 1) (RdS.ent ent rsub) eqq) ?_
      refine go ?_
      refine DB.q (v := strV ([3] ++ b.drop 1)) rfl rfl hl (SV.concat (a := [3]) rfl rfl (by simp; omega) eqq) ?_
      refine go ?_
      refine DB.q (v := .bool false) rfl rfl hl (SV.neqSF (a := b.set 0 3) (b := [3] ++ b.drop 1) rfl rfl (hset 3) eqq) ?_
      refine go ?_
      refine DB.q (v := u8V (b.getD 0 0)) rfl rfl hl (SV.loadR 0 rfl (RdS.ent ent r1) (by omega) g0 eqq) ?_
      refine go ?_
      refine ⟨OS a3 c3 (b.set 0 3) :: X :: R, ent, ?_⟩
      refine go ?_
      refine W.drawB #[0, 1, 3, 7, 15, 7, 39, 103, 7, 263, 775, 2023, 4095, 8191, 16383, 32767, 65535, 131071] [OS a3 c3 (b.set 0 3), X] R rfl (by kernel_rfl) (by kernel_rfl) (by kernel_rfl) ent ?_
      refine go ?_
      refine DB.callE (vs := []) Tryd.func9 rfl rfl rfl rfl hl hl (l8_one _) ?_
      rintro v M ⟨rfl, rfl⟩
      refine ⟨[], R, ent, ?_⟩
      refine go ?_
      refine ⟨X :: R, ent, ?_⟩
      refine go ?_
      exact ⟨rfl, [_], ⟨Res.tmp rfl, trivial⟩, X :: R, ent, rfl, rfl⟩
    · have h3n := h34 h3
      refine go ?_
      refine W.drawB #[0, 1, 3, 7, 7, 23, 55, 127, 255, 511, 1023, 2047, 1023, 5119, 13311, 29695, 65535, 131071, 262143, 524287, 1048575, 524287, 2621439, 6815743, 15204351, 33554431, 67108863, 134217727, 268435455, 536870911, 1073741823, 2147483647, 4294967295, 8589934591, 17179869183, 34359738367, 68719476735, 137438953471, 274877906943, 549755813887]
        [OS a4 c4 (b.set 0 y), OS a3 c3 (b.set 0 3), X] R rfl (by kernel_rfl) (by kernel_rfl) (by kernel_rfl) ent ?_
      refine go ?_
      refine DB.q (v := u8V (b.getD 0 0)) rfl rfl hl (SV.loadR 0 rfl (RdS.ent ent r1) (by omega) g0 eqq) ?_
      refine go ?_
      refine DB.q (v := strV (b.set 0 3)) rfl rfl hl (SV.toStrR rfl (bs := b.set 0 3) (OS.rd tk s3) eqq) ?_
      refine go ?_
      refine DB.q (v := .slice (some ⟨b0, o + 1, none⟩) (b.length - 1) (c1 - 1)) rfl rfl hl ?_ ?_
      · refine SV.cut (l := 1) (h := b.length) rfl (cutAt.of rfl rfl) rfl (by omega) (by omega) ?_
        intro off' ho
        rw [ho (.inl (by omega))]
        exact eqq
      refine go ?_
      refine DB.q (v := strV (b.drop 1)) rfl rfl hl (SV.toStrR rfl (bs := b.drop 1) (RdS.ent ent rsub) eqq) ?_
      refine go ?_
      refine DB.q (v := strV ([3] ++ b.drop 1)) rfl rfl hl (SV.concat (a := [3]) rfl rfl (by simp; omega) eqq) ?_
      refine go ?_
      refine DB.q (v := .bool false) rfl rfl hl (SV.neqSF (a := b.set 0 3) (b := [3] ++ b.drop 1) rfl rfl (hset 3) eqq) ?_
      refine go ?_
      refine DB.q (v := u8V (b.getD 0 0)) rfl rfl hl (SV.loadR 0 rfl (RdS.ent ent r1) (by omega) g0 eqq) ?_
      refine go ?_
      refine ⟨OS a4 c4 (b.set 0 y) :: OS a3 c3 (b.set 0 3) :: X :: R, ent, ?_⟩
      refine go ?_
      refine W.drawB #[0, 1, 3, 7, 15, 7, 39, 103, 7, 263, 775, 2023, 4095, 8191, 16383, 32767, 65535, 131071] [OS a4 c4 (b.set 0 y), X] R rfl (by kernel_rfl) (by kernel_rfl) (by kernel_rfl) ent ?_
      refine go ?_
      refine DB.q (v := strV (b.set 0 y)) rfl rfl hl (SV.toStrR rfl (bs := b.set 0 y) (OS.rd tk s4) eqq) ?_
      refine go ?_
      refine DB.lit rfl rfl rfl parts rfl nl rfl rfl ?_
      intro b9
      refine go ?_
      refine DB.q (v := strV [y]) rfl rfl hl (SV.toStrR rfl (bs := [y]) (RdS.all (sz := 1) (n := 1) rfl) eqq) ?_
      refine go ?_
      refine DB.q (v := .slice (some ⟨b0, o + 1, none⟩) (b.length - 1) (c1 - 1)) rfl rfl hl ?_ ?_
      · refine SV.cut (l := 1) (h := b.length) rfl (cutAt.of rfl rfl) rfl (by omega) (by omega) ?_
        intro off' ho
        rw [ho (.inl (by omega))]
        exact eqq
      refine go ?_
      refine DB.q (v := strV (b.drop 1)) rfl rfl hl (SV.toStrR rfl (bs := b.drop 1) (RdS.ent ent rsub) eqq) ?_
      refine go ?_
      refine DB.q (v := strV ([y] ++ b.drop 1)) rfl rfl hl (SV.concat (a := [y]) rfl rfl (by simp; omega) eqq) ?_
      refine go ?_
      refine DB.q (v := .bool true) rfl rfl hl (SV.eqlST (a := b.set 0 y) (b := [y] ++ b.drop 1) rfl rfl (hset y) eqq) ?_
      refine go ?_
      refine DB.callE (vs := []) Tryd.func9 rfl rfl rfl rfl hl hl (l8_one _) ?_
      rintro v M ⟨rfl, rfl⟩
      refine ⟨[], R, ent, ?_⟩
      refine go ?_
      refine ⟨X :: R, ent, ?_⟩
      refine go ?_
      exact ⟨rfl, [_], ⟨Res.tmp rfl, trivial⟩, X :: R, ent, rfl, rfl⟩
end Go.SL
