/- Layer 8: marks: covering and baring. -/
import Derived.Test.YtlcahhfbhjbgoaaDoorMp
import Derived.Test.YtlcahhfbhjbgoaaDoorMk
namespace Go.SL
open Go.Proofs
set_option linter.unusedVariables false
set_option maxRecDepth 10000
set_option maxHeartbeats 4000000
attribute [local irreducible] W WO SV OW SW Tri Ent Tk Has Src SrcK DA DB RdS Own

theorem mk_Cover (X : HP) (a : Option Addr) (c : Nat) (s : Byt) (R : List HP) (hb : s.length ≤ 9223372036854775807) (r : RdS 1 a s.length (s.map u8V) [X]) :
    TriE Tryd.prog 14 #[.slice a s.length c] (fun v M =>
      (s.length ≠ 256 ∧ v = .tuple #[.slice none 0 0, u8V 0, .int .i64 2] ∧ M = X :: R) ∨
      (s.length = 256 ∧ ∃ a' c', v = .tuple #[.slice a' (s.set 0 3).length c', u8V (s.getD 0 0), .int .i64 0] ∧ SomeA a' (s.set 0 3).length ∧ M = OS a' c' (s.set 0 3) :: X :: R)) (X :: R) := by
  refine Tri.of (N := 17) (args := [.slice a s.length c]) Tryd.func14 rfl rfl rfl ?_
  refine go ?_
  by_cases h256 : s.length ≠ 256
  · refine go ?_
    exact ⟨rfl, [_, _, _], ⟨Res.tmp rfl, Res.tmp rfl, Res.tmp rfl, trivial⟩, X :: R, ent, .inl ⟨h256, rfl, rfl⟩⟩
  have h2 : s.length = 256 := Classical.not_not.1 h256
  have g0 : (s.map u8V)[0]? = some (u8V (s.getD 0 0)) := by simp [show 0 < s.length by omega]
  obtain ⟨b, o, rfl⟩ := r.at (by omega)
  refine go ?_
  refine WO.callE (vs := [.slice (some ⟨b, o, none⟩) s.length c]) Tryd.func30 rfl rfl rfl rfl (sl_CloneB (some ⟨b, o, none⟩) c s (X :: R) (by omega) (RdS.ent ent r)) ?_
  rintro v M ⟨a', c', rfl, ha', rfl⟩
  obtain ⟨b', rfl⟩ := ha' (by omega)
  refine go ?_
  unfold OS
  refine WO.sv rfl ?_
  refine SV.storeB 0 (u := 3) rfl tk rfl rfl (by omega) rfl ?_
  refine go ?_
  refine W.drawA rfl (by kernel_rfl) (by kernel_rfl) ?_
  refine go ?_
  refine DA.q (v := u8V (s.getD 0 0)) rfl rfl (SV.loadR 0 rfl (RdS.ent ent r) (by omega) g0 eqq) ?_
  refine go ?_
  refine ⟨rfl, [_, _, _], ⟨Res.tmp rfl, Res.tmp rfl, Res.tmp rfl, trivial⟩, _, Ent.refl _, .inr ⟨h2, some ⟨b', 0, none⟩, c', ?_, fun _ => ⟨b', rfl⟩, ?_⟩⟩
  · rw [List.length_set]; rfl
  · rw [List.length_set]
theorem mk_Bare (X : HP) (a : Option Addr) (c : Nat) (s : Byt) (y : UInt8) (R : List HP) (hb : s.length ≤ 9223372036854775807) (r : RdS 1 a s.length (s.map u8V) [X]) :
    TriE Tryd.prog 15 #[.slice a s.length c, u8V y] (fun v M =>
      (s.length ≠ 256 ∧ v = .tuple #[.slice none 0 0, .int .i64 2] ∧ M = X :: R) ∨ (s.length = 256 ∧ s.getD 0 0 ≠ 3 ∧ v = .tuple #[.slice none 0 0, .int .i64 11] ∧ M = X :: R) ∨
      (s.length = 256 ∧ s.getD 0 0 = 3 ∧ ∃ a' c', v = .tuple #[.slice a' (s.set 0 y).length c', .int .i64 0] ∧ SomeA a' (s.set 0 y).length ∧ M = OS a' c' (s.set 0 y) :: X :: R)) (X :: R) := by
  refine Tri.of (N := 22) (args := [.slice a s.length c, u8V y]) Tryd.func15 rfl rfl rfl ?_
  refine go ?_
  by_cases h256 : s.length ≠ 256
  · refine go ?_
    exact ⟨rfl, [_, _], ⟨Res.tmp rfl, Res.tmp rfl, trivial⟩, X :: R, ent, .inl ⟨h256, rfl, rfl⟩⟩
  have h2 : s.length = 256 := Classical.not_not.1 h256
  have g0 : (s.map u8V)[0]? = some (u8V (s.getD 0 0)) := by simp [show 0 < s.length by omega]
  obtain ⟨b, o, rfl⟩ := r.at (by omega)
  refine go ?_
  refine WO.sv rfl ?_
  refine SV.loadR 0 rfl (RdS.ent ent r) (by omega) g0 ?_
  have hy : ∀ x : UInt8, x.toNat = 3 → x = 3 := fun x h => UInt8.toNat_inj.1 h
  by_cases h3 : (s.getD 0 0).toNat = 3
  · have h3' := hy _ h3
    refine go ?_
    refine WO.callE (vs := [.slice (some ⟨b, o, none⟩) s.length c]) Tryd.func30 rfl rfl rfl rfl (sl_CloneB (some ⟨b, o, none⟩) c s (X :: R) (by omega) (RdS.ent ent r)) ?_
    rintro v M ⟨a', c', rfl, ha', rfl⟩
    obtain ⟨b', rfl⟩ := ha' (by omega)
    refine go ?_
    unfold OS
    refine WO.sv rfl ?_
    refine SV.storeB 0 (u := y) rfl tk rfl rfl (by omega) rfl ?_
    refine go ?_
    refine ⟨rfl, [_, _], ⟨Res.tmp rfl, Res.tmp rfl, trivial⟩, _, Ent.refl _, .inr (.inr ⟨h2, h3', some ⟨b', 0, none⟩, c', ?_, fun _ => ⟨b', rfl⟩, ?_⟩)⟩
    · rw [List.length_set]; rfl
    · rw [List.length_set]
  · refine go ?_
    exact ⟨rfl, [_, _], ⟨Res.tmp rfl, Res.tmp rfl, trivial⟩, X :: R, ent, .inr (.inl ⟨h2, fun h => h3 (by rw [h]; rfl), rfl, rfl⟩)⟩
end Go.SL
