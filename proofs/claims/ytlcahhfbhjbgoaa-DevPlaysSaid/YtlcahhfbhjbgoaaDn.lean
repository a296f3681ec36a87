/- Layer 7: the law DevNobody, walked. -/
import Derived.Test.YtlcahhfbhjbgoaaDl
namespace Go.SL
open Go.Proofs
set_option linter.unusedVariables false
set_option maxRecDepth 10000
attribute [local irreducible] W WO SV OW SW Tri Ent Tk Has Src SrcK DA DB RdS Own

theorem dv_LenH (b : Nat) (d : Dv) (R : List HP) : TriE Try.prog 46 #[.pointer (some ⟨b, 0, none⟩)] (fun v M => v = .int .i64 d.kept.length ∧ M = DevH b d :: R) (DevH b d :: R) := by
  refine DevH.opens fun x h1 h2 h3 => ?_
  have hc := DevH.close (b := b) (R := R) x h1 h2 h3 (Ent.refl _)
  obtain ⟨ka, kc, na, nc, wa, wc⟩ := x
  simp only [dvL, List.cons_append, List.nil_append] at hc ⊢
  refine Tri.mono (dv_Len b d.kept.length kc ka _ _ _ _ _ _ (RdS.all rfl)) ?_
  rintro v L' ⟨M, e, rfl, rfl⟩
  exact ⟨_, Ent.trans e hc, rfl, rfl⟩

theorem nobody (n : Int) (L : List HP) (hn : -9223372036854775808 ≤ n ∧ n ≤ 9223372036854775807) : TriE Try.prog 9 #[.int .i64 n] (fun v M => v = .bool true ∧ M = L) L := by
  refine Tri.of (N := 68) (args := [.int .i64 n]) Try.func9 rfl rfl rfl ?_
  refine go ?_
  refine W.loopS 147573952589676412924 rfl (fun i : Nat => [(3, .int .i64 i)]) (fun _ => L) (fun i => i ≤ 2) (fun i => 2 - i) 0 ⟨rfl, trivial⟩ (by omega) (Ent.app (Ent.refl _)) ?_
  intro i bg hi
  refine go ?_
  refine WO.sv rfl ?_
  refine SV.lssC rfl rfl ?_ ?_
  · intro hlt
    by_cases h0 : i = 0
    · subst h0
      refine go ?_
      intro b
      refine go ?_
      refine WO.ent (DevH.zero b L) ?_
      have hArm := dv_Arm b Dv.zero n L hn.2
      rw [if_pos (show Dv.zero.kept.length = 0 from rfl)] at hArm
      refine WO.callE (vs := [.pointer (some ⟨b, 0, none⟩), .int .i64 n]) Try.func47 rfl rfl rfl rfl hArm ?_
      rintro v M rfl
      refine go ?_
      refine WO.sv rfl ?_
      refine SV.lit rfl rfl rfl parts rfl nl ?_
      intro b2
      have hFall := dv_Fall b Dv.zero (some ⟨b2, 0, none⟩) 1 [n] (pts b2 (.cells [Value.int .i64 n].toArray 3) :: L) Dv.zero_ok (by decide) (by simp) (RdS.all rfl)
      rw [show Dv.zero.fall [n] = Dv.zero from rfl] at hFall
      refine WO.callE (vs := [.pointer (some ⟨b, 0, none⟩), .slice (some ⟨b2, 0, none⟩) 1 1]) Try.func41 rfl rfl rfl rfl (TriE.ent ent hFall) ?_
      rintro v M rfl
      refine go ?_
      refine WO.callE (vs := [.pointer (some ⟨b, 0, none⟩), .int .i64 n]) Try.func40 rfl rfl rfl rfl (dv_Read b Dv.zero n _ Dv.zero_ok) ?_
      rintro v M (⟨_, rfl, rfl⟩ | ⟨h, _⟩)
      rotate_left
      · cases h
      rw [show Dv.zero.read n = (Dv.zero, 1) from rfl]
      refine go ?_
      refine WO.callE (vs := [u8V 1]) Try.func37 rfl rfl rfl rfl (l7_BlockR 1 _) ?_
      rintro v M ⟨a1, c1, rfl, s1, rfl⟩
      have hWr := dv_Write b Dv.zero n a1 c1 (rep 1) (OS a1 c1 (rep 1) :: L) Dv.zero_ok (by decide) (by decide) (OS.rd tk s1)
      rw [show Dv.zero.put n (rep 1) = (Dv.zero, 1) from rfl] at hWr
      refine go ?_
      refine WO.callE (vs := [.pointer (some ⟨b, 0, none⟩), .int .i64 n, .slice a1 (rep 1).length c1]) Try.func36 rfl rfl rfl rfl (TriE.ent ent hWr) ?_
      rintro v M ⟨rfl, rfl⟩
      refine go ?_
      have hFl := dv_Flush b Dv.zero (OS a1 c1 (rep 1) :: L) Dv.zero_ok (by decide)
      rw [show Dv.zero.flush = (Dv.zero, 1) from rfl] at hFl
      refine WO.callE (vs := [.pointer (some ⟨b, 0, none⟩)]) Try.func38 rfl rfl rfl rfl hFl ?_
      rintro v M ⟨rfl, rfl⟩
      refine go ?_
      refine WO.callE (vs := [.pointer (some ⟨b, 0, none⟩)]) Try.func46 rfl rfl rfl rfl (dv_LenH b Dv.zero _) ?_
      rintro v M ⟨rfl, rfl⟩
      refine go ?_
      refine WO.callE (vs := [.pointer (some ⟨b, 0, none⟩)]) Try.func53 rfl rfl rfl rfl (dv_Ops b Dv.zero _) ?_
      rintro v M ⟨rfl, rfl⟩
      rw [if_pos (show Dv.zero.kept.length = 0 from rfl)]
      refine go ?_
      refine WO.callE (vs := [.pointer (some ⟨b, 0, none⟩)]) Try.func42 rfl rfl rfl rfl (dv_Waiting b Dv.zero _) ?_
      rintro v M ⟨rfl, rfl⟩
      rw [if_pos (show Dv.zero.kept.length = 0 from rfl), show (Dv.zero.kept.length : Int) = 0 from rfl]
      refine go ?_
      refine WO.callE (vs := [.pointer (some ⟨b, 0, none⟩)]) Try.func43 rfl rfl rfl rfl (dv_Down b Dv.zero _) ?_
      rintro v M ⟨rfl, rfl⟩
      rw [show (!decide (Dv.zero.kept.length = 0) && Dv.zero.down) = false from rfl]
      refine go ?_
      refine WO.callE (vs := [.pointer (some ⟨b, 0, none⟩)]) Try.func39 rfl rfl rfl rfl (dv_Clone b Dv.zero _ Dv.zero_ok (by decide)) ?_
      rintro v M (⟨_, rfl, rfl⟩ | ⟨h, _⟩)
      rotate_left
      · exact absurd rfl h
      refine go ?_
      exact ⟨1, ⟨rfl, trivial⟩, rfl, by omega, by omega, Ent.app ent⟩
    · obtain rfl : i = 1 := by omega
      refine go ?_
      intro b
      refine go ?_
      refine WO.callE (vs := [.pointer none, .int .i64 n]) Try.func47 rfl rfl rfl rfl (dv_Arm0 n _) ?_
      rintro v M rfl
      refine go ?_
      refine WO.sv rfl ?_
      refine SV.lit rfl rfl rfl parts rfl nl ?_
      intro b2
      refine WO.callE (vs := [.pointer none, .slice (some ⟨b2, 0, none⟩) 1 1]) Try.func41 rfl rfl rfl rfl (dv_Fall0 _ _) ?_
      rintro v M rfl
      refine go ?_
      refine WO.callE (vs := [.pointer none, .int .i64 n]) Try.func40 rfl rfl rfl rfl (dv_Read0 n _) ?_
      rintro v M ⟨rfl, rfl⟩
      refine go ?_
      refine WO.callE (vs := [u8V 1]) Try.func37 rfl rfl rfl rfl (l7_BlockR 1 _) ?_
      rintro v M ⟨a1, c1, rfl, s1, rfl⟩
      refine go ?_
      refine WO.callE (vs := [.pointer none, .int .i64 n, .slice a1 (rep 1).length c1]) Try.func36 rfl rfl rfl rfl (dv_Write0 n _ _) ?_
      rintro v M ⟨rfl, rfl⟩
      refine go ?_
      refine WO.callE (vs := [.pointer none]) Try.func38 rfl rfl rfl rfl (dv_Flush0 _) ?_
      rintro v M ⟨rfl, rfl⟩
      refine go ?_
      refine WO.callE (vs := [.pointer none]) Try.func46 rfl rfl rfl rfl (dv_Len0 _) ?_
      rintro v M ⟨rfl, rfl⟩
      refine go ?_
      refine WO.callE (vs := [.pointer none]) Try.func53 rfl rfl rfl rfl (dv_Ops0 _) ?_
      rintro v M ⟨rfl, rfl⟩
      refine go ?_
      refine WO.callE (vs := [.pointer none]) Try.func42 rfl rfl rfl rfl (dv_Waiting0 _) ?_
      rintro v M ⟨rfl, rfl⟩
      refine go ?_
      refine WO.callE (vs := [.pointer none]) Try.func43 rfl rfl rfl rfl (dv_Down0 _) ?_
      rintro v M ⟨rfl, rfl⟩
      refine go ?_
      refine WO.callE (vs := [.pointer none]) Try.func39 rfl rfl rfl rfl (dv_Clone0 _) ?_
      rintro v M ⟨rfl, rfl⟩
      refine go ?_
      exact ⟨2, ⟨rfl, trivial⟩, rfl, by omega, by omega, Ent.app ent⟩
  · intro hlt
    refine go ?_
    refine WO.callE (vs := []) Try.func44 rfl rfl rfl rfl (l7_one _) ?_
    rintro v M ⟨rfl, rfl⟩
    refine go ?_
    exact ⟨rfl, [_], ⟨Res.tmp rfl, trivial⟩, _, ent, rfl, rfl⟩
end Go.SL
