/- Layer 8: marks: the law MarkBack, walked. -/
import Derived.Test.YtlcahhfbhjbgoaaDoorMk
import Derived.Test.YtlcahhfbhjbgoaaDoorMl
namespace Go.SL
open Go.Proofs
set_option linter.unusedVariables false
set_option maxRecDepth 10000
set_option maxHeartbeats 4000000
attribute [local irreducible] W WO SV OW SW Tri Ent Tk Has Src SrcK DA DB RdS Own

theorem opOk_R {s : Byt} (ok : opOk s = true) : mkR (s.getD 0 0) = true := by
  unfold opOk at ok
  simp only [Bool.and_eq_true] at ok
  exact ok.1.1.1
theorem opB_le {s : Byt} (h : s.length = 256) (ok : opOk s = true) : (opB s).length ≤ 220 := by
  unfold opOk at ok
  simp only [Bool.and_eq_true, decide_eq_true_eq] at ok
  have := ok.1.2
  simp [opB]
  omega
theorem mk_back (X : HP) (R : List HP) (k : UInt8) (e s : Nat) (a1 : Option Addr) (c1 : Nat) (b : Byt) (a2 : Option Addr) (c2 : Nat) (t : Byt) (he : e < 18446744073709551616) (hs : s < 18446744073709551616)
    (hb1 : b.length ≤ 9223372036854775807) (hb2 : t.length ≤ 9223372036854775807) (hc2 : t.length ≤ c2) (r1 : RdS 1 a1 b.length (b.map u8V) (X :: R)) (r2 : RdS 1 a2 t.length (t.map u8V) [X]) :
    TriE Tryd.prog 4 #[.agg (mkL k e s).toArray, .slice a1 b.length c1, .slice a2 t.length c2] (fun v M => v = .bool true ∧ M = X :: R) (X :: R) := by
  have r2' : RdS 1 a2 t.length (t.map u8V) (X :: R) := RdS.ent ent r2
  have hklt := k.toNat_lt
  refine Tri.of (N := 85) (args := [.agg (mkL k e s).toArray, .slice a1 b.length c1, .slice a2 t.length c2]) Tryd.func4 rfl rfl rfl ?_
  dsimp only [mkL]
  by_cases hb : 220 < b.length
  · refine go ?_
    intro b3
    refine go ?_
    exact ⟨rfl, [_], ⟨Res.tmp rfl, trivial⟩, X :: R, ent, rfl, rfl⟩
  by_cases ht : 400 < t.length
  · refine go ?_
    intro b3
    refine go ?_
    exact ⟨rfl, [_], ⟨Res.tmp rfl, trivial⟩, X :: R, ent, rfl, rfl⟩
  refine go ?_
  intro b3
  refine go ?_
  refine WO.callE (vs := [.agg (mkL k e s).toArray, .slice a1 b.length c1]) Tryd.func8 rfl rfl rfl rfl (mk_Seal k e s a1 c1 b _ he hs (by omega) rds) ?_
  rintro v M (⟨hk, rfl, rfl⟩ | ⟨_, h, _⟩ | ⟨hk, _, a', c', rfl, s', hc', rfl⟩)
  · have hkk : k.toNat = 0 ∨ k.toNat = 3 := by
      unfold mkR at hk
      by_cases q : k.toNat = 0
      · exact .inl q
      · refine .inr ?_
        by_cases q3 : k.toNat = 3
        · exact q3
        · rw [decide_eq_false q, decide_eq_false q3] at hk; cases hk
    by_cases q : k.toNat = 0
    · refine go ?_
      refine WO.callE (vs := [.slice a2 t.length c2]) Tryd.func12 rfl rfl rfl rfl (TriE.ent ent (mk_Open X a2 c2 t (pts b3 (.cells [u8V k, .int .u64 e, .int .u64 s].toArray 24) :: R) (by omega) hc2 r2)) ?_
      rintro v M (⟨h4, rfl, rfl⟩ | ⟨h4, h5, rfl, rfl⟩ | ⟨h4, h5, a5, c5, rfl, s5, rfl⟩)
      · refine go ?_
        intro b12
        refine go ?_
        refine WO.callE (vs := []) Tryd.func9 rfl rfl rfl rfl (l8_one _) ?_
        rintro v M ⟨rfl, rfl⟩
        refine go ?_
        exact ⟨rfl, [_], ⟨Res.tmp rfl, trivial⟩, X :: R, ent, rfl, rfl⟩
      · refine go ?_
        intro b12
        refine go ?_
        refine WO.callE (vs := []) Tryd.func9 rfl rfl rfl rfl (l8_one _) ?_
        rintro v M ⟨rfl, rfl⟩
        refine go ?_
        exact ⟨rfl, [_], ⟨Res.tmp rfl, trivial⟩, X :: R, ent, rfl, rfl⟩
      · have hso := seal_open h4 h5
        have hoR := opOk_R h5
        have hoB := opB_le h4 h5
        have n1 := nbe_64 t 1
        have n2 := nbe_64 t 9
        generalize t.getD 0 0 = k' at *
        generalize nbe t 1 8 = e' at *
        generalize nbe t 9 8 = s' at *
        generalize opB t = ob at *
        refine go ?_
        intro b12
        refine go ?_
        refine WO.callE (vs := [.agg (mkL k' e' s').toArray, .slice a5 ob.length c5]) Tryd.func8 rfl rfl rfl rfl (mk_Seal k' e' s' a5 c5 ob _ n1 n2 (by omega) (OS.rd tk s5)) ?_
        rintro v M (⟨h6, _⟩ | ⟨_, h6, _⟩ | ⟨_, _, a6, c6, rfl, s6, _, rfl⟩)
        · rw [hoR] at h6; cases h6
        · omega
        rw [hso] at s6 ⊢
        refine go ?_
        refine WO.sv rfl ?_
        refine SV.toStrR rfl (bs := t) (OS.rd tk s6) ?_
        refine go ?_
        refine WO.sv rfl ?_
        refine SV.toStrR rfl (bs := t) (RdS.ent ent r2) ?_
        refine go ?_
        refine WO.sv rfl ?_
        refine SV.neqSF (a := t) (b := t) rfl rfl rfl ?_
        refine go ?_
        refine WO.callE (vs := []) Tryd.func9 rfl rfl rfl rfl (l8_one _) ?_
        rintro v M ⟨rfl, rfl⟩
        refine go ?_
        exact ⟨rfl, [_], ⟨Res.tmp rfl, trivial⟩, X :: R, ent, rfl, rfl⟩
    · have q3 : k.toNat = 3 := by omega
      refine go ?_
      refine WO.callE (vs := [.slice a2 t.length c2]) Tryd.func12 rfl rfl rfl rfl (TriE.ent ent (mk_Open X a2 c2 t (pts b3 (.cells [u8V k, .int .u64 e, .int .u64 s].toArray 24) :: R) (by omega) hc2 r2)) ?_
      rintro v M (⟨h4, rfl, rfl⟩ | ⟨h4, h5, rfl, rfl⟩ | ⟨h4, h5, a5, c5, rfl, s5, rfl⟩)
      · refine go ?_
        intro b12
        refine go ?_
        refine WO.callE (vs := []) Tryd.func9 rfl rfl rfl rfl (l8_one _) ?_
        rintro v M ⟨rfl, rfl⟩
        refine go ?_
        exact ⟨rfl, [_], ⟨Res.tmp rfl, trivial⟩, X :: R, ent, rfl, rfl⟩
      · refine go ?_
        intro b12
        refine go ?_
        refine WO.callE (vs := []) Tryd.func9 rfl rfl rfl rfl (l8_one _) ?_
        rintro v M ⟨rfl, rfl⟩
        refine go ?_
        exact ⟨rfl, [_], ⟨Res.tmp rfl, trivial⟩, X :: R, ent, rfl, rfl⟩
      · have hso := seal_open h4 h5
        have hoR := opOk_R h5
        have hoB := opB_le h4 h5
        have n1 := nbe_64 t 1
        have n2 := nbe_64 t 9
        generalize t.getD 0 0 = k' at *
        generalize nbe t 1 8 = e' at *
        generalize nbe t 9 8 = s' at *
        generalize opB t = ob at *
        refine go ?_
        intro b12
        refine go ?_
        refine WO.callE (vs := [.agg (mkL k' e' s').toArray, .slice a5 ob.length c5]) Tryd.func8 rfl rfl rfl rfl (mk_Seal k' e' s' a5 c5 ob _ n1 n2 (by omega) (OS.rd tk s5)) ?_
        rintro v M (⟨h6, _⟩ | ⟨_, h6, _⟩ | ⟨_, _, a6, c6, rfl, s6, _, rfl⟩)
        · rw [hoR] at h6; cases h6
        · omega
        rw [hso] at s6 ⊢
        refine go ?_
        refine WO.sv rfl ?_
        refine SV.toStrR rfl (bs := t) (OS.rd tk s6) ?_
        refine go ?_
        refine WO.sv rfl ?_
        refine SV.toStrR rfl (bs := t) (RdS.ent ent r2) ?_
        refine go ?_
        refine WO.sv rfl ?_
        refine SV.neqSF (a := t) (b := t) rfl rfl rfl ?_
        refine go ?_
        refine WO.callE (vs := []) Tryd.func9 rfl rfl rfl rfl (l8_one _) ?_
        rintro v M ⟨rfl, rfl⟩
        refine go ?_
        exact ⟨rfl, [_], ⟨Res.tmp rfl, trivial⟩, X :: R, ent, rfl, rfl⟩
  · omega
  · have hok := sealB_ok (k := k) (e := e) (s := s) (b := b) (by omega) he hs hk
    have hB := sealB_opB (k := k) (e := e) (s := s) (b := b) (by omega)
    have hlen := sealB_len (k := k) (e := e) (s := s) (b := b) (by omega)
    obtain ⟨q1, q2, q3⟩ := mkB_read k e s ([0, UInt8.ofNat b.length] ++ (b ++ (List.replicate (220 - b.length) 0 ++ mkB k e s))) he hs
    have c1' : (sealB k e s b).getD 0 0 = k := q1
    have c2' : nbe (sealB k e s b) 1 8 = e := q2
    have c3' : nbe (sealB k e s b) 9 8 = s := q3
    clear q1 q2 q3
    generalize sealB k e s b = sb at *
    refine go ?_
    refine WO.callE (vs := [.slice a' sb.length c']) Tryd.func12 rfl rfl rfl rfl (mk_Open (OS a' c' sb) a' c' sb _ (by omega) hc' (OS.rd Tk.here s')) ?_
    rintro v M (⟨h, _⟩ | ⟨_, h, _⟩ | ⟨_, _, a7, c7, rfl, s7, rfl⟩)
    · exact absurd hlen h
    · rw [hok] at h; cases h
    rw [c1', c2', c3']
    rw [hB] at s7 ⊢
    refine go ?_
    intro b9
    refine go ?_
    refine WO.sv rfl ?_
    refine SV.neqMk (k := k) (e := e) (s := s) (k' := k) (e' := e) (s' := s) rfl rfl ?_
    rw [decide_eq_true (show k = k ∧ e = e ∧ s = s from ⟨rfl, rfl, rfl⟩), Bool.not_true]
    refine go ?_
    refine WO.sv rfl ?_
    refine SV.toStrR rfl (bs := b) (OS.rd tk s7) ?_
    refine go ?_
    refine WO.sv rfl ?_
    refine SV.toStrR rfl (bs := b) rds ?_
    refine go ?_
    refine WO.sv rfl ?_
    refine SV.neqSF (a := b) (b := b) rfl rfl rfl ?_
    refine go ?_
    refine WO.callE (vs := [.slice a2 t.length c2]) Tryd.func12 rfl rfl rfl rfl (TriE.ent ent (mk_Open X a2 c2 t (pts b3 (.cells [u8V k, .int .u64 e, .int .u64 s].toArray 24) :: R) (by omega) hc2 r2)) ?_
    rintro v M (⟨h4, rfl, rfl⟩ | ⟨h4, h5, rfl, rfl⟩ | ⟨h4, h5, a5, c5, rfl, s5, rfl⟩)
    · refine go ?_
      intro b12
      refine go ?_
      refine WO.callE (vs := []) Tryd.func9 rfl rfl rfl rfl (l8_one _) ?_
      rintro v M ⟨rfl, rfl⟩
      refine go ?_
      exact ⟨rfl, [_], ⟨Res.tmp rfl, trivial⟩, X :: R, ent, rfl, rfl⟩
    · refine go ?_
      intro b12
      refine go ?_
      refine WO.callE (vs := []) Tryd.func9 rfl rfl rfl rfl (l8_one _) ?_
      rintro v M ⟨rfl, rfl⟩
      refine go ?_
      exact ⟨rfl, [_], ⟨Res.tmp rfl, trivial⟩, X :: R, ent, rfl, rfl⟩
    · have hso := seal_open h4 h5
      have hoR := opOk_R h5
      have hoB := opB_le h4 h5
      have n1 := nbe_64 t 1
      have n2 := nbe_64 t 9
      generalize t.getD 0 0 = k' at *
      generalize nbe t 1 8 = e' at *
      generalize nbe t 9 8 = s' at *
      generalize opB t = ob at *
      refine go ?_
      intro b12
      refine go ?_
      refine WO.callE (vs := [.agg (mkL k' e' s').toArray, .slice a5 ob.length c5]) Tryd.func8 rfl rfl rfl rfl (mk_Seal k' e' s' a5 c5 ob _ n1 n2 (by omega) (OS.rd tk s5)) ?_
      rintro v M (⟨h6, _⟩ | ⟨_, h6, _⟩ | ⟨_, _, a6, c6, rfl, s6, _, rfl⟩)
      · rw [hoR] at h6; cases h6
      · omega
      rw [hso] at s6 ⊢
      refine go ?_
      refine WO.sv rfl ?_
      refine SV.toStrR rfl (bs := t) (OS.rd tk s6) ?_
      refine go ?_
      refine WO.sv rfl ?_
      refine SV.toStrR rfl (bs := t) (RdS.ent ent r2) ?_
      refine go ?_
      refine WO.sv rfl ?_
      refine SV.neqSF (a := t) (b := t) rfl rfl rfl ?_
      refine go ?_
      refine WO.callE (vs := []) Tryd.func9 rfl rfl rfl rfl (l8_one _) ?_
      rintro v M ⟨rfl, rfl⟩
      refine go ?_
      exact ⟨rfl, [_], ⟨Res.tmp rfl, trivial⟩, X :: R, ent, rfl, rfl⟩
end Go.SL
