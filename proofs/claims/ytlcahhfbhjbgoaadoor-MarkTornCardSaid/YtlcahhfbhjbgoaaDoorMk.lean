/- Layer 8: marks: the law's known block. -/
import Derived.Test.YtlcahhfbhjbgoaaDoorMj
import Derived.Test.YtlcahhfbhjbgoaaDoorSlI
namespace Go.SL
open Go.Proofs
set_option linter.unusedVariables false
set_option maxRecDepth 10000
set_option maxHeartbeats 4000000
attribute [local irreducible] W WO SV OW SW Tri Ent Tk Has Src SrcK DA DB RdS Own

theorem get_u8 {s : Byt} {i : Nat} {x : UInt8} (h : s[i]? = some x) : (s.map u8V)[i]? = some (u8V x) := by rw [List.getElem?_map, h]; rfl
theorem l8_one (L : List HP) : TriE Tryd.prog 9 #[] (fun v M => v = .bool true ∧ M = L) L := by
  have g18 : (sealB 1 2 3 [97, 98])[18]? = some 2 := by decide +kernel
  have g19 : (sealB 1 2 3 [97, 98])[19]? = some 97 := by decide +kernel
  have g255 : (sealB 1 2 3 [97, 98])[255]? = some 3 := by decide +kernel
  have hlen : (sealB 1 2 3 [97, 98]).length = 256 := sealB_len (by decide)
  have hok : opOk (sealB 1 2 3 [97, 98]) = true := sealB_ok (by decide) (by decide) (by decide) (by decide)
  have hB : opB (sealB 1 2 3 [97, 98]) = [97, 98] := sealB_opB (by decide)
  obtain ⟨q1, q2, q3⟩ := mkB_read 1 2 3 ([0, UInt8.ofNat ([97, 98] : Byt).length] ++ (([97, 98] : Byt) ++ (List.replicate (220 - ([97, 98] : Byt).length) 0 ++ mkB 1 2 3))) (by decide) (by decide)
  have c1 : (sealB 1 2 3 [97, 98]).getD 0 0 = 1 := q1
  have c2 : nbe (sealB 1 2 3 [97, 98]) 1 8 = 2 := q2
  have c3 : nbe (sealB 1 2 3 [97, 98]) 9 8 = 3 := q3
  clear q1 q2 q3
  refine Tri.of (N := 60) (args := []) Tryd.func9 rfl rfl rfl ?_
  refine go ?_
  intro b1
  refine go ?_
  refine WO.sv rfl ?_
  refine SV.lit rfl rfl rfl parts rfl nl ?_
  intro b2
  refine go ?_
  refine WO.sv rfl ?_
  refine SV.convSame rfl ?_
  refine go ?_
  refine WO.callE (vs := [.agg (mkL 1 2 3).toArray, .slice (some ⟨b2, 0, none⟩) 2 2]) Tryd.func8 rfl rfl rfl rfl (mk_Seal 1 2 3 (some ⟨b2, 0, none⟩) 2 [97, 98] _ (by decide) (by decide) (by decide) (RdS.all (sz := 1) (n := 2) rfl)) ?_
  rintro v M (⟨h, _⟩ | ⟨_, h, _⟩ | ⟨_, _, a', c', rfl, s', hc', rfl⟩)
  · exact absurd h (by decide)
  · exact absurd h (by decide)
  generalize sealB 1 2 3 [97, 98] = sb at *
  refine go ?_
  refine WO.callE (vs := [.slice a' sb.length c']) Tryd.func12 rfl rfl rfl rfl (mk_Open (OS a' c' sb) a' c' sb _ (by omega) hc' (OS.rd Tk.here s')) ?_
  rintro v M (⟨h, _⟩ | ⟨_, h, _⟩ | ⟨_, _, a5, c5, rfl, s5, rfl⟩)
  · exact absurd hlen h
  · rw [hok] at h; cases h
  rw [c1, c2, c3]
  rw [hB] at s5 ⊢
  obtain ⟨bb, rfl⟩ := s' (by omega)
  refine go ?_
  intro b4
  refine go ?_
  refine WO.sv rfl ?_
  refine SV.eqlMk (k := 1) (e := 2) (s := 3) (k' := 1) (e' := 2) (s' := 3) rfl rfl ?_
  rw [decide_eq_true (show (1 : UInt8) = 1 ∧ 2 = 2 ∧ 3 = 3 from ⟨rfl, rfl, rfl⟩)]
  refine go ?_
  refine WO.sv rfl ?_
  refine SV.toStrR rfl (bs := [97, 98]) (OS.rd tk s5) ?_
  refine go ?_
  refine WO.sv rfl ?_
  refine SV.eqlST (a := [97, 98]) (b := [97, 98]) rfl rfl rfl ?_
  refine go ?_
  refine WO.sv rfl ?_
  refine SV.loadR 18 rfl (OS.rd tk s') (by omega) (get_u8 g18) ?_
  refine go ?_
  refine WO.sv rfl ?_
  refine SV.loadR 19 rfl (OS.rd tk s') (by omega) (get_u8 g19) ?_
  refine go ?_
  refine WO.sv rfl ?_
  refine SV.loadR 255 rfl (OS.rd tk s') (by omega) (get_u8 g255) ?_
  refine go ?_
  exact ⟨rfl, [_], ⟨Res.tmp rfl, trivial⟩, L, ent, rfl, rfl⟩
end Go.SL
