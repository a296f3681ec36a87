/- Layer 7: the document's device: Flush, Fall, each walked once. -/
import Derived.Test.YtlcahhfbhjbgoaaDr
namespace Go.SL
open Go.Proofs
set_option linter.unusedVariables false
set_option maxRecDepth 10000
set_option maxHeartbeats 4000000
attribute [local irreducible] W WO SV OW SW Tri Ent Tk Has Src SrcK DA DB RdS Own

theorem rf_Flush (ka : Option Addr) (kc : Nat) (aa : Option Addr) (ac : Nat) (ba : Option Addr) (bc : Nat) (d : Dv) (L : List HP) (ok : d.Ok) (hw : d.waits.length ≤ 1000000)
    (rk : RdS 1 ka d.kept.length (d.kept.map strV) L) (ra : RdS 1 aa d.waits.length (ats d) L) (rb : RdS 1 ba d.waits.length (bts d) L) :
    TriE Try.prog 52 #[.agg (rvL ka kc aa ac ba bc d).toArray]
      (fun v M => ∃ ka' kc', v = .agg (rvL ka' kc' none 0 none 0 { d with kept := flushN d.kept d.waits d.waits.length, waits := [] }).toArray ∧ SomeA ka' d.kept.length ∧
        M = Own 9 1 (.slice ka' d.kept.length kc') d.kept.length ((flushN d.kept d.waits d.waits.length).map strV) :: L) L := by
  have hlk := flushN_len d.kept d.waits
  have hsz := ok.size
  refine Tri.of (N := 40) (args := [.agg (rvL ka kc aa ac ba bc d).toArray]) Try.func52 rfl rfl rfl ?_
  refine go ?_
  intro b1
  refine go ?_
  intro b2
  refine go ?_
  refine WO.sv rfl ?_
  refine SV.lit0 ?_
  intro b3
  refine go ?_
  refine WO.ent (ent_own (sz := 1) (n := 0) rfl) ?_
  refine WO.sv rfl ?_
  refine SV.append rfl rfl rfl tk (RdS.src (RdS.cons (RdS.cons rk))) (by simp) (by simp [strV, isCell]) (by omega) rfl ?_
  intro a8 c8 h8
  rw [Nat.zero_add] at h8
  rw [Nat.zero_add d.kept.length, List.nil_append]
  refine go ?_
  refine W.loopS 34359737872 rfl (fun i : Nat => [(4, .int .i64 i)]) (fun i => Own 9 1 (.slice a8 d.kept.length c8) d.kept.length ((flushN d.kept d.waits i).map strV) :: pts b2 (.cells [Value.slice none 0 0, Value.slice none 0 0, Value.slice none 0 0, Value.int .i64 0, Value.bool false, Value.int .i64 0].toArray 80) ::
      pts b1 (.cells [Value.slice ka d.kept.length kc, Value.slice aa d.waits.length ac, Value.slice ba d.waits.length bc, Value.int .i64 d.arm, Value.bool d.down, Value.int .i64 d.ops].toArray 80) :: L) (fun i => i ≤ d.waits.length) (fun i => d.waits.length - i) 0 ⟨rfl, trivial⟩ (Nat.zero_le _) (Ent.app ent) ?_
  intro i bg hi
  by_cases hlt : i < d.waits.length
  · have hgd : d.waits.getD i (0, []) = d.waits[i] := by simp [hlt]
    have hwi := ok.w256 _ (List.getElem_mem hlt)
    have g1 : (ats d)[i]? = some (iN d.waits[i].1) := by simp [hlt]
    have g2 : (bts d)[i]? = some (strV d.waits[i].2) := by simp [hlt]
    have hfl : flushN d.kept d.waits (i + 1) = (flushN d.kept d.waits i).set d.waits[i].1 d.waits[i].2 := by rw [flushN, hgd]
    generalize d.waits[i] = w at hwi g1 g2 hfl
    obtain ⟨wn, ws⟩ := w
    dsimp only at hwi g1 g2 hfl
    obtain ⟨ab, ao, rfl⟩ := ra.at (by omega)
    obtain ⟨bb, bo, rfl⟩ := rb.at (by omega)
    obtain ⟨kb, rfl⟩ := h8 (by omega)
    refine go ?_
    refine W.drawA rfl (by kernel_rfl) (by kernel_rfl) ?_
    refine go ?_
    refine DA.q (v := iN wn) rfl rfl (SV.loadR i rfl rds (by omega) g1 eqq) ?_
    refine go ?_
    refine DA.q (v := strV ws) rfl rfl (SV.loadR i rfl rds (by omega) g2 eqq) ?_
    refine DA.q (v := .pointer (some ⟨kb, wn, none⟩)) rfl rfl (SV.indexAddr (k := .i64) (i := (wn : Int)) rfl rfl (by omega) (by omega) (by rw [show 0 + (wn : Int).toNat * 1 = wn by omega]; exact eqq)) ?_
    refine go ?_
    refine DA.v rfl rfl rfl ?_
    refine SV.storeO wn (v := strV ws) (xs' := (flushN d.kept d.waits (i + 1)).map strV) rfl tk rfl rfl rfl (by simp [hlk]; omega) (by rw [hfl, List.map_set]) ?_
    refine go ?_
    exact ⟨i + 1, ⟨rfl, trivial⟩, rfl, by omega, by omega, Ent.app (Ent.refl _)⟩
  · obtain rfl : i = d.waits.length := by omega
    refine go ?_
    refine ⟨rfl, [_], ⟨Res.cell rfl le0 nl, trivial⟩, _, ?_, a8, c8, ?_, h8, rfl⟩
    · exact ent
    · simp only [rvL, hlk]; rfl
theorem rf_Fall (ka : Option Addr) (kc : Nat) (aa : Option Addr) (ac : Nat) (ba : Option Addr) (bc : Nat) (d : Dv) (a : Option Addr) (c : Nat) (ks : List Int) (L : List HP) (ok : d.Ok) (hk0 : d.kept.length ≠ 0) (hw : d.waits.length ≤ 1000000) (hks : ks.length ≤ 9223372036854775807)
    (rk : RdS 1 ka d.kept.length (d.kept.map strV) L) (ra : RdS 1 aa d.waits.length (ats d) L) (rb : RdS 1 ba d.waits.length (bts d) L) (r : RdS 1 a ks.length (ks.map (Value.int .i64)) L) :
    TriE Try.prog 48 #[.agg (rvL ka kc aa ac ba bc d).toArray, .slice a ks.length c]
      (fun v M => ∃ ka' kc', v = .agg (rvL ka' kc' none 0 none 0 (d.fall ks)).toArray ∧ SomeA ka' (d.fall ks).kept.length ∧
        M = Own 9 1 (.slice ka' (d.fall ks).kept.length kc') (d.fall ks).kept.length ((d.fall ks).kept.map strV) :: L) L := by
  have hlk := fallN_len d.kept d.waits ks
  have hsz := ok.size
  have hfk : d.fall ks = ⟨fallN d.kept d.waits ks d.waits.length, fallN d.kept d.waits ks d.waits.length, [], -1, false, d.ops⟩ := by rw [Dv.fall, if_neg hk0]
  rw [hfk]
  simp only [hlk]
  refine Tri.of (N := 68) (args := [.agg (rvL ka kc aa ac ba bc d).toArray, .slice a ks.length c]) Try.func48 rfl rfl rfl ?_
  refine go ?_
  intro b2
  refine go ?_
  intro b4
  refine go ?_
  refine WO.sv rfl ?_
  refine SV.lit0 ?_
  intro b3
  refine go ?_
  refine WO.ent (ent_own (sz := 1) (n := 0) rfl) ?_
  refine WO.sv rfl ?_
  refine SV.append rfl rfl rfl tk (RdS.src (RdS.cons (RdS.cons rk))) (by simp) (by simp [strV, isCell]) (by omega) rfl ?_
  intro a8 c8 h8
  rw [Nat.zero_add] at h8
  rw [Nat.zero_add d.kept.length, List.nil_append]
  refine go ?_
  refine W.loopS 2305843009213690048 rfl (fun i : Nat => [(6, .int .i64 i)]) (fun i => Own 9 1 (.slice a8 d.kept.length c8) d.kept.length ((fallN d.kept d.waits ks i).map strV) :: pts b4 (.cells [Value.slice none 0 0, Value.slice none 0 0, Value.slice none 0 0, Value.int .i64 0, Value.bool false, Value.int .i64 0].toArray 80) ::
      pts b2 (.cells [Value.slice ka d.kept.length kc, Value.slice aa d.waits.length ac, Value.slice ba d.waits.length bc, Value.int .i64 d.arm, Value.bool d.down, Value.int .i64 d.ops].toArray 80) :: L) (fun i => i ≤ d.waits.length) (fun i => d.waits.length - i) 0 ⟨rfl, trivial⟩ (Nat.zero_le _) (Ent.app ent) ?_
  intro i bg hi
  by_cases hlt : i < d.waits.length
  · have hwi := ok.w256 _ (List.getElem_mem hlt)
    have hgd : d.waits.getD i (0, []) = d.waits[i] := by simp [hlt]
    have g1 : (ats d)[i]? = some (iN d.waits[i].1) := by simp [hlt]
    have g2 : (bts d)[i]? = some (strV d.waits[i].2) := by simp [hlt]
    generalize d.waits[i] = w at hwi hgd g1 g2
    obtain ⟨wn, ws⟩ := w
    dsimp only at hwi g1 g2
    have hfl := fallN_succ (kept := d.kept) (ks := ks) hgd
    have hs0 := fallN_256 ok.k256 ok.w256 (ks := ks) i (by omega) _ (getD_mem (l := fallN d.kept d.waits ks i) (i := wn) (x := []) (by rw [hlk]; exact hwi.1))
    have hget := getstr (l := fallN d.kept d.waits ks i) (i := wn) (by rw [hlk]; exact hwi.1)
    generalize (fallN d.kept d.waits ks i).getD wn [] = s0 at hfl hs0 hget
    have hkn := keepN_le ks i
    obtain ⟨ab, ao, rfl⟩ := ra.at (by omega)
    obtain ⟨bb, bo, rfl⟩ := rb.at (by omega)
    obtain ⟨kb, rfl⟩ := h8 (by omega)
    refine go ?_
    refine WO.sv rfl ?_
    refine SV.lss rfl rfl ?_
    refine go ?_
    refine W.cut 67645735040 rfl (fun _ : Unit => [(7, .int .i64 (keepN ks i))]) (fun _ => Own 9 1 (.slice (some ⟨kb, 0, none⟩) d.kept.length c8) d.kept.length ((fallN d.kept d.waits ks i).map strV) :: pts b4 (.cells [Value.slice none 0 0, Value.slice none 0 0, Value.slice none 0 0, Value.int .i64 0, Value.bool false, Value.int .i64 0].toArray 80) ::
      pts b2 (.cells [Value.slice ka d.kept.length kc, Value.slice (some ⟨ab, ao, none⟩) d.waits.length ac, Value.slice (some ⟨bb, bo, none⟩) d.waits.length bc, Value.int .i64 d.arm, Value.bool d.down, Value.int .i64 d.ops].toArray 80) :: L) (fun _ => True) ?_ ?_
    · refine W.if rfl (fun h => ?_) (fun h => ?_)
      · obtain ⟨kab, kao, rfl⟩ := r.at (by omega)
        refine go ?_
        refine WO.sv rfl ?_
        refine SV.loadR i rfl rds (by omega) (v := .int .i64 (ks.getD i 0)) (by simp [show i < ks.length by omega]) ?_
        refine go ?_
        exact ⟨(), ⟨by show Value.int .i64 _ = _; congr 1; unfold keepN; omega, trivial⟩, rfl, trivial, ent⟩
      · refine go ?_
        refine ⟨(), ⟨?_, trivial⟩, rfl, trivial, ent⟩
        have : keepN ks i = 0 := by unfold keepN; rw [List.getD_eq_getElem?_getD, List.getElem?_eq_none (by omega)]; rfl
        rw [this]; rfl
    rintro _ bg2 _
    have ix : ∀ {f : Frm} {x y : Operand} {d' : Option Nat} {ty ps af gu} {M : List HP}, f.ev x = .slice (some ⟨kb, 0, none⟩) d.kept.length c8 → f.ev y = iN wn → SV Try.prog none ⟨d', .indexAddr 78 x y, ty, ps, af, gu⟩ f (fun v' L' => v' = .pointer (some ⟨kb, wn, none⟩) ∧ L' = M) M :=
      fun hx hy => SV.indexAddr (k := .i64) (i := (wn : Int)) hx hy (by omega) (by omega) (by rw [show 0 + (wn : Int).toNat * 1 = wn by omega]; exact eqq)
    refine go ?_
    refine W.drawA rfl (by kernel_rfl) (by kernel_rfl) ?_
    refine go ?_
    refine DA.q (v := iN wn) rfl rfl (SV.loadR i rfl rds (by omega) g1 eqq) ?_
    refine go ?_
    refine DA.q (v := strV ws) rfl rfl (SV.loadR i rfl rds (by omega) g2 eqq) ?_
    refine go ?_
    refine DA.q (v := strV (ws.take (keepN ks i))) rfl rfl (SV.cutStr rfl rfl (cutAt.of rfl rfl) (Nat.zero_le _) (by omega) (by simp) eqq) ?_
    refine go ?_
    refine DA.q (v := iN wn) rfl rfl (SV.loadR i rfl rds (by omega) g1 eqq) ?_
    refine DA.q (v := .pointer (some ⟨kb, wn, none⟩)) rfl rfl (ix rfl rfl) ?_
    refine DA.q (v := strV s0) rfl rfl (SV.loadR wn rfl (RdS.own tk h8 (by simp [hlk])) (by omega) hget eqq) ?_
    refine go ?_
    refine DA.q (v := strV (s0.drop (keepN ks i))) rfl rfl (SV.cutStr rfl (cutAt.of rfl rfl) rfl (by omega) (Nat.le_refl _) (by simp) eqq) ?_
    refine DA.q (v := strV (ws.take (keepN ks i) ++ s0.drop (keepN ks i))) rfl rfl (SV.concat rfl rfl (by simp; omega) eqq) ?_
    refine DA.q (v := .pointer (some ⟨kb, wn, none⟩)) rfl rfl (ix rfl rfl) ?_
    refine go ?_
    refine DA.v rfl rfl rfl ?_
    refine SV.storeO wn (v := strV (ws.take (keepN ks i) ++ s0.drop (keepN ks i))) (xs' := (fallN d.kept d.waits ks (i + 1)).map strV) rfl tk rfl rfl rfl (by simp [hlk]; omega) (by rw [hfl, List.map_set]) ?_
    refine go ?_
    exact ⟨i + 1, ⟨rfl, trivial⟩, rfl, by omega, by omega, Ent.app (Ent.refl _)⟩
  · obtain rfl : i = d.waits.length := by omega
    refine go ?_
    refine ⟨rfl, [_], ⟨Res.cell rfl le0 nl, trivial⟩, _, ?_, a8, c8, ?_, h8, rfl⟩
    · exact ent
    · simp only [rvL, hlk]; rfl
end Go.SL
