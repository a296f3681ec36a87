/- Layer 7: a device: Fall, Clone, each walked once. -/
import Derived.Test.YtlcahhfbhjbgoaaDz
namespace Go.SL
open Go.Proofs
set_option linter.unusedVariables false
set_option maxRecDepth 10000
attribute [local irreducible] W WO SV OW SW Tri Ent Tk Has Src SrcK DA DB RdS Own

theorem fallN_succ {kept : List Byt} {waits : List (Nat × Byt)} {ks : List Int} {i wn : Nat} {ws : Byt} (h : waits.getD i (0, []) = (wn, ws)) :
    fallN kept waits ks (i + 1) = (fallN kept waits ks i).set wn (ws.take (keepN ks i) ++ ((fallN kept waits ks i).getD wn []).drop (keepN ks i)) := by rw [fallN, h]
theorem dv_Fall (b : Nat) (d : Dv) (a : Option Addr) (c : Nat) (ks : List Int) (R : List HP) (ok : d.Ok) (hw : d.waits.length ≤ 1000000000) (hks : ks.length ≤ 9223372036854775807) (r : RdS 1 a ks.length (ks.map (Value.int .i64)) R) :
    TriE Try.prog 41 #[.pointer (some ⟨b, 0, none⟩), .slice a ks.length c] (fun v M => M = DevH b (d.fall ks) :: R) (DevH b d :: R) := by
  refine DevH.opens fun x h1 h2 h3 => ?_
  have hc := DevH.close (b := b) (d := d) (R := R) x h1 h2 h3 (Ent.refl _)
  obtain ⟨ka, kc, na, nc, wa, wc⟩ := x
  simp only [dvL, List.cons_append, List.nil_append] at hc ⊢
  refine Tri.of (N := 69) (args := [.pointer (some ⟨b, 0, none⟩), .slice a ks.length c]) Try.func41 rfl rfl rfl ?_
  refine go ?_
  refine WO.callE (vs := [.pointer (some ⟨b, 0, none⟩)]) Try.func66 rfl rfl rfl rfl (dv_none b _ _ _ _ _ _ _ _ _ (RdS.all rfl)) ?_
  rintro v M ⟨rfl, rfl⟩
  by_cases hk0 : d.kept.length = 0
  · rw [decide_eq_true hk0]
    refine go ?_
    exact ⟨rfl, [], trivial, _, hc, by rw [Dv.fall, if_pos hk0]⟩
  rw [decide_eq_false hk0]
  refine go ?_
  have hlw : (d.waits.flatMap wrV).length = d.waits.length * 2 := flat_len (n := 2) (fun _ => rfl) _
  have hlk := fallN_len d.kept d.waits ks
  have hsz := ok.size
  refine W.loopS 4503599627354224 rfl (fun i : Nat => [(14, .int .i64 i)])
    (fun i => pts b (.cells [Value.slice ka d.kept.length kc, Value.slice na d.now.length nc, Value.slice wa d.waits.length wc, .int .i64 d.arm, .bool d.down, .int .i64 d.ops].toArray 98) :: Own 9 1 (.slice ka d.kept.length kc) d.kept.length ((fallN d.kept d.waits ks i).map strV) ::
      Own 9 1 (.slice na d.now.length nc) d.now.length (d.now.map strV) :: Own 113 2 (.slice wa d.waits.length wc) d.waits.length (d.waits.flatMap wrV) :: R) (fun i => i ≤ d.waits.length) (fun i => d.waits.length - i) 0 ⟨rfl, trivial⟩ (Nat.zero_le _) (Ent.app (Ent.refl _)) ?_
  intro i bg hi
  refine go ?_
  refine WO.sv rfl ?_
  refine SV.lssC rfl rfl ?_ ?_
  · intro hlt
    have hi' : i < d.waits.length := by omega
    obtain ⟨wb, rfl⟩ := h3 (by omega)
    have hsub := flat_sub (g := wrV) (n := 2) (fun _ => rfl) d.waits i hi'
    have hwi := ok.w256 _ (List.getElem_mem hi')
    have hgd : d.waits.getD i (0, []) = d.waits[i] := by simp [hi']
    generalize d.waits[i] = w at hsub hwi hgd
    obtain ⟨wn, ws⟩ := w
    dsimp only at hwi
    have hfl := fallN_succ (kept := d.kept) (ks := ks) hgd
    have hs0 := fallN_256 ok.k256 ok.w256 (ks := ks) i (by omega) _ (getD_mem (l := fallN d.kept d.waits ks i) (i := wn) (x := []) (by rw [hlk]; exact hwi.1))
    have hget := getstr (l := fallN d.kept d.waits ks i) (i := wn) (by rw [hlk]; exact hwi.1)
    generalize (fallN d.kept d.waits ks i).getD wn [] = s0 at hfl hs0 hget
    have hkn := keepN_le ks i
    obtain ⟨kb, rfl⟩ := h1 (by omega)
    refine go ?_
    refine WO.sv rfl ?_
    refine SV.loadRN (i * 2) rfl (RdS.own tk h3 hlw) (by simp) (by decide) (by omega) hsub ?_
    refine go ?_
    intro b5
    refine go ?_
    refine WO.sv rfl ?_
    refine SV.lss rfl rfl ?_
    refine go ?_
    refine W.cut 528482368 rfl (fun _ : Unit => [(6, .int .i64 (keepN ks i))]) (fun _ => pts b5 (.cells [Value.int .i64 wn, strV ws].toArray 113) :: pts b (.cells [Value.slice (some ⟨kb, 0, none⟩) d.kept.length kc, Value.slice na d.now.length nc, Value.slice (some ⟨wb, 0, none⟩) d.waits.length wc, .int .i64 d.arm, .bool d.down, .int .i64 d.ops].toArray 98) ::
      Own 9 1 (.slice (some ⟨kb, 0, none⟩) d.kept.length kc) d.kept.length ((fallN d.kept d.waits ks i).map strV) :: Own 9 1 (.slice na d.now.length nc) d.now.length (d.now.map strV) :: Own 113 2 (.slice (some ⟨wb, 0, none⟩) d.waits.length wc) d.waits.length (d.waits.flatMap wrV) :: R) (fun _ => True) ?_ ?_
    · refine W.if rfl (fun h => ?_) (fun h => ?_)
      · obtain ⟨ab, ao, rfl⟩ := r.at (by omega)
        refine go ?_
        refine WO.sv rfl ?_
        refine SV.loadR i rfl rds (by omega) (v := .int .i64 (ks.getD i 0)) (by simp [show i < ks.length by omega]) ?_
        refine go ?_
        exact ⟨(), ⟨by show Value.int .i64 _ = _; congr 1; unfold keepN; omega, trivial⟩, rfl, trivial, ent⟩
      · refine go ?_
        refine ⟨(), ⟨?_, trivial⟩, rfl, trivial, ent⟩
        have : keepN ks i = 0 := by unfold keepN; rw [List.getD_eq_getElem?_getD, List.getElem?_eq_none (by omega)]; rfl
        rw [this]; rfl
    rintro _ bg2 _
    refine go ?_
    refine W.drawA rfl (by kernel_rfl) (by kernel_rfl) ?_
    refine go ?_
    refine DA.q (v := strV (ws.take (keepN ks i))) rfl rfl (SV.cutStr rfl rfl (cutAt.of rfl rfl) (Nat.zero_le _) (by omega) (by simp) eqq) ?_
    refine go ?_
    refine DA.q (v := strV s0) rfl rfl (SV.loadR wn rfl (RdS.own tk h1 (by simp [hlk])) (by omega) hget eqq) ?_
    refine go ?_
    refine DA.q (v := strV (s0.drop (keepN ks i))) rfl rfl (SV.cutStr rfl (cutAt.of rfl rfl) rfl (by omega) (Nat.le_refl _) (by simp) eqq) ?_
    refine DA.q (v := strV (ws.take (keepN ks i) ++ s0.drop (keepN ks i))) rfl rfl (SV.concat rfl rfl (by simp; omega) eqq) ?_
    refine go ?_
    refine DA.v rfl rfl rfl ?_
    refine SV.storeO wn (v := strV (ws.take (keepN ks i) ++ s0.drop (keepN ks i))) (xs' := (fallN d.kept d.waits ks (i + 1)).map strV) rfl tk (by omega) rfl rfl (by simp [hlk]; omega) (by rw [hfl, List.map_set]) ?_
    refine go ?_
    exact ⟨i + 1, ⟨rfl, trivial⟩, rfl, by omega, by omega, Ent.app ent⟩
  · intro hlt
    obtain rfl : i = d.waits.length := by omega
    have h1' : SomeA ka (fallN d.kept d.waits ks d.waits.length).length := by rw [hlk]; exact h1
    refine go ?_
    refine WO.callE (vs := [.slice ka d.kept.length kc]) Try.func63 rfl rfl rfl rfl (sl_CloneStr ka d.kept.length kc (fallN d.kept d.waits ks d.waits.length) _ (by omega) (RdS.own tk h1 (by simp [hlk]))) ?_
    rintro v M ⟨a5, c5, rfl, h5, rfl⟩
    refine go ?_
    refine ⟨rfl, [], trivial, DevH b ⟨fallN d.kept d.waits ks d.waits.length, fallN d.kept d.waits ks d.waits.length, [], -1, false, d.ops⟩ :: R, ?_, by rw [Dv.fall, if_neg hk0]⟩
    refine DevH.close (ka, kc, a5, c5, none, 0) h1' (by rw [hlk]; exact h5) (fun h => absurd rfl h) ?_
    simp only [dvL, hlk, List.cons_append, List.nil_append]
    exact Ent.take tk (Ent.take tk (Ent.take tk (Ent.ownNil ent)))
end Go.SL
