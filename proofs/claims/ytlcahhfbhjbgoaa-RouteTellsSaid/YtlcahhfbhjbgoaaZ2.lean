/- Layer 34: the law RouteTells, walked. -/
import Derived.Test.YtlcahhfbhjbgoaaSlJ
import Derived.Test.YtlcahhfbhjbgoaaSlQ
import Derived.Test.YtlcahhfbhjbgoaaZ1
namespace Go.SL
open Go.Proofs
set_option linter.unusedVariables false
set_option linter.unusedSimpArgs false
set_option linter.unusedSectionVars false
set_option maxRecDepth 10000
set_option maxHeartbeats 4000000
attribute [local irreducible] W WO SV OW SW Tri Ent Tk Has Src SrcK DA DB DP RdS Own RowsH Gr OwnT MapH OIs

theorem l34_tells (n0 : Int) (a0 : Option Addr) (c0 : Nat) (l : List ZZ) (L : List HP) (hl0 : l.length ≤ 9223372036854775807) (r : RdS 2 a0 l.length (l.flatMap zzD) L) :
    TriE Try.prog 5 #[.int .i64 n0, .slice a0 l.length c0] (fun v M => v = .bool true ∧ M = L) L := by
  refine Tri.of (N := 251) (args := [.int .i64 n0, .slice a0 l.length c0]) Try.func5 rfl rfl rfl ?_
  by_cases hb1 : n0 < 0 ∨ 16 < n0
  · have bad : True := trivial
    rcases hb1 with hb2 | hb2
    · refine go ?_
      refine WO.callE (vs := [.int .i64 n0]) Try.func22 rfl rfl rfl rfl (rg_NewBad n0 (.inl hb2) L) ?_
      rintro v M ⟨rfl, rfl⟩
      refine go ?_
      refine WO.callE (vs := []) Try.func23 rfl rfl rfl rfl (l34_one _) ?_
      rintro v M ⟨rfl, rfl⟩
      refine go ?_
      exact ⟨rfl, [_], ⟨Res.tmp rfl, trivial⟩, _, ent, rfl, rfl⟩
    · refine go ?_
      refine WO.callE (vs := [.int .i64 n0]) Try.func22 rfl rfl rfl rfl (rg_NewBad n0 (.inr hb2) L) ?_
      rintro v M ⟨rfl, rfl⟩
      refine go ?_
      refine WO.callE (vs := []) Try.func23 rfl rfl rfl rfl (l34_one _) ?_
      rintro v M ⟨rfl, rfl⟩
      refine go ?_
      exact ⟨rfl, [_], ⟨Res.tmp rfl, trivial⟩, _, ent, rfl, rfl⟩
  obtain ⟨n, rfl⟩ : ∃ n : Nat, n0 = n := ⟨n0.toNat, by omega⟩
  have hn : n ≤ 16 := by omega
  refine go ?_
  refine WO.callE (vs := [.int .i64 (n : Int), .slice a0 l.length c0]) Try.func24 rfl rfl rfl rfl (l34_Made n hn a0 c0 l L hl0 r) ?_
  rintro v M ⟨b, mb, rs, m, rfl, hlen, ok, rfl⟩
  have g : GrR b mb rs n m (Gr b mb rs n m :: L) := Gr.rd hlen
  refine go ?_
  intro b8
  refine go ?_
  refine WO.callE (vs := [.agg (tabV m).toArray, .int .i64 n]) Try.func25 rfl rfl rfl rfl (r34_Far m n ok _) ?_
  rintro v M ⟨dl, rfl, tab, rfl⟩
  refine go ?_
  intro b9
  refine go ?_
  have hdl := tab.len
  refine WO.sv rfl ?_
  refine SV.store (vs := dV dl) (l' := dV dl) rfl rfl Cel.agg (dV_cells dl hdl).1 (dV_cells dl hdl).2.1 (dV_cells dl hdl).2.2 (.inl (Nat.le_refl _)) (by rw [List.length_replicate]; decide) (lput_full (by rw [dV_len, hdl, List.length_replicate])) ?_
  refine go ?_
  refine WO.callE (vs := [.pointer (some ⟨b, 0, none⟩)]) Try.func26 rfl rfl rfl rfl (rg_Len _ g.cons.cons) ?_
  rintro v M ⟨rfl, rfl⟩
  refine go ?_
  refine WO.callE (vs := [.pointer (some ⟨b, 0, none⟩)]) Try.func27 rfl rfl rfl rfl (rg_Parts _ ok g.cons.cons) ?_
  rintro v M ⟨pa, pc, p, rfl, psa, rfl, hpl, hpp⟩
  refine go ?_
  refine WO.callE (vs := [.pointer (some ⟨b, 0, none⟩)]) Try.func28 rfl rfl rfl rfl (rg_Links _ ok g.cons.cons.cons) ?_
  rintro v M ⟨ka, kc, rfl, ksa, rfl⟩
  refine go ?_
  have hwhole := whole_iff ok
  refine W.loopS 93536104789177786765035829293832889885942828223504 rfl (fun s : Nat × Bool => [(15, .int .i64 (s.1 : Int)), (10, .int .i64 (wdO m n s.1)), (11, .bool s.2), (14, .int .i64 ((lkO m n s.1).length : Nat))])
    (fun _ => Own 57 2 (.slice ka (lkO m n n).length kc) (lkO m n n).length ((lkO m n n).flatMap pV) :: OIs pa pc p :: pts b9 (.cells (dV dl).toArray 50) :: pts b8 (.cells (tabV m).toArray 46) :: Gr b mb rs n m :: L)
    (fun s => s.1 ≤ n ∧ (s.2 = true ↔ ∀ a b, a < s.1 → b < n → 0 ≤ dst m a b)) (fun s => n - s.1) (0, true) ⟨rfl, rfl, rfl, rfl, trivial⟩ ⟨Nat.zero_le _, by simp⟩ (Ent.app ent) ?_
  rintro ⟨a, wh⟩ bg ⟨ha, hwh⟩
  dsimp only at ha hwh ⊢
  by_cases h1 : a < n
  · have hO : wdO m n (a + 1) = wdI m a (wdO m n a) n := rfl
    have hK : lkO m n (a + 1) = lkI m a (lkO m n a) n := rfl
    refine go ?_
    refine W.loopS 1461501637330902918203684832125987209297227107344 rfl (fun s : Nat × Bool × Nat => [(17, .int .i64 (s.1 : Int)), (10, .int .i64 (wdI m a (wdO m n a) s.1)), (11, .bool s.2.1), (16, .int .i64 (s.2.2 : Int)), (14, .int .i64 ((lkI m a (lkO m n a) s.1).length : Nat))])
      (fun _ => Own 57 2 (.slice ka (lkO m n n).length kc) (lkO m n n).length ((lkO m n n).flatMap pV) :: OIs pa pc p :: pts b9 (.cells (dV dl).toArray 50) :: pts b8 (.cells (tabV m).toArray 46) :: Gr b mb rs n m :: L)
      (fun s => s.1 ≤ n ∧ (s.2.1 = true ↔ (wh = true ∧ ∀ b, b < s.1 → 0 ≤ dst m a b)) ∧ LeastAt m a s.1 s.2.2) (fun s => n - s.1) (0, wh, a) ⟨rfl, rfl, rfl, rfl, rfl, trivial⟩ ⟨Nat.zero_le _, by simp, LeastAt.begin m a⟩ (Ent.app ent) ?_
    rintro ⟨c, wh2, x⟩ bg2 ⟨hc, hwh2, hls⟩
    dsimp only at hc hwh2 hls ⊢
    by_cases h2 : c < n
    rotate_left
    · obtain rfl : c = n := by omega
      have hpx : p.getD a 0 = x := (hpp a h1).same (hls.part ok h1)
      have hpg := iv_get p a (by omega)
      rw [hpx] at hpg
      have rdp : ∀ X, RdS 1 pa p.length (iv p) (X :: OIs pa pc p :: pts b9 (.cells (dV dl).toArray 50) :: pts b8 (.cells (tabV m).toArray 46) :: Gr b mb rs c m :: L) := fun X => by unfold OIs; exact RdS.ownS (Tk.there Tk.here) psa (by simp [iv])
      obtain ⟨pab, rfl⟩ := psa (by omega)
      refine go ?_
      refine WO.sv rfl ?_
      refine SV.loadR (v := .int .i64 (x : Int)) a rfl (rdp _) (by omega) hpg ?_
      refine go ?_
      refine ⟨(a + 1, wh2), ⟨rfl, rfl, rfl, rfl, trivial⟩, rfl, ⟨h1, ?_⟩, by dsimp only; omega, Ent.app ent⟩
      dsimp only
      rw [hwh2, hwh]
      constructor
      · rintro ⟨z1, z2⟩ a' b' ha' hb'
        by_cases e : a' = a
        · subst e; exact z2 b' hb'
        · exact z1 a' b' (by omega) hb'
      · intro z
        exact ⟨fun a' b' ha' hb' => z a' b' (by omega) hb', fun b' hb' => z a b' (by omega) hb'⟩
    have hone := (dst_is m a c).one ok.irr
    have htd := fun hf => tab.dist h1 h2 (dst_is m a c) hf
    have hdg := dV_get dl (i := a) (k := c) tab.len (by omega) (by omega)
    have hmg := tabV_get m (i := a) (k := c) (by omega) (by omega)
    have g5 : GrR b mb rs n m (Own 57 2 (.slice ka (lkO m n n).length kc) (lkO m n n).length ((lkO m n n).flatMap pV) :: OIs pa pc p :: pts b9 (.cells (dV dl).toArray 50) :: pts b8 (.cells (tabV m).toArray 46) :: Gr b mb rs n m :: L) := g.cons.cons.cons.cons
    have rd9 : RdS 1 (some ⟨b9, 0, none⟩) 256 (dV dl) [Own 57 2 (.slice ka (lkO m n n).length kc) (lkO m n n).length ((lkO m n n).flatMap pV), OIs pa pc p, pts b9 (.cells (dV dl).toArray 50), pts b8 (.cells (tabV m).toArray 46), Gr b mb rs n m] := (RdS.all (by rw [dV_len, tab.len])).cons.cons
    have rd8 : RdS 1 (some ⟨b8, 0, none⟩) 256 (tabV m) [Own 57 2 (.slice ka (lkO m n n).length kc) (lkO m n n).length ((lkO m n n).flatMap pV), OIs pa pc p, pts b9 (.cells (dV dl).toArray 50), pts b8 (.cells (tabV m).toArray 46), Gr b mb rs n m] := (RdS.all (by rw [tabV_len])).cons.cons.cons
    have hlk : (decide (0 ≤ (a : Int) ∧ (a : Int) < (n : Int)) && decide (0 ≤ (c : Int) ∧ (c : Int) < (n : Int)) && m (a : Int).toNat (c : Int).toNat) = m a c := by
      rw [decide_eq_true (show 0 ≤ (a : Int) ∧ (a : Int) < (n : Int) by omega), decide_eq_true (show 0 ≤ (c : Int) ∧ (c : Int) < (n : Int) by omega), Int.toNat_natCast, Int.toNat_natCast]; rfl
    refine goC ?_
    refine go ?_
    refine W.cut (σ := Unit) 649037107297963987634833460297728 rfl (fun _ => [(108, .bool false)]) (fun _ => Own 57 2 (.slice ka (lkO m n n).length kc) (lkO m n n).length ((lkO m n n).flatMap pV) :: OIs pa pc p :: pts b9 (.cells (dV dl).toArray 50) :: pts b8 (.cells (tabV m).toArray 46) :: Gr b mb rs n m :: L) (fun _ => gd dl a c = dst m a c ∧ -1 ≤ dst m a c ∧ dst m a c < 99) ?_ ?_
    · refine W.drawB #[0, 0, 0, 7, 0, 0, 16, 112, 240, 511, 1023, 2047, 2047, 2047, 16383, 2047, 2047, 34815, 231423, 493567, 1048575, 2097151, 4194303, 8388607, 8388607, 8388607, 67108863, 8388607, 8388607, 142606335, 947912703, 2021654527, 4169138175, 8589934591, 17179869183]
        [Own 57 2 (.slice ka (lkO m n n).length kc) (lkO m n n).length ((lkO m n n).flatMap pV), OIs pa pc p, pts b9 (.cells (dV dl).toArray 50), pts b8 (.cells (tabV m).toArray 46), Gr b mb rs n m] L rfl (by kernel_rfl) (by kernel_rfl) (by kernel_rfl) ent ?_
      refine go ?_
      refine DB.callE (vs := [.pointer (some ⟨b, 0, none⟩), .int .i64 a, .int .i64 c]) Try.func29 rfl rfl rfl rfl hl hl (rg_far _ a c ok g5) ?_
      rintro v M ⟨rfl, rfl, q1, q2⟩
      rw [far_in m h1 h2] at q1 q2 ⊢
      have hgd := htd q2
      rw [hgd] at hdg
      refine ⟨[], L, ent, ?_⟩
      refine go ?_
      refine DB.q (v := .int .i64 (dst m a c)) rfl rfl hl (SV.loadR (16 * a + c) rfl rd9 (by omega) hdg eqq) ?_
      generalize hdv : dst m a c = f at *
      generalize hmv : m a c = mv at *
      refine go ?_
      refine DB.callE (vs := [.pointer (some ⟨b, 0, none⟩), .int .i64 a, .int .i64 c]) Try.func30 rfl rfl rfl rfl hl hl (rg_Linked _ a c g5) ?_
      rintro v M ⟨rfl, rfl⟩
      rw [hlk]
      refine ⟨[], L, ent, ?_⟩
      refine go ?_
      refine DB.q (v := .bool mv) rfl rfl hl (SV.loadR (a * 16 + c) rfl rd8 (by omega) hmg eqq) ?_
      cases mv with
      | true =>
        have hf1 : f = 1 := hone.2 rfl
        refine go ?_
        refine DB.callE (vs := [.pointer (some ⟨b, 0, none⟩), .int .i64 a, .int .i64 c]) Try.func30 rfl rfl rfl rfl hl hl (rg_Linked _ a c g5) ?_
        rintro v M ⟨rfl, rfl⟩
        rw [hlk]
        refine ⟨[], L, ent, ?_⟩
        refine go ?_
        refine DB.q (v := .int .i64 f) rfl rfl hl (SV.loadR (16 * a + c) rfl rd9 (by omega) hdg eqq) ?_
        refine go ?_
        refine ⟨Own 57 2 (.slice ka (lkO m n n).length kc) (lkO m n n).length ((lkO m n n).flatMap pV) :: OIs pa pc p :: pts b9 (.cells (dV dl).toArray 50) :: pts b8 (.cells (tabV m).toArray 46) :: Gr b mb rs n m :: L, ent, ?_⟩
        refine go ?_
        exact ⟨(), ⟨rfl, trivial⟩, rfl, ⟨hgd, q1, q2⟩, ent⟩
      | false =>
        have hf1 : f ≠ 1 := fun z => nomatch hone.1 z
        refine go ?_
        refine DB.callE (vs := [.pointer (some ⟨b, 0, none⟩), .int .i64 a, .int .i64 c]) Try.func30 rfl rfl rfl rfl hl hl (rg_Linked _ a c g5) ?_
        rintro v M ⟨rfl, rfl⟩
        rw [hlk]
        refine ⟨[], L, ent, ?_⟩
        refine go ?_
        refine DB.q (v := .int .i64 f) rfl rfl hl (SV.loadR (16 * a + c) rfl rd9 (by omega) hdg eqq) ?_
        refine go ?_
        refine ⟨Own 57 2 (.slice ka (lkO m n n).length kc) (lkO m n n).length ((lkO m n n).flatMap pV) :: OIs pa pc p :: pts b9 (.cells (dV dl).toArray 50) :: pts b8 (.cells (tabV m).toArray 46) :: Gr b mb rs n m :: L, ent, ?_⟩
        refine go ?_
        exact ⟨(), ⟨rfl, trivial⟩, rfl, ⟨hgd, q1, q2⟩, ent⟩
    rintro - bg3 ⟨hgd, q1, q2⟩
    rw [hgd] at hdg
    have rd9' : ∀ X, RdS 1 (some ⟨b9, 0, none⟩) 256 (dV dl) (Own 57 2 (.slice ka (lkO m n n).length kc) (lkO m n n).length ((lkO m n n).flatMap pV) :: OIs pa pc p :: pts b9 (.cells (dV dl).toArray 50) :: X) := fun X => (RdS.all (by rw [dV_len, tab.len])).cons.cons
    have rd8' : ∀ X, RdS 1 (some ⟨b8, 0, none⟩) 256 (tabV m) (Own 57 2 (.slice ka (lkO m n n).length kc) (lkO m n n).length ((lkO m n n).flatMap pV) :: OIs pa pc p :: pts b9 (.cells (dV dl).toArray 50) :: pts b8 (.cells (tabV m).toArray 46) :: X) := fun X => (RdS.all (by rw [tabV_len])).cons.cons.cons
    have hstep := hls.step
    have hw1 : wdI m a (wdO m n a) (c + 1) = max (wdI m a (wdO m n a) c) (dst m a c) := rfl
    have hk1 : lkI m a (lkO m n a) (c + 1) = if a < c ∧ m a c = true then lkI m a (lkO m n a) c ++ [(a, c)] else lkI m a (lkO m n a) c := rfl
    have hlk2 := fun z => lk_at m (n := n) h1 h2 z
    have hll : (lkI m a (lkO m n a) c).length ≤ 1000 := by
      have e1 := lkI_len m a (lkO m n a) c
      have e2 := lkO_len m n a
      have e3 : a * n ≤ 16 * 16 := Nat.mul_le_mul (by omega) hn
      omega
    refine go ?_
    refine WO.sv rfl ?_
    refine SV.loadR (v := .int .i64 (dst m a c)) (16 * a + c) rfl (rd9' _) (by omega) hdg ?_
    refine WO.sv rfl ?_
    refine SV.max2 rfl rfl rfl ?_
    refine WO.sv rfl ?_
    refine SV.assign rfl ?_
    refine goC ?_
    refine W.cut (σ := Unit) 42452219115380750690865337987703506944 rfl (fun _ => [(11, .bool (wh2 && decide (0 ≤ dst m a c)))]) (fun _ => Own 57 2 (.slice ka (lkO m n n).length kc) (lkO m n n).length ((lkO m n n).flatMap pV) :: OIs pa pc p :: pts b9 (.cells (dV dl).toArray 50) :: pts b8 (.cells (tabV m).toArray 46) :: Gr b mb rs n m :: L) (fun _ => True) ?_ ?_
    · cases wh2 with
      | false =>
        refine go ?_
        exact ⟨(), ⟨rfl, trivial⟩, rfl, trivial, ent⟩
      | true =>
        refine go ?_
        refine WO.sv rfl ?_
        refine SV.loadR (v := .int .i64 (dst m a c)) (16 * a + c) rfl (rd9' _) (by omega) hdg ?_
        by_cases hge : 0 ≤ dst m a c
        · rw [decide_eq_true hge]
          refine go ?_
          exact ⟨(), ⟨rfl, trivial⟩, rfl, trivial, ent⟩
        · rw [decide_eq_false hge]
          refine go ?_
          exact ⟨(), ⟨rfl, trivial⟩, rfl, trivial, ent⟩
    rintro - bg4 -
    refine go ?_
    refine WO.sv rfl ?_
    refine SV.loadR (v := .int .i64 (dst m a c)) (16 * a + c) rfl (rd9' _) (by omega) hdg ?_
    have hlast : (wh2 && decide (0 ≤ dst m a c)) = true ↔ (wh = true ∧ ∀ b, b < c + 1 → 0 ≤ dst m a b) := by
      rw [Bool.and_eq_true, hwh2, decide_eq_true_iff]
      constructor
      · rintro ⟨⟨z1, z2⟩, z3⟩
        refine ⟨z1, fun b hb => ?_⟩
        by_cases e : b = c
        · subst e; exact z3
        · exact z2 b (by omega)
      · rintro ⟨z1, z2⟩
        exact ⟨⟨z1, fun b hb => z2 b (by omega)⟩, z2 c (by omega)⟩
    by_cases hge : 0 ≤ dst m a c
    · rw [if_pos hge] at hstep
      by_cases hac : a < c
      rotate_left
      · rw [if_neg (fun z => hac z.1)] at hk1
        refine go ?_
        exact ⟨(c + 1, (wh2 && decide (0 ≤ dst m a c)), min x c), ⟨rfl, congrArg (Value.int .i64) hw1.symm, rfl, congrArg (Value.int .i64) (show min (x : Int) (c : Int) = ((min x c : Nat) : Int) by omega), congrArg (fun z : List (Nat × Nat) => Value.int .i64 (z.length : Nat)) hk1.symm, trivial⟩, rfl, ⟨h2, hlast, hstep⟩, by dsimp only; omega, Ent.app ent⟩
      refine go ?_
      refine WO.sv rfl ?_
      refine SV.loadR (v := .bool (m a c)) (a * 16 + c) rfl (rd8' _) (by omega) hmg ?_
      generalize hmv : m a c = mv at *
      cases mv with
      | false =>
        rw [if_neg (fun z => nomatch z.2)] at hk1
        refine go ?_
        exact ⟨(c + 1, (wh2 && decide (0 ≤ dst m a c)), min x c), ⟨rfl, congrArg (Value.int .i64) hw1.symm, rfl, congrArg (Value.int .i64) (show min (x : Int) (c : Int) = ((min x c : Nat) : Int) by omega), congrArg (fun z : List (Nat × Nat) => Value.int .i64 (z.length : Nat)) hk1.symm, trivial⟩, rfl, ⟨h2, hlast, hstep⟩, by dsimp only; omega, Ent.app ent⟩
      | true =>
        rw [if_pos ⟨hac, rfl⟩] at hk1
        obtain ⟨k1, k2⟩ := lk_at m (n := n) h1 h2 hac hmv
        have hsub := flat_sub (g := pV) (n := 2) (fun _ => rfl) (lkO m n n) (lkI m a (lkO m n a) c).length k1
        rw [(List.getElem?_eq_some_iff.1 k2).2] at hsub
        have hkl : (lkI m a (lkO m n a) (c + 1)).length = (lkI m a (lkO m n a) c).length + 1 := by rw [hk1, List.length_append]; rfl
        have hfl := flat_len (g := pV) (n := 2) (fun _ => rfl) (lkO m n n)
        have rdk : ∀ X, RdS 2 ka (lkO m n n).length ((lkO m n n).flatMap pV) (Own 57 2 (.slice ka (lkO m n n).length kc) (lkO m n n).length ((lkO m n n).flatMap pV) :: X) := fun X => RdS.own Tk.here ksa hfl
        obtain ⟨kab, rfl⟩ := ksa (by omega)
        refine go ?_
        refine WO.sv rfl ?_
        refine SV.loadRN ((lkI m a (lkO m n a) c).length * 2) rfl (rdk _) (by omega) (by decide) (by omega) hsub ?_
        refine go ?_
        refine WO.sv rfl ?_
        refine SV.buildArr parts rfl nl ?_
        refine go ?_
        refine WO.sv rfl ?_
        refine SV.neqPair (a := a) (b := c) (a' := a) (b' := c) rfl rfl rfl (by kernel_rfl) (by kernel_rfl) ?_
        rw [decide_eq_true (show (a : Int) = a from rfl), decide_eq_true (show (c : Int) = c from rfl)]
        refine go ?_
        exact ⟨(c + 1, (wh2 && decide (0 ≤ dst m a c)), min x c), ⟨rfl, congrArg (Value.int .i64) hw1.symm, rfl, congrArg (Value.int .i64) (show min (x : Int) (c : Int) = ((min x c : Nat) : Int) by omega), congrArg (fun z : Nat => Value.int .i64 (z : Int)) hkl.symm, trivial⟩, rfl, ⟨h2, hlast, hstep⟩, by dsimp only; omega, Ent.app ent⟩
    · rw [if_neg hge] at hstep
      by_cases hac : a < c
      rotate_left
      · rw [if_neg (fun z => hac z.1)] at hk1
        refine go ?_
        exact ⟨(c + 1, (wh2 && decide (0 ≤ dst m a c)), x), ⟨rfl, congrArg (Value.int .i64) hw1.symm, rfl, rfl, congrArg (fun z : List (Nat × Nat) => Value.int .i64 (z.length : Nat)) hk1.symm, trivial⟩, rfl, ⟨h2, hlast, hstep⟩, by dsimp only; omega, Ent.app ent⟩
      refine go ?_
      refine WO.sv rfl ?_
      refine SV.loadR (v := .bool (m a c)) (a * 16 + c) rfl (rd8' _) (by omega) hmg ?_
      generalize hmv : m a c = mv at *
      cases mv with
      | false =>
        rw [if_neg (fun z => nomatch z.2)] at hk1
        refine go ?_
        exact ⟨(c + 1, (wh2 && decide (0 ≤ dst m a c)), x), ⟨rfl, congrArg (Value.int .i64) hw1.symm, rfl, rfl, congrArg (fun z : List (Nat × Nat) => Value.int .i64 (z.length : Nat)) hk1.symm, trivial⟩, rfl, ⟨h2, hlast, hstep⟩, by dsimp only; omega, Ent.app ent⟩
      | true =>
        rw [if_pos ⟨hac, rfl⟩] at hk1
        obtain ⟨k1, k2⟩ := lk_at m (n := n) h1 h2 hac hmv
        have hsub := flat_sub (g := pV) (n := 2) (fun _ => rfl) (lkO m n n) (lkI m a (lkO m n a) c).length k1
        rw [(List.getElem?_eq_some_iff.1 k2).2] at hsub
        have hkl : (lkI m a (lkO m n a) (c + 1)).length = (lkI m a (lkO m n a) c).length + 1 := by rw [hk1, List.length_append]; rfl
        have hfl := flat_len (g := pV) (n := 2) (fun _ => rfl) (lkO m n n)
        have rdk : ∀ X, RdS 2 ka (lkO m n n).length ((lkO m n n).flatMap pV) (Own 57 2 (.slice ka (lkO m n n).length kc) (lkO m n n).length ((lkO m n n).flatMap pV) :: X) := fun X => RdS.own Tk.here ksa hfl
        obtain ⟨kab, rfl⟩ := ksa (by omega)
        refine go ?_
        refine WO.sv rfl ?_
        refine SV.loadRN ((lkI m a (lkO m n a) c).length * 2) rfl (rdk _) (by omega) (by decide) (by omega) hsub ?_
        refine go ?_
        refine WO.sv rfl ?_
        refine SV.buildArr parts rfl nl ?_
        refine go ?_
        refine WO.sv rfl ?_
        refine SV.neqPair (a := a) (b := c) (a' := a) (b' := c) rfl rfl rfl (by kernel_rfl) (by kernel_rfl) ?_
        rw [decide_eq_true (show (a : Int) = a from rfl), decide_eq_true (show (c : Int) = c from rfl)]
        refine go ?_
        exact ⟨(c + 1, (wh2 && decide (0 ≤ dst m a c)), x), ⟨rfl, congrArg (Value.int .i64) hw1.symm, rfl, rfl, congrArg (fun z : Nat => Value.int .i64 (z : Int)) hkl.symm, trivial⟩, rfl, ⟨h2, hlast, hstep⟩, by dsimp only; omega, Ent.app ent⟩
  obtain rfl : a = n := by omega
  have g5 : GrR b mb rs a m (Own 57 2 (.slice ka (lkO m a a).length kc) (lkO m a a).length ((lkO m a a).flatMap pV) :: OIs pa pc p :: pts b9 (.cells (dV dl).toArray 50) :: pts b8 (.cells (tabV m).toArray 46) :: Gr b mb rs a m :: L) := g.cons.cons.cons.cons
  refine go ?_
  refine W.loopS 6901746346790563787341219757487847665686073142876544441904544544981008 rfl (fun i : Nat => [(18, .int .i64 (i : Int))]) (fun _ => Own 57 2 (.slice ka (lkO m a a).length kc) (lkO m a a).length ((lkO m a a).flatMap pV) :: OIs pa pc p :: pts b9 (.cells (dV dl).toArray 50) :: pts b8 (.cells (tabV m).toArray 46) :: Gr b mb rs a m :: L) (fun i => i ≤ l.length) (fun i => l.length - i) 0 ⟨rfl, trivial⟩ (Nat.zero_le _) (Ent.app ent) ?_
  intro i bg2 hi
  by_cases h2 : i < l.length
  rotate_left
  · refine go ?_
    refine WO.callE (vs := [.pointer (some ⟨b, 0, none⟩)]) Try.func33 rfl rfl rfl rfl (rg_Wide _ ok g5) ?_
    rintro v M ⟨rfl, rfl⟩
    refine go ?_
    refine WO.callE (vs := [.pointer (some ⟨b, 0, none⟩)]) Try.func34 rfl rfl rfl rfl (rg_Whole _ ok g5) ?_
    rintro v M ⟨⟨t, rfl, ht⟩, rfl⟩
    obtain rfl : t = wh := by
      have e : t = true ↔ wh = true := by rw [ht, hwhole, hwh]
      cases t <;> cases wh <;> simp at e ⊢
    cases t with
    | false =>
      refine go ?_
      refine WO.callE (vs := []) Try.func23 rfl rfl rfl rfl (l34_one _) ?_
      rintro v M ⟨rfl, rfl⟩
      refine go ?_
      exact ⟨rfl, [_], ⟨Res.tmp rfl, trivial⟩, L, ent, rfl, rfl⟩
    | true =>
      refine go ?_
      refine WO.callE (vs := []) Try.func23 rfl rfl rfl rfl (l34_one _) ?_
      rintro v M ⟨rfl, rfl⟩
      refine go ?_
      exact ⟨rfl, [_], ⟨Res.tmp rfl, trivial⟩, L, ent, rfl, rfl⟩
  by_cases h3 : i < 60
  rotate_left
  · refine go ?_
    refine WO.callE (vs := [.pointer (some ⟨b, 0, none⟩)]) Try.func33 rfl rfl rfl rfl (rg_Wide _ ok g5) ?_
    rintro v M ⟨rfl, rfl⟩
    refine go ?_
    refine WO.callE (vs := [.pointer (some ⟨b, 0, none⟩)]) Try.func34 rfl rfl rfl rfl (rg_Whole _ ok g5) ?_
    rintro v M ⟨⟨t, rfl, ht⟩, rfl⟩
    obtain rfl : t = wh := by
      have e : t = true ↔ wh = true := by rw [ht, hwhole, hwh]
      cases t <;> cases wh <;> simp at e ⊢
    cases t with
    | false =>
      refine go ?_
      refine WO.callE (vs := []) Try.func23 rfl rfl rfl rfl (l34_one _) ?_
      rintro v M ⟨rfl, rfl⟩
      refine go ?_
      exact ⟨rfl, [_], ⟨Res.tmp rfl, trivial⟩, L, ent, rfl, rfl⟩
    | true =>
      refine go ?_
      refine WO.callE (vs := []) Try.func23 rfl rfl rfl rfl (l34_one _) ?_
      rintro v M ⟨rfl, rfl⟩
      refine go ?_
      exact ⟨rfl, [_], ⟨Res.tmp rfl, trivial⟩, L, ent, rfl, rfl⟩
  obtain ⟨ab, ao, rfl⟩ := r.at (by omega)
  have g0 := flat_get (g := zzD) (n := 2) (fun _ => rfl) l i 0 h2 (by decide)
  have g1 := flat_get (g := zzD) (n := 2) (fun _ => rfl) l i 1 h2 (by decide)
  generalize l[i] = x at g0 g1
  obtain ⟨x, y⟩ := x
  refine go ?_
  refine W.drawA rfl (by kernel_rfl) (by kernel_rfl) ?_
  refine go ?_
  refine DA.q (v := .int .i64 x) rfl rfl (SV.loadR (i * 2 + 0) rfl rds (by omega) g0 eqq) ?_
  refine go ?_
  refine DA.q (v := .int .i64 y) rfl rfl (SV.loadR (i * 2 + 1) rfl rds (by omega) g1 eqq) ?_
  by_cases hin : (0 ≤ x ∧ x < a) ∧ (0 ≤ y ∧ y < a)
  · obtain ⟨⟨p1, p2⟩, p3, p4⟩ := hin
    refine go ?_
    exact ⟨i + 1, ⟨rfl, trivial⟩, rfl, by omega, by omega, Ent.app ent⟩
  have hf1 : far m a x y = -1 := by unfold far inG; rw [if_neg hin]
  have hlk : (decide (0 ≤ x ∧ x < (a : Int)) && decide (0 ≤ y ∧ y < (a : Int)) && m x.toNat y.toNat) = false := by
    by_cases q1 : 0 ≤ x ∧ x < (a : Int)
    · rw [decide_eq_false (show ¬(0 ≤ y ∧ y < (a : Int)) from fun q2 => hin ⟨q1, q2⟩), Bool.and_false, Bool.false_and]
    · rw [decide_eq_false q1, Bool.false_and, Bool.false_and]
  have hwy : ∀ w, WayP m a x y w → w = [] := by
    rintro w (⟨e, _⟩ | ⟨z1, z2, _⟩)
    · exact e
    · exact absurd ⟨z1, z2⟩ hin
  have hlo : ¬lkOk a x y := fun z => hin ⟨z.1, z.2.1⟩
  have hcs : x < 0 ∨ (0 ≤ x ∧ a ≤ x) ∨ (0 ≤ x ∧ x < a ∧ y < 0) ∨ (0 ≤ x ∧ x < a ∧ 0 ≤ y ∧ a ≤ y) := by omega
  rcases hcs with p1 | ⟨p1, p2⟩ | ⟨p1, p2, p3⟩ | ⟨p1, p2, p3, p4⟩
  all_goals
    refine go ?_
    refine WO.callE (vs := [.pointer (some ⟨b, 0, none⟩), .int .i64 x, .int .i64 y]) Try.func29 rfl rfl rfl rfl (rg_far _ x y ok g5) ?_
    rintro v M ⟨rfl, rfl, q1, q2⟩
    rw [hf1]
    refine go ?_
    refine WO.callE (vs := [.pointer (some ⟨b, 0, none⟩), .int .i64 x, .int .i64 y]) Try.func30 rfl rfl rfl rfl (rg_Linked _ x y g5) ?_
    rintro v M ⟨rfl, rfl⟩
    rw [hlk]
    refine go ?_
    refine WO.callE (vs := [.pointer (some ⟨b, 0, none⟩), .int .i64 x, .int .i64 y]) Try.func31 rfl rfl rfl rfl (rg_Way _ x y ok g5) ?_
    rintro v M ⟨wa, wc, w, rfl, was, rfl, hw⟩
    obtain rfl := hwy w hw
    refine go ?_
    refine WO.callE (vs := [.pointer (some ⟨b, 0, none⟩), .int .i64 x, .int .i64 y]) Try.func32 rfl rfl rfl rfl (TriE.ent ent (rg_Link (m := m) (Own 57 2 (.slice ka (lkO m a a).length kc) (lkO m a a).length ((lkO m a a).flatMap pV) :: OIs pa pc p :: pts b9 (.cells (dV dl).toArray 50) :: pts b8 (.cells (tabV m).toArray 46) :: L) x y hlen)) ?_
    rintro v M ⟨rfl, rfl⟩
    rw [if_neg hlo, if_neg hlo]
    refine go ?_
    exact ⟨i + 1, ⟨rfl, trivial⟩, rfl, by omega, by omega, Ent.app ent⟩
end Go.SL

/- Pairs that came in. -/
namespace Go.SL
theorem RdT.int2 {P : Program} {w : World} {t e : TypeId} {xs : List Value} (ht : P.underlying t = some (.array 2 e)) (he : P.underlying e = some (.int .i64)) (hC : P.cellsOf e = 1) (hl : xs.length = 2) (h : RdT P w t xs) :
    ∃ a0 a1 : Int, xs = [.int .i64 a0, .int .i64 a1] := by
  obtain ⟨_, hf⟩ := h.arr ht
  rw [hC] at hf
  match xs, hl with
  | [x0, x1], _ =>
    obtain ⟨n0, e0, g0⟩ := (hf 0 (by decide)).i64 he
    obtain ⟨n1, e1, g1⟩ := (hf 1 (by decide)).i64 he
    have q0 : [x0] = [Value.int .i64 n0] := e0
    have q1 : [x1] = [Value.int .i64 n1] := e1
    injection q0 with q0; injection q1 with q1
    subst q0; subst q1
    exact ⟨n0, n1, rfl⟩
end Go.SL
