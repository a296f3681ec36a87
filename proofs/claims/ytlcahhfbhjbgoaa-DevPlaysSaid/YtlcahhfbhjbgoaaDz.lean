/- Layer 7: a device: Write, Flush, Fall, Clone, each walked once. -/
import Derived.Test.YtlcahhfbhjbgoaaDy
namespace Go.SL
open Go.Proofs
set_option linter.unusedVariables false
set_option maxRecDepth 10000
attribute [local irreducible] W WO SV OW SW Tri Ent Tk Has Src SrcK DA DB RdS Own

theorem dv_Write (b : Nat) (d : Dv) (n : Int) (a : Option Addr) (c : Nat) (s : Byt) (R : List HP) (ok : d.Ok) (hls : s.length ≤ 9223372036854775807) (hw : d.waits.length ≤ 1000000) (r : RdS 1 a s.length (s.map u8V) R) :
    TriE Try.prog 36 #[.pointer (some ⟨b, 0, none⟩), .int .i64 n, .slice a s.length c] (fun v M => v = .int .i64 (d.put n s).2 ∧ M = DevH b (d.put n s).1 :: R) (DevH b d :: R) := by
  refine DevH.opens fun x h1 h2 h3 => ?_
  have hcall := dv_call b x d (d.is n && decide (s.length = 256)) R ok.arm
  have hc := DevH.close (b := b) (d := (d.call (d.is n && decide (s.length = 256))).1) (R := R) x (by simpa using h1) (by simpa using h2) (by simpa using h3) (Ent.refl _)
  obtain ⟨ka, kc, na, nc, wa, wc⟩ := x
  unfold Dv.put
  generalize hdc : d.call (d.is n && decide (s.length = 256)) = dc at hcall hc ⊢
  have k1 : dc.1.kept = d.kept := by rw [← hdc]; simp
  have k2 : dc.1.now = d.now := by rw [← hdc]; simp
  have k3 : dc.1.waits = d.waits := by rw [← hdc]; simp
  have hz : dc.2 = 0 → d.kept.length ≠ 0 ∧ (d.is n && decide (s.length = 256)) = true := fun h => Dv.call_zero (by rw [hdc]; exact h)
  simp only [dvL, List.cons_append, List.nil_append, k1, k2, k3] at hcall hc ⊢
  refine Tri.of (N := 47) (args := [.pointer (some ⟨b, 0, none⟩), .int .i64 n, .slice a s.length c]) Try.func36 rfl rfl rfl ?_
  refine go ?_
  refine WO.callE (vs := [.pointer (some ⟨b, 0, none⟩), .int .i64 n]) Try.func65 rfl rfl rfl rfl (dv_is b _ _ n _ _ _ _ _ _ _ (RdS.all rfl)) ?_
  rintro v M ⟨rfl, rfl⟩
  rw [show (decide (0 ≤ n) && decide (n < d.kept.length)) = d.is n from rfl]
  cases his : d.is n with
  | false =>
    rw [his, Bool.false_and] at hcall
    have he : dc.2 ≠ 0 := fun h => by have := (hz h).2; rw [his] at this; cases this
    rw [if_neg he]
    refine go ?_
    refine WO.callE (vs := [.pointer (some ⟨b, 0, none⟩), .bool false]) Try.func64 rfl rfl rfl rfl hcall ?_
    rintro v M ⟨rfl, rfl⟩
    refine go ?_
    exact ⟨rfl, [_], ⟨Res.tmp rfl, trivial⟩, _, hc, rfl, rfl⟩
  | true =>
    by_cases hs : s.length = 256
    · rw [his, decide_eq_true hs, Bool.true_and] at hcall
      refine go ?_
      refine WO.callE (vs := [.pointer (some ⟨b, 0, none⟩), .bool true]) Try.func64 rfl rfl rfl rfl hcall ?_
      rintro v M ⟨rfl, rfl⟩
      by_cases he : dc.2 = 0
      · rw [if_pos he]
        obtain ⟨hk, _⟩ := hz he
        have hn : 0 ≤ n ∧ n < d.kept.length := by simpa [Dv.is] using his
        have hnow := ok.now
        have hsz := ok.size
        obtain ⟨nb, rfl⟩ := h2 (by omega)
        refine go ?_
        refine W.drawA rfl (by kernel_rfl) (by kernel_rfl) ?_
        refine go ?_
        refine DA.q (v := strV s) rfl rfl (SV.toStrR rfl (RdS.cons (RdS.cons (RdS.cons (RdS.cons r)))) eqq) ?_
        refine go ?_
        refine DA.v rfl rfl rfl ?_
        refine SV.storeO n.toNat (v := strV s) (xs' := (d.now.set n.toNat s).map strV) rfl tk (by omega) rfl rfl (by simp; omega) (by rw [List.map_set]) ?_
        refine go ?_
        have hget : ((d.now.set n.toNat s).map strV)[n.toNat]? = some (strV s) := by
          rw [List.getElem?_map, List.getElem?_set]; simp; omega
        have hlw : (d.waits.flatMap wrV).length = d.waits.length * 2 := flat_len (n := 2) (fun _ => rfl) _
        refine W.drawC 18 #[0, 0, 2, 6, 14, 0, 0, 64, 192, 448, 0, 1984, 4032, 8160, 16352, 32766, 65535, 131071, 262143]
          [pts b (.cells [Value.slice ka d.kept.length kc, Value.slice (some ⟨nb, 0, none⟩) d.now.length nc, Value.slice wa d.waits.length wc, .int .i64 dc.1.arm, .bool dc.1.down, .int .i64 dc.1.ops].toArray 98), Own 9 1 (.slice (some ⟨nb, 0, none⟩) d.now.length nc) d.now.length ((d.now.set n.toNat s).map strV)]
          (Own 9 1 (.slice ka d.kept.length kc) d.kept.length (d.kept.map strV) :: Own 113 2 (.slice wa d.waits.length wc) d.waits.length (d.waits.flatMap wrV) :: R) rfl (by kernel_rfl) (by kernel_rfl) (by kernel_rfl) (by kernel_rfl) rfl rfl rfl ent ?_
        refine go ?_
        refine DB.q (v := strV s) rfl rfl hl ?_ ?_
        · refine SV.loadR n.toNat rfl (RdS.own (Tk.there Tk.here) h2 (by simp)) (by omega) hget ?_
          exact eqq
        refine go ?_
        refine DB.v rfl rfl rfl hl hl ?_
        refine SV.lit rfl rfl rfl parts rfl nl ?_
        intro b2
        refine ⟨[], pts b2 (.cells [Value.int .i64 n, strV s].toArray 113) :: Own 9 1 (.slice ka d.kept.length kc) d.kept.length (d.kept.map strV) :: Own 113 2 (.slice wa d.waits.length wc) d.waits.length (d.waits.flatMap wrV) :: R, ent, ?_⟩
        refine DB.v rfl rfl rfl hl hl ?_
        refine SV.append rfl rfl rfl tk (RdS.src (RdS.all (sz := 2) (n := 1) rfl)) rfl rfl (by omega) rfl ?_
        intro wa' wc' hwa'
        refine ⟨[], Own 113 2 (.slice wa' (d.waits.length + 1) wc') (d.waits.length + 1) (d.waits.flatMap wrV ++ [Value.int .i64 n, strV s]) :: Own 9 1 (.slice ka d.kept.length kc) d.kept.length (d.kept.map strV) :: R, ent, ?_⟩
        refine go ?_
        refine ⟨pts b (.cells [Value.slice ka d.kept.length kc, Value.slice (some ⟨nb, 0, none⟩) d.now.length nc, Value.slice wa d.waits.length wc, .int .i64 dc.1.arm, .bool dc.1.down, .int .i64 dc.1.ops].toArray 98) :: Own 9 1 (.slice (some ⟨nb, 0, none⟩) d.now.length nc) d.now.length ((d.now.set n.toNat s).map strV) ::
          Own 113 2 (.slice wa' (d.waits.length + 1) wc') (d.waits.length + 1) (d.waits.flatMap wrV ++ [Value.int .i64 n, strV s]) :: Own 9 1 (.slice ka d.kept.length kc) d.kept.length (d.kept.map strV) :: R, ent, OW.sv ?_⟩
        refine SV.store rfl rfl cel rfl rfl rfl frz le0 nl ?_
        refine ⟨_, Ent.refl _, ?_⟩
        refine go ?_
        refine ⟨rfl, [_], ⟨Res.tmp rfl, trivial⟩, DevH b ⟨d.kept, d.now.set n.toNat s, d.waits ++ [(n.toNat, s)], dc.1.arm, dc.1.down, dc.1.ops⟩ :: R, ?_, ?_, rfl⟩
        · refine DevH.close (ka, kc, some ⟨nb, 0, none⟩, nc, wa', wc') h1 (fun _ => ⟨nb, rfl⟩) (fun _ => hwa' (by omega)) ?_
          have e1 : (d.waits ++ [(n.toNat, s)]).flatMap wrV = d.waits.flatMap wrV ++ [Value.int .i64 n, strV s] := by
            rw [List.flatMap_append]; simp [wrV, Int.toNat_of_nonneg hn.1]
          simp only [dvL, List.length_set, List.length_append, List.length_singleton, e1, List.cons_append, List.nil_append]
          exact ent
        · rw [he]; rfl
      · rw [if_neg he]
        refine go ?_
        exact ⟨rfl, [_], ⟨Res.tmp rfl, trivial⟩, _, hc, rfl, rfl⟩
    · rw [his, decide_eq_false hs, Bool.true_and] at hcall
      have he : dc.2 ≠ 0 := fun h => by have := (hz h).2; rw [his, decide_eq_false hs] at this; cases this
      rw [if_neg he]
      refine go ?_
      refine WO.callE (vs := [.pointer (some ⟨b, 0, none⟩), .bool false]) Try.func64 rfl rfl rfl rfl hcall ?_
      rintro v M ⟨rfl, rfl⟩
      refine go ?_
      exact ⟨rfl, [_], ⟨Res.tmp rfl, trivial⟩, _, hc, rfl, rfl⟩

theorem dv_Flush (b : Nat) (d : Dv) (R : List HP) (ok : d.Ok) (hw : d.waits.length ≤ 1000000000) :
    TriE Try.prog 38 #[.pointer (some ⟨b, 0, none⟩)] (fun v M => v = .int .i64 d.flush.2 ∧ M = DevH b d.flush.1 :: R) (DevH b d :: R) := by
  refine DevH.opens fun x h1 h2 h3 => ?_
  have hcall := dv_call b x d true R ok.arm
  have hc := DevH.close (b := b) (d := (d.call true).1) (R := R) x (by simpa using h1) (by simpa using h2) (by simpa using h3) (Ent.refl _)
  obtain ⟨ka, kc, na, nc, wa, wc⟩ := x
  unfold Dv.flush
  generalize hdc : d.call true = dc at hcall hc ⊢
  have k1 : dc.1.kept = d.kept := by rw [← hdc]; simp
  have k2 : dc.1.now = d.now := by rw [← hdc]; simp
  have k3 : dc.1.waits = d.waits := by rw [← hdc]; simp
  simp only [dvL, List.cons_append, List.nil_append, k1, k2, k3] at hcall hc ⊢
  refine Tri.of (N := 33) (args := [.pointer (some ⟨b, 0, none⟩)]) Try.func38 rfl rfl rfl ?_
  refine go ?_
  refine WO.callE (vs := [.pointer (some ⟨b, 0, none⟩), .bool true]) Try.func64 rfl rfl rfl rfl hcall ?_
  rintro v M ⟨rfl, rfl⟩
  by_cases he : dc.2 = 0
  · rw [if_pos he, he]
    refine go ?_
    have hlw : (d.waits.flatMap wrV).length = d.waits.length * 2 := flat_len (n := 2) (fun _ => rfl) _
    have hlk := flushN_len d.kept d.waits
    refine W.loopS 536838176 rfl (fun i : Nat => [(15, .int .i64 i)])
      (fun i => pts b (.cells [Value.slice ka d.kept.length kc, Value.slice na d.now.length nc, Value.slice wa d.waits.length wc, .int .i64 dc.1.arm, .bool dc.1.down, .int .i64 dc.1.ops].toArray 98) :: Own 9 1 (.slice ka d.kept.length kc) d.kept.length ((flushN d.kept d.waits i).map strV) ::
        Own 9 1 (.slice na d.now.length nc) d.now.length (d.now.map strV) :: Own 113 2 (.slice wa d.waits.length wc) d.waits.length (d.waits.flatMap wrV) :: R) (fun i => i ≤ d.waits.length) (fun i => d.waits.length - i) 0 ⟨rfl, trivial⟩ (Nat.zero_le _) (Ent.app (Ent.refl _)) ?_
    intro i bg hi
    refine go ?_
    refine WO.sv rfl ?_
    refine SV.lssC rfl rfl ?_ ?_
    · intro hlt
      have hi' : i < d.waits.length := by omega
      obtain ⟨wb, rfl⟩ := h3 (by omega)
      have hsub := flat_sub (g := wrV) (n := 2) (fun _ => rfl) d.waits i hi'
      have hwi := ok.w256 _ (List.getElem_mem hi')
      have hgd : d.waits.getD i (0, []) = d.waits[i] := by simp [hi']
      have hfl : flushN d.kept d.waits (i + 1) = (flushN d.kept d.waits i).set d.waits[i].1 d.waits[i].2 := by rw [flushN, hgd]
      generalize d.waits[i] = w at hsub hwi hgd hfl
      obtain ⟨wn, ws⟩ := w
      dsimp only at hwi hfl
      obtain ⟨kb, rfl⟩ := h1 (by omega)
      refine go ?_
      refine WO.sv rfl ?_
      refine SV.loadRN (i * 2) rfl (RdS.own tk h3 hlw) (by simp) (by decide) (by omega) hsub ?_
      refine go ?_
      intro b5
      refine go ?_
      refine W.drawA rfl (by kernel_rfl) (by kernel_rfl) ?_
      refine go ?_
      refine DA.v rfl rfl rfl ?_
      refine SV.storeO wn (v := strV ws) (xs' := (flushN d.kept d.waits (i + 1)).map strV) rfl tk (by omega) rfl rfl (by simp [hlk]; omega) (by rw [hfl, List.map_set]) ?_
      refine go ?_
      exact ⟨i + 1, ⟨rfl, trivial⟩, rfl, by omega, by omega, Ent.app ent⟩
    · intro hlt
      obtain rfl : i = d.waits.length := by omega
      refine go ?_
      refine ⟨rfl, [_], ⟨Res.tmp rfl, trivial⟩, DevH b ⟨flushN d.kept d.waits d.waits.length, d.now, [], dc.1.arm, dc.1.down, dc.1.ops⟩ :: R, ?_, rfl, rfl⟩
      refine DevH.close (ka, kc, na, nc, none, 0) (by rw [hlk]; exact h1) h2 (fun h => absurd rfl h) ?_
      simp only [dvL, hlk, List.cons_append, List.nil_append]
      exact Ent.take tk (Ent.take tk (Ent.take tk (Ent.ownNil ent)))
  · rw [if_neg he]
    refine go ?_
    exact ⟨rfl, [_], ⟨Res.tmp rfl, trivial⟩, _, hc, rfl, rfl⟩
end Go.SL
