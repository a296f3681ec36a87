/- Layer 7: the document's device: what its functions do, each walked once. -/
import Derived.Test.YtlcahhfbhjbgoaaDk
namespace Go.SL
open Go.Proofs
set_option linter.unusedVariables false
set_option maxRecDepth 10000
set_option maxHeartbeats 4000000
attribute [local irreducible] W WO SV OW SW Tri Ent Tk Has Src SrcK DA DB RdS Own

def iN (n : Nat) : Value := .int .i64 n
abbrev rvL (ka : Option Addr) (kc : Nat) (aa : Option Addr) (ac : Nat) (ba : Option Addr) (bc : Nat) (d : Dv) : List Value :=
  [.slice ka d.kept.length kc, .slice aa d.waits.length ac, .slice ba d.waits.length bc, .int .i64 d.arm, .bool d.down, .int .i64 d.ops]
abbrev ats (d : Dv) : List Value := d.waits.map fun w => iN w.1
abbrev bts (d : Dv) : List Value := d.waits.map fun w => strV w.2

theorem rf_New (n : Int) (L : List HP) (h1 : 1 ≤ n) (h2 : n ≤ 4096) : TriE Try.prog 45 #[.int .i64 n]
    (fun v M => ∃ ka kc, v = .tuple #[.agg (rvL ka kc none 0 none 0 (Dv.new n.toNat)).toArray, .int .i64 0] ∧ SomeA ka (Dv.new n.toNat).kept.length ∧
      M = Own 9 1 (.slice ka (Dv.new n.toNat).kept.length kc) (Dv.new n.toNat).kept.length ((Dv.new n.toNat).kept.map strV) :: L) L := by
  obtain ⟨m, rfl⟩ : ∃ m : Nat, n = m := ⟨n.toNat, by omega⟩
  rw [Int.toNat_natCast]
  refine Tri.of (N := 29) (args := [.int .i64 m]) Try.func45 rfl rfl rfl ?_
  refine go ?_
  intro b2
  refine go ?_
  refine WO.sv rfl ?_
  refine SV.makeSlice rfl (m := 256) rfl (by decide) (by decide) ?_
  intro b1
  refine WO.sv rfl ?_
  refine SV.toStr (bs := zero256) rfl (by simp) ?_ ?_
  · rw [lsub_eq, List.drop_zero, List.take_of_length_le (by simp), zero256, List.map_replicate]; rfl
  refine go ?_
  intro b5
  refine go ?_
  refine W.loopS 268304448 rfl (fun s : Nat × Option Addr × Nat => [(6, .int .i64 s.1)])
    (fun s => pts b5 (.cells [Value.slice s.2.1 s.1 s.2.2, Value.slice none 0 0, Value.slice none 0 0, Value.int .i64 (-1), Value.bool false, Value.int .i64 0].toArray 80) :: Own 9 1 (.slice s.2.1 s.1 s.2.2) s.1 (List.replicate s.1 (strV zero256)) ::
      pts b2 (.cells [Value.slice none 0 0, Value.slice none 0 0, Value.slice none 0 0, Value.int .i64 0, Value.bool false, Value.int .i64 0].toArray 80) :: L)
    (fun s => s.1 ≤ m ∧ (s.1 ≠ 0 → ∃ b, s.2.1 = some ⟨b, 0, none⟩)) (fun s => m - s.1) (0, none, 0) ⟨rfl, trivial⟩ ⟨Nat.zero_le _, fun h => absurd rfl h⟩ (Ent.app (Ent.take tk (Ent.ownNil ent))) ?_
  rintro ⟨i, ka, kc⟩ bg ⟨hi, hka⟩
  dsimp only at hi hka ⊢
  refine go ?_
  refine WO.sv rfl ?_
  refine SV.lssC rfl rfl ?_ ?_
  · intro hlt
    refine go ?_
    refine WO.sv rfl ?_
    refine SV.lit rfl rfl rfl parts rfl nl ?_
    intro bl
    refine WO.sv rfl ?_
    refine SV.append rfl rfl rfl (Tk.there (Tk.there Tk.here)) (RdS.src (RdS.all (sz := 1) (n := 1) rfl)) rfl rfl (by omega) rfl ?_
    intro ka' kc' hka'
    refine go ?_
    refine ⟨(i + 1, ka', kc'), ⟨rfl, trivial⟩, rfl, ⟨by dsimp only; omega, fun _ => hka' (by omega)⟩, by dsimp only; omega, Ent.app ?_⟩
    dsimp only
    rw [List.replicate_succ']
    exact ent
  · intro hlt
    obtain rfl : i = m := by omega
    refine go ?_
    have hl1 : (Dv.new i).kept.length = i := by simp [Dv.new]
    refine ⟨rfl, [_, _], ⟨Res.cell rfl le0 nl, Res.tmp rfl, trivial⟩, _, ?_, ka, kc, ?_, ?_, rfl⟩
    · rw [hl1, show (Dv.new i).kept.map strV = List.replicate i (strV zero256) by simp [Dv.new]]
      exact ent
    · simp only [rvL, hl1]; rfl
    · rw [hl1]; exact hka
theorem rf_NewBad (n : Int) (L : List HP) (h : n < 1 ∨ 4096 < n) : TriE Try.prog 45 #[.int .i64 n] (fun v M => v = .tuple #[.agg [Value.slice none 0 0, Value.slice none 0 0, Value.slice none 0 0, Value.int .i64 0, Value.bool false, Value.int .i64 0].toArray, .int .i64 2] ∧ M = L) L := by
  refine Tri.of (N := 29) (args := [.int .i64 n]) Try.func45 rfl rfl rfl ?_
  refine go ?_
  intro b2
  by_cases h1 : n < 1
  · refine go ?_
    exact ⟨rfl, [_, _], ⟨Res.cell rfl le0 nl, Res.tmp rfl, trivial⟩, L, ent, rfl, rfl⟩
  · refine go ?_
    exact ⟨rfl, [_, _], ⟨Res.cell rfl le0 nl, Res.tmp rfl, trivial⟩, L, ent, rfl, rfl⟩

theorem rf_Call (ka : Option Addr) (kc : Nat) (aa : Option Addr) (ac : Nat) (ba : Option Addr) (bc : Nat) (d : Dv) (L : List HP) (hk : d.kept.length ≠ 0) (ha : -1 ≤ d.arm ∧ d.arm ≤ 9223372036854775807) :
    TriE Try.prog 49 #[.agg (rvL ka kc aa ac ba bc d).toArray]
      (fun v M => v = .tuple #[.agg (rvL ka kc aa ac ba bc (d.call true).1).toArray, .bool (decide ((d.call true).2 = 0))] ∧ M = L) L := by
  obtain ⟨kept, now, waits, arm, down, ops⟩ := d
  dsimp only at hk ha
  have e : Dv.call ⟨kept, now, waits, arm, down, ops⟩ true = (⟨kept, now, waits, max (-1) (arm - 1), down || decide (arm = 0), IntKind.i64.wrap (ops + 1)⟩, if down || decide (arm = 0) then 17 else 0) := by
    unfold Dv.call; rw [if_neg hk, if_neg (by decide)]
  rw [e]
  simp only [rvL]
  refine Tri.of (N := 23) (args := [.agg [.slice ka kept.length kc, .slice aa waits.length ac, .slice ba waits.length bc, .int .i64 arm, .bool down, .int .i64 ops].toArray]) Try.func49 rfl rfl rfl ?_
  refine go ?_
  intro b1
  refine go ?_
  intro b2
  by_cases h0 : arm = 0
  · rw [show max (-1) (arm - 1) = arm - 1 by omega, decide_eq_true h0, Bool.or_true, if_pos rfl]
    refine go ?_
    refine W.drawB #[0, 0, 2, 6, 1, 31] [pts b1 (.cells [Value.slice ka kept.length kc, Value.slice aa waits.length ac, Value.slice ba waits.length bc, Value.int .i64 (arm - 1), Value.bool true, Value.int .i64 (IntKind.i64.wrap (ops + 1))].toArray 80)] (pts b2 (.cells [Value.slice none 0 0, Value.slice none 0 0, Value.slice none 0 0, Value.int .i64 0, Value.bool false, Value.int .i64 0].toArray 80) :: L) rfl (by kernel_rfl) (by kernel_rfl) (by kernel_rfl) ent ?_
    refine go ?_
    refine DB.v rfl rfl rfl hl hl ?_
    refine SV.store rfl rfl cel rfl rfl rfl frz le0 nl ?_
    refine ⟨[], pts b2 (.cells [Value.slice ka kept.length kc, Value.slice aa waits.length ac, Value.slice ba waits.length bc, Value.int .i64 (arm - 1), Value.bool true, Value.int .i64 (IntKind.i64.wrap (ops + 1))].toArray 80) :: L, ent, ?_⟩
    refine go ?_
    refine ⟨pts b2 (.cells [Value.slice ka kept.length kc, Value.slice aa waits.length ac, Value.slice ba waits.length bc, Value.int .i64 (arm - 1), Value.bool true, Value.int .i64 (IntKind.i64.wrap (ops + 1))].toArray 80) :: L, ent, ?_⟩
    refine go ?_
    exact ⟨rfl, [_, _], ⟨Res.cell rfl le0 nl, Res.tmp rfl, trivial⟩, L, ent, rfl, rfl⟩
  · by_cases h1 : 0 < arm
    · rw [show max (-1) (arm - 1) = arm - 1 by omega, decide_eq_false h0, Bool.or_false]
      cases down
      · rw [if_neg (by decide)]
        refine go ?_
        refine W.drawB #[0, 0, 2, 6, 1, 31] [pts b1 (.cells [Value.slice ka kept.length kc, Value.slice aa waits.length ac, Value.slice ba waits.length bc, Value.int .i64 (arm - 1), Value.bool false, Value.int .i64 (IntKind.i64.wrap (ops + 1))].toArray 80)] (pts b2 (.cells [Value.slice none 0 0, Value.slice none 0 0, Value.slice none 0 0, Value.int .i64 0, Value.bool false, Value.int .i64 0].toArray 80) :: L) rfl (by kernel_rfl) (by kernel_rfl) (by kernel_rfl) ent ?_
        refine go ?_
        refine DB.v rfl rfl rfl hl hl ?_
        refine SV.store rfl rfl cel rfl rfl rfl frz le0 nl ?_
        refine ⟨[], pts b2 (.cells [Value.slice ka kept.length kc, Value.slice aa waits.length ac, Value.slice ba waits.length bc, Value.int .i64 (arm - 1), Value.bool false, Value.int .i64 (IntKind.i64.wrap (ops + 1))].toArray 80) :: L, ent, ?_⟩
        refine go ?_
        refine ⟨pts b2 (.cells [Value.slice ka kept.length kc, Value.slice aa waits.length ac, Value.slice ba waits.length bc, Value.int .i64 (arm - 1), Value.bool false, Value.int .i64 (IntKind.i64.wrap (ops + 1))].toArray 80) :: L, ent, ?_⟩
        refine go ?_
        exact ⟨rfl, [_, _], ⟨Res.cell rfl le0 nl, Res.tmp rfl, trivial⟩, L, ent, rfl, rfl⟩
      · rw [if_pos rfl]
        refine go ?_
        refine W.drawB #[0, 0, 2, 6, 1, 31] [pts b1 (.cells [Value.slice ka kept.length kc, Value.slice aa waits.length ac, Value.slice ba waits.length bc, Value.int .i64 (arm - 1), Value.bool true, Value.int .i64 (IntKind.i64.wrap (ops + 1))].toArray 80)] (pts b2 (.cells [Value.slice none 0 0, Value.slice none 0 0, Value.slice none 0 0, Value.int .i64 0, Value.bool false, Value.int .i64 0].toArray 80) :: L) rfl (by kernel_rfl) (by kernel_rfl) (by kernel_rfl) ent ?_
        refine go ?_
        refine DB.v rfl rfl rfl hl hl ?_
        refine SV.store rfl rfl cel rfl rfl rfl frz le0 nl ?_
        refine ⟨[], pts b2 (.cells [Value.slice ka kept.length kc, Value.slice aa waits.length ac, Value.slice ba waits.length bc, Value.int .i64 (arm - 1), Value.bool true, Value.int .i64 (IntKind.i64.wrap (ops + 1))].toArray 80) :: L, ent, ?_⟩
        refine go ?_
        refine ⟨pts b2 (.cells [Value.slice ka kept.length kc, Value.slice aa waits.length ac, Value.slice ba waits.length bc, Value.int .i64 (arm - 1), Value.bool true, Value.int .i64 (IntKind.i64.wrap (ops + 1))].toArray 80) :: L, ent, ?_⟩
        refine go ?_
        exact ⟨rfl, [_, _], ⟨Res.cell rfl le0 nl, Res.tmp rfl, trivial⟩, L, ent, rfl, rfl⟩
    · rw [show max (-1) (arm - 1) = arm by omega, decide_eq_false h0, Bool.or_false]
      cases down
      · rw [if_neg (by decide)]
        refine go ?_
        refine W.drawB #[0, 0, 2, 6, 1, 31] [pts b1 (.cells [Value.slice ka kept.length kc, Value.slice aa waits.length ac, Value.slice ba waits.length bc, Value.int .i64 arm, Value.bool false, Value.int .i64 (IntKind.i64.wrap (ops + 1))].toArray 80)] (pts b2 (.cells [Value.slice none 0 0, Value.slice none 0 0, Value.slice none 0 0, Value.int .i64 0, Value.bool false, Value.int .i64 0].toArray 80) :: L) rfl (by kernel_rfl) (by kernel_rfl) (by kernel_rfl) ent ?_
        refine go ?_
        refine DB.v rfl rfl rfl hl hl ?_
        refine SV.store rfl rfl cel rfl rfl rfl frz le0 nl ?_
        refine ⟨[], pts b2 (.cells [Value.slice ka kept.length kc, Value.slice aa waits.length ac, Value.slice ba waits.length bc, Value.int .i64 arm, Value.bool false, Value.int .i64 (IntKind.i64.wrap (ops + 1))].toArray 80) :: L, ent, ?_⟩
        refine go ?_
        refine ⟨pts b2 (.cells [Value.slice ka kept.length kc, Value.slice aa waits.length ac, Value.slice ba waits.length bc, Value.int .i64 arm, Value.bool false, Value.int .i64 (IntKind.i64.wrap (ops + 1))].toArray 80) :: L, ent, ?_⟩
        refine go ?_
        exact ⟨rfl, [_, _], ⟨Res.cell rfl le0 nl, Res.tmp rfl, trivial⟩, L, ent, rfl, rfl⟩
      · rw [if_pos rfl]
        refine go ?_
        refine W.drawB #[0, 0, 2, 6, 1, 31] [pts b1 (.cells [Value.slice ka kept.length kc, Value.slice aa waits.length ac, Value.slice ba waits.length bc, Value.int .i64 arm, Value.bool true, Value.int .i64 (IntKind.i64.wrap (ops + 1))].toArray 80)] (pts b2 (.cells [Value.slice none 0 0, Value.slice none 0 0, Value.slice none 0 0, Value.int .i64 0, Value.bool false, Value.int .i64 0].toArray 80) :: L) rfl (by kernel_rfl) (by kernel_rfl) (by kernel_rfl) ent ?_
        refine go ?_
        refine DB.v rfl rfl rfl hl hl ?_
        refine SV.store rfl rfl cel rfl rfl rfl frz le0 nl ?_
        refine ⟨[], pts b2 (.cells [Value.slice ka kept.length kc, Value.slice aa waits.length ac, Value.slice ba waits.length bc, Value.int .i64 arm, Value.bool true, Value.int .i64 (IntKind.i64.wrap (ops + 1))].toArray 80) :: L, ent, ?_⟩
        refine go ?_
        refine ⟨pts b2 (.cells [Value.slice ka kept.length kc, Value.slice aa waits.length ac, Value.slice ba waits.length bc, Value.int .i64 arm, Value.bool true, Value.int .i64 (IntKind.i64.wrap (ops + 1))].toArray 80) :: L, ent, ?_⟩
        refine go ?_
        exact ⟨rfl, [_, _], ⟨Res.cell rfl le0 nl, Res.tmp rfl, trivial⟩, L, ent, rfl, rfl⟩

/-- The last that was written to a block, up to the i-th write. -/
theorem rf_Now (ka : Option Addr) (kc : Nat) (aa : Option Addr) (ac : Nat) (ba : Option Addr) (bc : Nat) (d : Dv) (n : Nat) (L : List HP) (ok : d.Ok) (hn : n < d.kept.length) (hw : d.waits.length ≤ 1000000)
    (rk : RdS 1 ka d.kept.length (d.kept.map strV) L) (ra : RdS 1 aa d.waits.length (ats d) L) (rb : RdS 1 ba d.waits.length (bts d) L) :
    TriE Try.prog 50 #[.agg (rvL ka kc aa ac ba bc d).toArray, .int .i64 n] (fun v M => v = strV (d.now.getD n []) ∧ M = L) L := by
  refine Tri.of (N := 39) (args := [.agg (rvL ka kc aa ac ba bc d).toArray, .int .i64 n]) Try.func50 rfl rfl rfl ?_
  refine go ?_
  intro b2
  have hsz := ok.size
  obtain ⟨kb, ko, rfl⟩ := rk.at (by omega)
  refine go ?_
  refine WO.sv rfl ?_
  refine SV.loadR n rfl (RdS.cons rk) (by omega) (getstr hn) ?_
  refine go ?_
  refine W.loopS 274877902944 rfl (fun i : Nat => [(5, strV ((flushN d.kept d.waits i).getD n [])), (6, .int .i64 i)]) (fun _ => pts b2 (.cells (rvL (some ⟨kb, ko, none⟩) kc aa ac ba bc d).toArray 80) :: L)
    (fun i => i ≤ d.waits.length) (fun i => d.waits.length - i) 0 ⟨rfl, rfl, trivial⟩ (Nat.zero_le _) (Ent.app (Ent.refl _)) ?_
  intro i bg hi
  by_cases hlt : i < d.waits.length
  · have hgd : d.waits.getD i (0, []) = d.waits[i] := by simp [hlt]
    have hwi := ok.w256 _ (List.getElem_mem hlt)
    have g1 : (ats d)[i]? = some (iN d.waits[i].1) := by simp [hlt]
    have g2 : (bts d)[i]? = some (strV d.waits[i].2) := by simp [hlt]
    have hfl : flushN d.kept d.waits (i + 1) = (flushN d.kept d.waits i).set d.waits[i].1 d.waits[i].2 := by rw [flushN, hgd]
    generalize d.waits[i] = w at hwi g1 g2 hfl
    obtain ⟨wn, ws⟩ := w
    dsimp only at hwi g1 g2 hfl
    obtain ⟨ab, ao, rfl⟩ := ra.at (by omega)
    obtain ⟨bb, bo, rfl⟩ := rb.at (by omega)
    refine go ?_
    refine WO.sv rfl ?_
    refine SV.loadR i rfl (RdS.cons ra) (by omega) g1 ?_
    by_cases e : wn = n
    · refine go ?_
      refine WO.sv rfl ?_
      refine SV.loadR i rfl (RdS.cons rb) (by omega) g2 ?_
      refine go ?_
      refine ⟨i + 1, ⟨?_, rfl, trivial⟩, rfl, by omega, by omega, fun _ _ x => x⟩
      rw [hfl, getD_setL (by rw [flushN_len]; exact hwi.1), if_pos e.symm]; rfl
    · refine go ?_
      refine ⟨i + 1, ⟨?_, rfl, trivial⟩, rfl, by omega, by omega, fun _ _ x => x⟩
      rw [hfl, getD_setL (by rw [flushN_len]; exact hwi.1), if_neg (fun h => e h.symm)]; rfl
  · obtain rfl : i = d.waits.length := by omega
    refine go ?_
    exact ⟨rfl, [_], ⟨Res.tmp rfl, trivial⟩, L, ent, by rw [← ok.sync]; rfl, rfl⟩

theorem ats_append (d : Dv) (n : Nat) (s : Byt) : (d.waits ++ [(n, s)]).map (fun w => iN w.1) = ats d ++ [iN n] := by simp
theorem bts_append (d : Dv) (n : Nat) (s : Byt) : (d.waits ++ [(n, s)]).map (fun w => strV w.2) = bts d ++ [strV s] := by simp
theorem rf_Write (ka : Option Addr) (kc : Nat) (aa : Option Addr) (ac : Nat) (ba : Option Addr) (bc : Nat) (d : Dv) (n : Nat) (s : Byt) (L : List HP) (hw : d.waits.length ≤ 1000000)
    (ra : RdS 1 aa d.waits.length (ats d) L) (rb : RdS 1 ba d.waits.length (bts d) L) :
    TriE Try.prog 51 #[.agg (rvL ka kc aa ac ba bc d).toArray, .int .i64 n, strV s]
      (fun v M => ∃ aa' ac' ba' bc', v = .agg (rvL ka kc aa' ac' ba' bc' { d with waits := d.waits ++ [(n, s)] }).toArray ∧ SomeA aa' (d.waits ++ [(n, s)]).length ∧ SomeA ba' (d.waits ++ [(n, s)]).length ∧
        M = Own 3 1 (.slice aa' (d.waits ++ [(n, s)]).length ac') (d.waits ++ [(n, s)]).length ((d.waits ++ [(n, s)]).map fun w => iN w.1) :: Own 9 1 (.slice ba' (d.waits ++ [(n, s)]).length bc') (d.waits ++ [(n, s)]).length ((d.waits ++ [(n, s)]).map fun w => strV w.2) :: L) L := by
  rw [ats_append, bts_append]
  simp only [List.length_append, List.length_singleton]
  refine Tri.of (N := 24) (args := [.agg (rvL ka kc aa ac ba bc d).toArray, .int .i64 n, strV s]) Try.func51 rfl rfl rfl ?_
  refine go ?_
  intro b3
  refine go ?_
  intro b6
  refine go ?_
  refine WO.sv rfl ?_
  refine SV.lit0 ?_
  intro b7
  refine go ?_
  refine WO.ent (ent_own (sz := 1) (n := 0) rfl) ?_
  refine WO.sv rfl ?_
  refine SV.append rfl rfl rfl tk (RdS.src (RdS.cons (RdS.cons ra))) (by simp) (by simp [iN, isCell]) (by omega) rfl ?_
  intro a8 c8 h8
  rw [Nat.zero_add, List.nil_append] at *
  refine go ?_
  refine WO.sv rfl ?_
  refine SV.lit rfl rfl rfl parts rfl nl ?_
  intro b9
  refine WO.sv rfl ?_
  refine SV.append rfl rfl rfl tk (RdS.src (RdS.all (sz := 1) (n := 1) rfl)) rfl rfl (by omega) rfl ?_
  intro aa' ac' haa
  refine go ?_
  refine WO.sv rfl ?_
  refine SV.lit0 ?_
  intro b10
  refine go ?_
  refine WO.ent (ent_own (sz := 1) (n := 0) rfl) ?_
  refine WO.sv rfl ?_
  refine SV.append rfl rfl rfl tk (RdS.src (RdS.cons (RdS.cons (RdS.cons (RdS.cons rb))))) (by simp) (by simp [strV, isCell]) (by omega) rfl ?_
  intro a11 c11 h11
  rw [Nat.zero_add, List.nil_append] at *
  refine go ?_
  refine WO.sv rfl ?_
  refine SV.lit rfl rfl rfl parts rfl nl ?_
  intro b12
  refine WO.sv rfl ?_
  refine SV.append rfl rfl rfl tk (RdS.src (RdS.all (sz := 1) (n := 1) rfl)) rfl rfl (by omega) rfl ?_
  intro ba' bc' hba
  refine go ?_
  refine ⟨rfl, [_], ⟨Res.cell rfl le0 nl, trivial⟩, _, ?_, aa', ac', ba', bc', ?_, fun _ => haa (by omega), fun _ => hba (by omega), rfl⟩
  · exact ent
  · simp only [rvL, List.length_append, List.length_singleton]; rfl
end Go.SL
