/- Layer 7: a device: Clone; devices that nobody made; the law's own functions. -/
import Derived.Test.YtlcahhfbhjbgoaaDt
namespace Go.SL
open Go.Proofs
set_option linter.unusedVariables false
set_option maxRecDepth 10000
attribute [local irreducible] W WO SV OW SW Tri Ent Tk Has Src SrcK DA DB RdS Own

theorem dv_Clone (b : Nat) (d : Dv) (R : List HP) (ok : d.Ok) (hw : d.waits.length ≤ 1000000) :
    TriE Try.prog 39 #[.pointer (some ⟨b, 0, none⟩)]
      (fun v M => (d.kept.length = 0 ∧ v = .pointer none ∧ M = DevH b d :: R) ∨ (d.kept.length ≠ 0 ∧ ∃ b', v = .pointer (some ⟨b', 0, none⟩) ∧ M = DevH b' d :: DevH b d :: R)) (DevH b d :: R) := by
  refine DevH.opens fun x h1 h2 h3 => ?_
  have hc := DevH.close (b := b) (d := d) (R := R) x h1 h2 h3 (Ent.refl _)
  obtain ⟨ka, kc, na, nc, wa, wc⟩ := x
  simp only [dvL, List.cons_append, List.nil_append] at hc ⊢
  refine Tri.of (N := 40) (args := [.pointer (some ⟨b, 0, none⟩)]) Try.func39 rfl rfl rfl ?_
  refine go ?_
  refine WO.callE (vs := [.pointer (some ⟨b, 0, none⟩)]) Try.func66 rfl rfl rfl rfl (dv_none b _ _ _ _ _ _ _ _ _ (RdS.all rfl)) ?_
  rintro v M ⟨rfl, rfl⟩
  by_cases hk0 : d.kept.length = 0
  · rw [decide_eq_true hk0]
    refine go ?_
    exact ⟨rfl, [_], ⟨Res.tmp rfl, trivial⟩, _, hc, .inl ⟨hk0, rfl, rfl⟩⟩
  rw [decide_eq_false hk0]
  refine go ?_
  have hsz := ok.size
  have hnow := ok.now
  have hlw : (d.waits.flatMap wrV).length = d.waits.length * 2 := flat_len (n := 2) (fun _ => rfl) _
  refine W.drawB #[0, 1, 3, 7, 15, 0, 32, 96, 224, 511, 0, 1024, 3072, 7168, 16383, 0, 32768, 98304, 229376, 0, 524288, 1572864, 3670016, 8388607, 16777215, 33554431]
    [pts b (.cells [Value.slice ka d.kept.length kc, Value.slice na d.now.length nc, Value.slice wa d.waits.length wc, Value.int .i64 d.arm, Value.bool d.down, Value.int .i64 d.ops].toArray 98)]
    (Own 9 1 (.slice ka d.kept.length kc) d.kept.length (d.kept.map strV) :: Own 9 1 (.slice na d.now.length nc) d.now.length (d.now.map strV) :: Own 113 2 (.slice wa d.waits.length wc) d.waits.length (d.waits.flatMap wrV) :: R) rfl (by kernel_rfl) (by kernel_rfl) (by kernel_rfl) (Ent.refl _) ?_
  refine go ?_
  refine DB.callE (vs := [.slice ka d.kept.length kc]) Try.func63 rfl rfl rfl rfl hl hl (sl_CloneStr ka d.kept.length kc d.kept _ (by omega) (RdS.own tk h1 (by simp))) ?_
  rintro v M ⟨a1, c1, rfl, s1, rfl⟩
  refine ⟨[], Own 9 1 (.slice a1 d.kept.length c1) d.kept.length (d.kept.map strV) :: Own 9 1 (.slice ka d.kept.length kc) d.kept.length (d.kept.map strV) :: Own 9 1 (.slice na d.now.length nc) d.now.length (d.now.map strV) :: Own 113 2 (.slice wa d.waits.length wc) d.waits.length (d.waits.flatMap wrV) :: R, ent, ?_⟩
  refine go ?_
  refine DB.callE (vs := [.slice na d.now.length nc]) Try.func63 rfl rfl rfl rfl hl hl (sl_CloneStr na d.now.length nc d.now _ (by omega) (RdS.own (Tk.there (Tk.there (Tk.there Tk.here))) h2 (by simp))) ?_
  rintro v M ⟨a2, c2, rfl, s2, rfl⟩
  refine ⟨[], Own 9 1 (.slice a2 d.now.length c2) d.now.length (d.now.map strV) :: Own 9 1 (.slice a1 d.kept.length c1) d.kept.length (d.kept.map strV) :: Own 9 1 (.slice ka d.kept.length kc) d.kept.length (d.kept.map strV) :: Own 9 1 (.slice na d.now.length nc) d.now.length (d.now.map strV) :: Own 113 2 (.slice wa d.waits.length wc) d.waits.length (d.waits.flatMap wrV) :: R, ent, ?_⟩
  refine go ?_
  refine DB.callE (vs := [.slice wa d.waits.length wc]) Try.func67 rfl rfl rfl rfl hl hl (sl_CloneWr wa d.waits.length wc d.waits _ (by omega) (RdS.own tk h3 hlw)) ?_
  rintro v M ⟨a3, c3, rfl, s3, rfl⟩
  refine ⟨[], Own 113 2 (.slice a3 d.waits.length c3) d.waits.length (d.waits.flatMap wrV) :: Own 9 1 (.slice a2 d.now.length c2) d.now.length (d.now.map strV) :: Own 9 1 (.slice a1 d.kept.length c1) d.kept.length (d.kept.map strV) :: Own 9 1 (.slice ka d.kept.length kc) d.kept.length (d.kept.map strV) :: Own 9 1 (.slice na d.now.length nc) d.now.length (d.now.map strV) :: Own 113 2 (.slice wa d.waits.length wc) d.waits.length (d.waits.flatMap wrV) :: R, ent, ?_⟩
  refine go ?_
  refine DB.box (v := .agg (List.toArray _)) rfl cel rfl ?_
  intro b4
  refine go ?_
  refine ⟨pts b4 (.cells [Value.slice a1 d.kept.length c1, Value.slice a2 d.now.length c2, Value.slice a3 d.waits.length c3, Value.int .i64 d.arm, Value.bool d.down, Value.int .i64 0].toArray 98) :: Own 113 2 (.slice a3 d.waits.length c3) d.waits.length (d.waits.flatMap wrV) :: Own 9 1 (.slice a2 d.now.length c2) d.now.length (d.now.map strV) :: Own 9 1 (.slice a1 d.kept.length c1) d.kept.length (d.kept.map strV) :: pts b (.cells [Value.slice ka d.kept.length kc, Value.slice na d.now.length nc, Value.slice wa d.waits.length wc, Value.int .i64 d.arm, Value.bool d.down, Value.int .i64 d.ops].toArray 98) :: Own 9 1 (.slice ka d.kept.length kc) d.kept.length (d.kept.map strV) :: Own 9 1 (.slice na d.now.length nc) d.now.length (d.now.map strV) :: Own 113 2 (.slice wa d.waits.length wc) d.waits.length (d.waits.flatMap wrV) :: R, ent, ?_⟩
  refine go ?_
  refine W.drawB #[0, 1, 3, 0, 8, 24, 56, 127] [] (pts b4 (.cells [Value.slice a1 d.kept.length c1, Value.slice a2 d.now.length c2, Value.slice a3 d.waits.length c3, Value.int .i64 d.arm, Value.bool d.down, Value.int .i64 0].toArray 98) :: Own 113 2 (.slice a3 d.waits.length c3) d.waits.length (d.waits.flatMap wrV) :: Own 9 1 (.slice a2 d.now.length c2) d.now.length (d.now.map strV) :: Own 9 1 (.slice a1 d.kept.length c1) d.kept.length (d.kept.map strV) :: pts b (.cells [Value.slice ka d.kept.length kc, Value.slice na d.now.length nc, Value.slice wa d.waits.length wc, Value.int .i64 d.arm, Value.bool d.down, Value.int .i64 d.ops].toArray 98) :: Own 9 1 (.slice ka d.kept.length kc) d.kept.length (d.kept.map strV) :: Own 9 1 (.slice na d.now.length nc) d.now.length (d.now.map strV) :: Own 113 2 (.slice wa d.waits.length wc) d.waits.length (d.waits.flatMap wrV) :: R) rfl (by kernel_rfl) (by kernel_rfl) (by kernel_rfl) (Ent.refl _) ?_
  refine go ?_
  refine DB.callE (vs := [.pointer (some ⟨b, 0 + 5, none⟩)]) Try.func69 rfl rfl rfl rfl hl hl (at_Load (x := d.ops) rfl) ?_
  rintro v M ⟨rfl, rfl⟩
  refine ⟨[], _, Ent.refl _, ?_⟩
  refine DB.callE (vs := [.pointer (some ⟨b4, 0 + 5, none⟩), .int .i64 d.ops]) Try.func68 rfl rfl rfl rfl hl hl (at_Store b4 (0 + 5) _ _ _ d.ops _ (by simp) nl) ?_
  rintro v M rfl
  refine ⟨[], _, Ent.refl _, ?_⟩
  refine go ?_
  refine ⟨_, Ent.refl _, ?_⟩
  refine go ?_
  refine ⟨rfl, [_], ⟨Res.tmp rfl, trivial⟩, DevH b4 d :: DevH b d :: R, ?_, .inr ⟨hk0, b4, rfl, rfl⟩⟩
  refine DevH.close (a1, c1, a2, c2, a3, c3) s1 s2 s3 ?_
  simp only [dvL, List.cons_append, List.nil_append]
  exact Ent.take tk (Ent.take tk (Ent.take tk (Ent.take tk hc)))

/-! a device that nobody made -/
theorem dv_Waiting0 (R : List HP) : TriE Try.prog 42 #[.pointer none] (fun v M => v = .int .i64 0 ∧ M = R) R := by
  refine Tri.of (N := 10) (args := [.pointer none]) Try.func42 rfl rfl rfl ?_
  refine go ?_
  refine WO.callE (vs := [.pointer none]) Try.func66 rfl rfl rfl rfl (dv_none0 _) ?_
  rintro v M ⟨rfl, rfl⟩
  refine go ?_
  exact ⟨rfl, [_], ⟨Res.tmp rfl, trivial⟩, _, ent, rfl, rfl⟩
theorem dv_Down0 (R : List HP) : TriE Try.prog 43 #[.pointer none] (fun v M => v = .bool false ∧ M = R) R := by
  refine Tri.of (N := 12) (args := [.pointer none]) Try.func43 rfl rfl rfl ?_
  refine go ?_
  refine WO.callE (vs := [.pointer none]) Try.func66 rfl rfl rfl rfl (dv_none0 _) ?_
  rintro v M ⟨rfl, rfl⟩
  refine go ?_
  exact ⟨rfl, [_], ⟨Res.tmp rfl, trivial⟩, _, ent, rfl, rfl⟩
theorem dv_Ops0 (R : List HP) : TriE Try.prog 53 #[.pointer none] (fun v M => v = .int .i64 0 ∧ M = R) R := by
  refine Tri.of (N := 9) (args := [.pointer none]) Try.func53 rfl rfl rfl ?_
  refine go ?_
  refine WO.callE (vs := [.pointer none]) Try.func66 rfl rfl rfl rfl (dv_none0 _) ?_
  rintro v M ⟨rfl, rfl⟩
  refine go ?_
  exact ⟨rfl, [_], ⟨Res.tmp rfl, trivial⟩, _, ent, rfl, rfl⟩
theorem dv_Arm0 (n : Int) (R : List HP) : TriE Try.prog 47 #[.pointer none, .int .i64 n] (fun v M => M = R) R := by
  refine Tri.of (N := 12) (args := [.pointer none, .int .i64 n]) Try.func47 rfl rfl rfl ?_
  refine go ?_
  refine WO.callE (vs := [.pointer none]) Try.func66 rfl rfl rfl rfl (dv_none0 _) ?_
  rintro v M ⟨rfl, rfl⟩
  refine go ?_
  exact ⟨rfl, [], trivial, _, ent, rfl⟩
theorem dv_Fall0 (x : Value) (R : List HP) : TriE Try.prog 41 #[.pointer none, x] (fun v M => M = R) R := by
  refine Tri.of (N := 69) (args := [.pointer none, x]) Try.func41 rfl rfl rfl ?_
  refine go ?_
  refine WO.callE (vs := [.pointer none]) Try.func66 rfl rfl rfl rfl (dv_none0 _) ?_
  rintro v M ⟨rfl, rfl⟩
  refine go ?_
  exact ⟨rfl, [], trivial, _, ent, rfl⟩
theorem dv_Clone0 (R : List HP) : TriE Try.prog 39 #[.pointer none] (fun v M => v = .pointer none ∧ M = R) R := by
  refine Tri.of (N := 40) (args := [.pointer none]) Try.func39 rfl rfl rfl ?_
  refine go ?_
  refine WO.callE (vs := [.pointer none]) Try.func66 rfl rfl rfl rfl (dv_none0 _) ?_
  rintro v M ⟨rfl, rfl⟩
  refine go ?_
  exact ⟨rfl, [_], ⟨Res.tmp rfl, trivial⟩, _, ent, rfl, rfl⟩
theorem dv_Read0 (n : Int) (R : List HP) : TriE Try.prog 40 #[.pointer none, .int .i64 n] (fun v M => v = .tuple #[.slice none 0 0, .int .i64 1] ∧ M = R) R := by
  refine Tri.of (N := 27) (args := [.pointer none, .int .i64 n]) Try.func40 rfl rfl rfl ?_
  refine go ?_
  refine WO.callE (vs := [.pointer none, .int .i64 n]) Try.func65 rfl rfl rfl rfl (dv_is0 n _) ?_
  rintro v M ⟨rfl, rfl⟩
  refine go ?_
  refine WO.callE (vs := [.pointer none, .bool false]) Try.func64 rfl rfl rfl rfl (dv_call0 false _) ?_
  rintro v M ⟨rfl, rfl⟩
  refine go ?_
  exact ⟨rfl, [_, _], ⟨Res.tmp rfl, Res.tmp rfl, trivial⟩, _, ent, rfl, rfl⟩
theorem dv_Write0 (n : Int) (x : Value) (R : List HP) : TriE Try.prog 36 #[.pointer none, .int .i64 n, x] (fun v M => v = .int .i64 1 ∧ M = R) R := by
  refine Tri.of (N := 47) (args := [.pointer none, .int .i64 n, x]) Try.func36 rfl rfl rfl ?_
  refine go ?_
  refine WO.callE (vs := [.pointer none, .int .i64 n]) Try.func65 rfl rfl rfl rfl (dv_is0 n _) ?_
  rintro v M ⟨rfl, rfl⟩
  refine go ?_
  refine WO.callE (vs := [.pointer none, .bool false]) Try.func64 rfl rfl rfl rfl (dv_call0 false _) ?_
  rintro v M ⟨rfl, rfl⟩
  refine go ?_
  exact ⟨rfl, [_], ⟨Res.tmp rfl, trivial⟩, _, ent, rfl, rfl⟩
theorem dv_Flush0 (R : List HP) : TriE Try.prog 38 #[.pointer none] (fun v M => v = .int .i64 1 ∧ M = R) R := by
  refine Tri.of (N := 33) (args := [.pointer none]) Try.func38 rfl rfl rfl ?_
  refine go ?_
  refine WO.callE (vs := [.pointer none, .bool true]) Try.func64 rfl rfl rfl rfl (dv_call0 true _) ?_
  rintro v M ⟨rfl, rfl⟩
  refine go ?_
  exact ⟨rfl, [_], ⟨Res.tmp rfl, trivial⟩, _, ent, rfl, rfl⟩

/-! a block all bytes of which are one -/
theorem list_fill {c : Value} (k m : Nat) (z : Value) (h : k < m) : (List.replicate k c ++ List.replicate (m - k) z).set k c = List.replicate (k + 1) c ++ List.replicate (m - (k + 1)) z := by
  rw [List.set_append_right _ _ (by simp), List.length_replicate, Nat.sub_self]
  obtain ⟨j, rfl⟩ : ∃ j, m = k + 1 + j := ⟨m - (k + 1), by omega⟩
  rw [show k + 1 + j - k = j + 1 by omega, show k + 1 + j - (k + 1) = j by omega, List.replicate_succ, List.set_cons_zero, List.replicate_succ', List.append_assoc]; rfl
theorem l7_Block (c : UInt8) (R : List HP) : TriE Try.prog 37 #[u8V c] (fun v M => ∃ a c', v = .slice a 256 c' ∧ SomeA a 256 ∧ M = OS a c' (List.replicate 256 c) :: R) R := by
  refine Tri.of (N := 15) (args := [u8V c]) Try.func37 rfl rfl rfl ?_
  refine go ?_
  refine WO.sv rfl ?_
  refine SV.makeSlice rfl (m := 256) rfl (by decide) (by decide) ?_
  intro b
  refine go ?_
  refine W.loopS 16336 rfl (fun i : Nat => [(4, .int .i64 i)]) (fun i => pts b (.cells (List.replicate i (u8V c) ++ List.replicate (256 - i) (Value.int .u8 0)).toArray 5) :: R) (fun i => i ≤ 256) (fun i => 256 - i) 0 ⟨rfl, trivial⟩ (by omega) (Ent.app (Ent.refl _)) ?_
  intro i bg hi
  refine go ?_
  refine WO.sv rfl ?_
  refine SV.lssC rfl rfl ?_ ?_
  · intro hlt
    refine go ?_
    refine WO.sv rfl ?_
    refine SV.storeS (v := u8V c) rfl rfl rfl (.inl (Nat.le_refl _)) (by simp; omega) ?_
    rw [show 0 + (i : Int).toNat * 1 = i by omega, list_fill _ _ _ (by omega)]
    refine go ?_
    exact ⟨i + 1, ⟨rfl, trivial⟩, rfl, by omega, by omega, Ent.app (Ent.refl _)⟩
  · intro hlt
    obtain rfl : i = 256 := by omega
    refine go ?_
    refine ⟨rfl, [_], ⟨Res.tmp rfl, trivial⟩, _, ?_, some ⟨b, 0, none⟩, 256, rfl, fun _ => ⟨b, rfl⟩, rfl⟩
    simp only [Nat.sub_self, List.replicate_zero, List.append_nil]
    have := ent_own (E := 5) (sz := 1) (n := 256) (b := b) (xs := List.replicate 256 (u8V c)) (L := R) (by rw [List.length_replicate])
    unfold OS
    rw [List.length_replicate, List.map_replicate]
    exact this
end Go.SL
