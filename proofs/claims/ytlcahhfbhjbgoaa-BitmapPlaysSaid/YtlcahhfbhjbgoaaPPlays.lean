/- BitmapPlays returns true and changes nothing that was there, for every input. No conditions beyond the statement's own. (The frame of this text began as proof-skeleton.mjs's print.) -/
import Derived.Test.YtlcahhfbhjbgoaaRows
import Derived.Test.YtlcahhfbhjbgoaaSlF
import Derived.Test.YtlcahhfbhjbgoaaBv
import Derived.WalkKit
import Derived.ProofKit
import Derived.OpenShut
import Derived.ShutString
import Derived.ChangeOld
import Derived.Below
namespace Go.Proofs.Ytlcahhfbhjbgoaa.bitmapPlays
open Go.ChangeShapes Go.WideShapes Go.ChangeAt Go.RowKit
open Go.ChangeMaps (open_string shut_string)
set_option linter.unusedVariables false

theorem own : ownKnob Try.prog.godebug = none := by kernel_rfl
theorem laidOut : laidOutB Try.prog = true := by kernel_rfl

set_option maxRecDepth 100000 in
theorem lifted (os : Os) (started : os.Started) (H : Type) (enc : TypeId × Value → H) :
    ReturnsInHanded {} Try.checked os 4 .any (Rows.bitmapPlaysSpec.pre6 enc Try.prog Try.f4 Rows.bitmapPlaysRow.domain false) (Rows.bitmapPlaysSpec.post enc Try.prog Try.f4 false true false false) := by
  refine returnsInHanded_of_change (C := Try.checked) own started (by kernel_rfl) Try.func4
    (ChangeSpec.witness6 (enc := enc) (C := Try.checked) false ⟨#[], #[.slice none 0 0, .int .i64 0, .slice none 0 0], []⟩ 8 (by kernel_rfl) (by kernel_rfl) (by kernel_rfl) (by kernel_rfl)) ?_
  intro W base args ds gs before hval0 hW hcnd _
  have hval : ∀ (j : Nat) t v, Try.f4.params[j]? = some t → args[j]? = some v → Value.okWide Try.prog W .any base t v := hval0
  have hW' := hW
  obtain ⟨p, q, hA0, hV, rfl, hfz, hnd⟩ := hW
  have hA : DataW.TrodAll enc Try.prog W 0 (fun _ => true) true Try.f4.params.toList args.toList ds p := hA0
  rw [Try.params4] at hA hval
  obtain ⟨v0, vs0, d0, ds0, p0, q0, hargs, rfl, rfl, h0, rst0⟩ := trodAll_cons hA
  obtain ⟨v1, vs1, d1, ds1, p1, q1, rfl, rfl, rfl, h1, rst1⟩ := trodAll_cons rst0
  obtain ⟨v2, vs2, d2, ds2, p2, q2, rfl, rfl, rfl, h2, rst2⟩ := trodAll_cons rst1
  obtain ⟨rfl, rfl, rfl⟩ := trodAll_nil rst2
  obtain rfl : args = #[v0, v1, v2] := by cases args; simp_all
  obtain ⟨rfl, rfl⟩ := trodVars_none hV
  have lt0 : ∀ x ∈ p0, x.block < W.heap.size := by obtain ⟨m, hm⟩ := h0; exact DataW.trod_lt m _ _ _ hm
  have ok0 := hval 0 _ v0 rfl rfl
  have lt1 : ∀ x ∈ p1, x.block < W.heap.size := by obtain ⟨m, hm⟩ := h1; exact DataW.trod_lt m _ _ _ hm
  have ok1 := hval 1 _ v1 rfl rfl
  have lt2 : ∀ x ∈ p2, x.block < W.heap.size := by obtain ⟨m, hm⟩ := h2; exact DataW.trod_lt m _ _ _ hm
  have ok2 := hval 2 _ v2 rfl rfl
  clear hA0 hval0
  obtain ⟨a0, c0, src, rfl, hl0, r0, okb⟩ := Go.SL.arg_bytes Try.underlying22 Try.underlying5 (by kernel_rfl) ok0 h0
  obtain ⟨blocks, rfl, hb1, hb2⟩ := Go.SL.arg_int Try.underlying3 ok1 h1
  obtain ⟨a1, c1, l, rfl, hl2, r2, hal⟩ := Go.SL.arg_slice (sz := 3) (g := Go.SL.actV) (p := fun x => (-9223372036854775808 ≤ x.f ∧ x.f ≤ 9223372036854775807) ∧ (-9223372036854775808 ≤ x.m ∧ x.m ≤ 9223372036854775807)) Try.underlying33 (by kernel_rfl) (by decide) ok2 h2 (fun xs hl hx => by
    obtain ⟨_, hf⟩ := hx.agg Try.underlying37
    match xs, hl with
    | [x0, x1, x2], _ =>
      obtain ⟨n0, e0, g0⟩ := (hf 0 _ rfl).i64 Try.underlying3
      obtain ⟨n1, e1, g1⟩ := (hf 1 _ rfl).i64 Try.underlying3
      obtain ⟨b2, e2⟩ := (hf 2 _ rfl).bool Try.underlying4
      have q0 : [x0] = [Value.int .i64 n0] := e0
      have q1 : [x1] = [Value.int .i64 n1] := e1
      have q2 : [x2] = [Value.bool b2] := e2
      injection q0 with q0; injection q1 with q1; injection q2 with q2
      subst q0; subst q1; subst q2
      exact ⟨⟨n0, n1, b2⟩, rfl, g0, g1⟩)
  have T := Go.SL.walk_of (Go.SL.plays a0 c0 src blocks a1 c1 l [Go.SL.ro (Go.SL.heapOf W)] okb ⟨hb1, hb2⟩ hl2 hal r0 r2)
  refine T.mono fun e W' ⟨he, bel⟩ => ?_
  subst he
  exact ⟨_, rfl, _, _, _, [], _, [], hW', trodAll_mk1 (shut_bool Try.underlying4 _), (trodAll_cons_mk (Below.trod laidOut (by kernel_rfl) (of_decide_eq_true (by kernel_rfl)) h0 bel lt0) (trodAll_cons_mk (Below.trod laidOut (by kernel_rfl) (of_decide_eq_true (by kernel_rfl)) h1 bel lt1) (trodAll_cons_mk (Below.trod laidOut (by kernel_rfl) (of_decide_eq_true (by kernel_rfl)) h2 bel lt2) trodAll_mk0))), rfl, bel.frame _, fun h => by cases h⟩

theorem over : Rows.bitmapPlaysRow.holds Try.pinned (OpenSpec.ofChange Rows.bitmapPlaysSpec) :=
  OpenClaim.holds_of_wide 4 Try.f4 rfl rfl rfl rfl rfl rfl rfl ⟨rfl, rfl, rfl, rfl, rfl⟩ rfl rfl rfl rfl rfl (by kernel_rfl) Try.func4 (by kernel_rfl)
    (of_decide_eq_true (by kernel_rfl)) (by unfold Func.isWrapper; first | (rw [if_pos (by decide +kernel)]; kernel_rfl) | (rw [if_neg (by decide +kernel)]; exact ⟨rfl, rfl⟩))
    (fun os started H enc _ => lifted os started H enc)

/-- ████ THE STATEMENT ████ -/
theorem proved : Rows.BitmapPlaysSaid := over
#print axioms proved
end Go.Proofs.Ytlcahhfbhjbgoaa.bitmapPlays
