/- Any operations need what the document says at most; sums and multiples are as it says. (The frame of this text began as proof-skeleton.mjs's print and the worked proof Pindig.) -/
import Derived.Test.YtcjpiceklicmoaaGreatDoorRows
import Derived.Test.YtcjpiceklicmoaaGreatDoorCards
import Derived.Test.YtcjpiceklicmoaaGreatDoorTie
import Derived.Test.YtcjpiceklicmoaaGreatDoorZ4
import Derived.WalkKit
import Derived.ProofKit
import Derived.OpenShut
import Derived.ShutString
import Derived.ChangeOld
import Derived.Below
import Derived.Lay
import Derived.LaidLaws
import Derived.MakeChecks
import Derived.SevenTiedAt
namespace Go.Proofs.YtcjpiceklicmoaaGreatDoor.spaceNeeds
open Go.ChangeShapes Go.WideShapes Go.ChangeAt Go.RowKit
open Go.ChangeMaps (open_string shut_string)
set_option linter.unusedVariables false

theorem own : ownKnob Tryz.prog.godebug = none := by kernel_rfl
theorem laidOut : laidOutB Tryz.prog = true := by kernel_rfl
noncomputable def L0 : List (String × DataW Unit) := Rows.spaceNeedsRow.laid

set_option maxRecDepth 100000 in
theorem lifted (os : Os) (started : os.Started) (H : Type) (enc : TypeId × Value → H) :
    ReturnsInHanded {} Tryz.checked os 4 .any (fun w args => (Rows.spaceNeedsSpec.pre enc Tryz.prog Tryz.f4 [] false w args ∧ laidMetH Tryz.prog Rows.spaceNeedsRow.laid w) ∧ sizedMet enc Tryz.prog Tryz.f4 (OpenSpec.ofChange Rows.spaceNeedsSpec) false w args)
      (Rows.spaceNeedsSpec.post enc Tryz.prog Tryz.f4 false true false false) := by
  refine returnsInHanded_of_change_and (C := Tryz.checked) (X := fun w _ => laidMetH Tryz.prog Rows.spaceNeedsRow.laid w) (fun _ _ _ hh h => h.of_heap hh) own started (by kernel_rfl) Tryz.func4
    (ChangeSpec.witness_shaped (enc := enc) (C := Tryz.checked) (os := os) (X := fun w _ => laidMetH Tryz.prog Rows.spaceNeedsRow.laid w) false (World.laidAll Tryz.prog os Rows.spaceNeedsRow.laid) #[.int .i64 0, .slice none 0 0, .int .i64 0] 8 (World.laidAll_os _ _ _)
      (World.shaped_of_ZipB (by kernel_rfl) (by kernel_rfl)) (by kernel_rfl) (by kernel_rfl) (by kernel_rfl)
      (by rw [MakeChecks.laidMetH_plain _ _ _ (by kernel_rfl)]; exact laidMet_laidAll _ (by kernel_rfl) (by kernel_rfl))) ?_
  intro W base args ds gs before hval0 hW _ _ hL _
  have hval : ∀ (j : Nat) t v, Tryz.f4.params[j]? = some t → args[j]? = some v → Value.okWide Tryz.prog W .any base t v := hval0
  have hW' := hW
  obtain ⟨p, q, hA0, hV, rfl, hfz, hnd⟩ := hW
  have hA : DataW.TrodAll enc Tryz.prog W 0 (fun _ => true) true Tryz.f4.params.toList args.toList ds p := hA0
  rw [Tryz.params4] at hA hval
  obtain ⟨v0, vs0, d0, ds0, p0, q0, hargs, rfl, rfl, h0, rst0⟩ := trodAll_cons hA
  obtain ⟨v1, vs1, d1, ds1, p1, q1, rfl, rfl, rfl, h1, rst1⟩ := trodAll_cons rst0
  obtain ⟨v2, vs2, d2, ds2, p2, q2, rfl, rfl, rfl, h2, rst2⟩ := trodAll_cons rst1
  obtain ⟨rfl, rfl, rfl⟩ := trodAll_nil rst2
  obtain rfl : args = #[v0, v1, v2] := by cases args; simp_all
  obtain ⟨rfl, rfl⟩ := trodVars_none hV
  have lt0 : ∀ x ∈ p0, x.block < W.heap.size := by obtain ⟨m, hm⟩ := h0; exact DataW.trod_lt m _ _ _ hm
  have ok0 := hval 0 _ v0 rfl rfl
  have lt1 : ∀ x ∈ p1, x.block < W.heap.size := by obtain ⟨m, hm⟩ := h1; exact DataW.trod_lt m _ _ _ hm
  have ok1 := hval 1 _ v1 rfl rfl
  have lt2 : ∀ x ∈ p2, x.block < W.heap.size := by obtain ⟨m, hm⟩ := h2; exact DataW.trod_lt m _ _ _ hm
  have ok2 := hval 2 _ v2 rfl rfl
  clear hA0 hval0
  obtain ⟨home, rfl, ha1, ha2⟩ := Go.SL.arg_int Tryz.underlying3 ok0 h0
  obtain ⟨a1, c1, l, rfl, hb1, r1, hal⟩ := Go.SL.arg_slice (sz := 3) (g := Go.SL.KOp.L) (p := fun _ => True) Tryz.underlying39 (by kernel_rfl) (by decide) ok1 h1 (fun xs hxl hx => by
    obtain ⟨_, hf⟩ := hx.agg Tryz.underlying42
    match xs, hxl with
    | [x0, x1, x2], _ =>
      obtain ⟨s0, e0, g0⟩ := (hf 0 _ rfl).str Tryz.underlying9
      obtain ⟨s1, e1, g1⟩ := (hf 1 _ rfl).str Tryz.underlying9
      obtain ⟨b2, e2⟩ := (hf 2 _ rfl).bool Tryz.underlying4
      have q0 : [x0] = [Go.SL.strV s0] := e0
      have q1 : [x1] = [Go.SL.strV s1] := e1
      have q2 : [x2] = [Value.bool b2] := e2
      injection q0 with q0; injection q1 with q1; injection q2 with q2
      subst q0; subst q1; subst q2
      exact ⟨⟨s0, s1, b2⟩, rfl, trivial⟩)
  obtain ⟨many, rfl, hc1, hc2⟩ := Go.SL.arg_int Tryz.underlying3 ok2 h2
  have T := Go.SL.walk_of (Go.SL.l36_needs home many a1 c1 l [Go.SL.ro (Go.SL.heapOf W)] ⟨ha1, by omega⟩ ⟨hc1, by omega⟩ hb1 r1)
  refine T.mono fun e W' ⟨he, bel⟩ => ?_
  subst he
  exact ⟨_, rfl, _, _, _, [], _, [], hW', trodAll_mk1 (shut_bool Tryz.underlying4 _), (trodAll_cons_mk (Below.trod laidOut (by kernel_rfl) (of_decide_eq_true (by kernel_rfl)) h0 bel lt0) (trodAll_cons_mk (Below.trod laidOut (by kernel_rfl) (of_decide_eq_true (by kernel_rfl)) h1 bel lt1) (trodAll_cons_mk (Below.trod laidOut (by kernel_rfl) (of_decide_eq_true (by kernel_rfl)) h2 bel lt2) trodAll_mk0))), rfl, bel.frame _, fun h => by cases h⟩

theorem over : Rows.spaceNeedsRow.holds Tryz.pinned (OpenSpec.ofChange Rows.spaceNeedsSpec) :=
  OpenClaim.holds_of_wide 4 Tryz.f4 rfl rfl rfl rfl rfl rfl rfl ⟨rfl, rfl, rfl, rfl, rfl⟩ rfl rfl rfl rfl rfl (by kernel_rfl) Tryz.func4 (by kernel_rfl)
    (of_decide_eq_true (by kernel_rfl)) (by unfold Func.isWrapper; first | (rw [if_pos (by decide +kernel)]; kernel_rfl) | (rw [if_neg (by decide +kernel)]; exact ⟨rfl, rfl⟩))
    (fun os started H enc _ => lifted os started H enc)

/-- ████ THE STATEMENT ████ -/
theorem proved : Rows.SpaceNeedsCardSaid :=
  Claim7.holds_tied_plain_at .later [] [.data, .pinned] true (true, "6a222b0612cab509fea7733f2cc63177f90f644de4aae7a91dbf0398258fb082") true over (fun _ h => by cases h) (by kernel_rfl) (fun _ h => by cases h) spaceNeeds_row_tie rfl ⟨rfl, rfl⟩ (by kernel_rfl) rfl
    (fun f fn hf hfn => by
      obtain rfl : f = 4 := Option.some.inj ((show Tryz.prog.funcNamed Rows.spaceNeedsRow.func = some 4 by kernel_rfl).symm.trans hf) |>.symm
      obtain rfl : fn = Tryz.f4 := (Option.some.inj (Tryz.func4.symm.trans hfn)).symm
      exact ⟨by kernel_rfl, fun j t ht => by
        have hm : t ∈ Tryz.f4.params.toList := Array.mem_toList_iff.2 (Array.mem_of_getElem? ht)
        have hall : (Tryz.f4.params.toList.all fun u => !Tryz.prog.wantsStandIn u) = true := by kernel_rfl
        exact (show Tryz.prog.wantsStandIn t = false by simpa using List.all_eq_true.1 hall t hm)⟩)
    (by kernel_rfl)
#print axioms proved
end Go.Proofs.YtcjpiceklicmoaaGreatDoor.spaceNeeds
