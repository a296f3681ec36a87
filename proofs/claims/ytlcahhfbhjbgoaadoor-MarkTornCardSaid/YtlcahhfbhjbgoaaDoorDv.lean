/- Layer 7: a device: what its small functions do, each walked once. -/
import Derived.Test.YtlcahhfbhjbgoaaDoorSlG
import Derived.Test.YtlcahhfbhjbgoaaDoorTy
import Derived.KernelRfl
namespace Go.SL
open Go.Proofs
set_option linter.unusedVariables false
set_option maxRecDepth 10000
attribute [local irreducible] W WO SV OW SW Tri Ent Tk Has Src SrcK DA DB RdS Own

abbrev Byt := List UInt8
structure Dv where
  kept : List Byt
  now : List Byt
  waits : List (Nat × Byt)
  arm : Int
  down : Bool
  ops : Int
def flushN (kept : List Byt) (waits : List (Nat × Byt)) : Nat → List Byt
  | 0 => kept
  | i + 1 => (flushN kept waits i).set (waits.getD i (0, [])).1 (waits.getD i (0, [])).2
structure Dv.Ok (d : Dv) : Prop where
  now : d.now.length = d.kept.length
  size : d.kept.length ≤ 4096
  k256 : ∀ s ∈ d.kept, s.length = 256
  n256 : ∀ s ∈ d.now, s.length = 256
  w256 : ∀ w ∈ d.waits, w.1 < d.kept.length ∧ w.2.length = 256
  arm : -1 ≤ d.arm ∧ d.arm ≤ 9223372036854775807
  sync : flushN d.kept d.waits d.waits.length = d.now
def wrV (w : Nat × Byt) : List Value := [.int .i64 w.1, strV w.2]
/-- Whether there are blocks; a call; a block. -/
def Dv.call (d : Dv) (may : Bool) : Dv × Int :=
  if d.kept.length = 0 then (d, 1) else if may = false then (d, 2) else
    ({ d with ops := IntKind.i64.wrap (d.ops + 1), down := d.down || decide (d.arm = 0), arm := max (-1) (d.arm - 1) }, if d.down || decide (d.arm = 0) then 17 else 0)
def Dv.is (d : Dv) (n : Int) : Bool := decide (0 ≤ n) && decide (n < d.kept.length)

abbrev DvX := Option Addr × Nat × Option Addr × Nat × Option Addr × Nat
abbrev dvL (b : Nat) (x : DvX) (d : Dv) : List HP :=
  [pts b (.cells [Value.slice x.1 d.kept.length x.2.1, Value.slice x.2.2.1 d.now.length x.2.2.2.1, Value.slice x.2.2.2.2.1 d.waits.length x.2.2.2.2.2, Value.int .i64 d.arm, Value.bool d.down, Value.int .i64 d.ops].toArray 76),
   Own 9 1 (.slice x.1 d.kept.length x.2.1) d.kept.length (d.kept.map strV), Own 9 1 (.slice x.2.2.1 d.now.length x.2.2.2.1) d.now.length (d.now.map strV), Own 80 2 (.slice x.2.2.2.2.1 d.waits.length x.2.2.2.2.2) d.waits.length (d.waits.flatMap wrV)]
def DevH (b : Nat) (d : Dv) : HP := hex fun x : DvX => conj (hpure (SomeA x.1 d.kept.length ∧ SomeA x.2.2.1 d.now.length ∧ SomeA x.2.2.2.2.1 d.waits.length) :: dvL b x d)
/-- Bytes of one's own. -/
def OS (a : Option Addr) (c : Nat) (s : Byt) : HP := Own 5 1 (.slice a s.length c) s.length (s.map u8V)
theorem OS.rd {a : Option Addr} {c : Nat} {s : Byt} {L R : List HP} (t : Tk L (OS a c s) R) (ha : SomeA a s.length) : RdS 1 a s.length (s.map u8V) L := RdS.ownS t ha (by simp)
theorem Dv.call_ok {d : Dv} (ok : d.Ok) (may : Bool) : (d.call may).1.Ok := by
  unfold Dv.call
  split
  · exact ok
  · split
    · exact ok
    · exact ⟨ok.now, ok.size, ok.k256, ok.n256, ok.w256, by have := ok.arm; dsimp only; omega, ok.sync⟩

theorem dv_none (b n c : Nat) (a : Option Addr) (c1 c2 c3 c4 c5 : Value) (L : List HP) (r : RdS 1 (some ⟨b, 0, none⟩) 6 [.slice a n c, c1, c2, c3, c4, c5] L) :
    TriE Tryd.prog 49 #[.pointer (some ⟨b, 0, none⟩)] (fun v M => v = .bool (decide (n = 0)) ∧ M = L) L := by
  refine Tri.of (N := 13) (args := [.pointer (some ⟨b, 0, none⟩)]) Tryd.func49 rfl rfl rfl ?_
  refine go ?_
  refine WO.sv rfl ?_
  refine SV.loadR 0 rfl r rfl rfl ?_
  refine goD ?_
  exact ⟨rfl, [_], ⟨Res.tmp rfl, trivial⟩, L, ent, by show Value.bool (decide ((n : Int) = 0)) = _; congr 1; exact decide_eq_decide.2 (by omega), rfl⟩
theorem dv_none0 (L : List HP) : TriE Tryd.prog 49 #[.pointer none] (fun v M => v = .bool true ∧ M = L) L := by
  refine Tri.of (N := 13) (args := [.pointer none]) Tryd.func49 rfl rfl rfl ?_
  refine go ?_
  exact ⟨rfl, [_], ⟨Res.tmp rfl, trivial⟩, L, ent, rfl, rfl⟩
theorem dv_Len (b n c : Nat) (a : Option Addr) (c1 c2 c3 c4 c5 : Value) (L : List HP) (r : RdS 1 (some ⟨b, 0, none⟩) 6 [.slice a n c, c1, c2, c3, c4, c5] L) :
    TriE Tryd.prog 35 #[.pointer (some ⟨b, 0, none⟩)] (fun v M => v = .int .i64 n ∧ M = L) L := by
  refine Tri.of (N := 10) (args := [.pointer (some ⟨b, 0, none⟩)]) Tryd.func35 rfl rfl rfl ?_
  refine go ?_
  refine WO.callE (vs := [.pointer (some ⟨b, 0, none⟩)]) Tryd.func49 rfl rfl rfl rfl (dv_none b n c a c1 c2 c3 c4 c5 _ r) ?_
  rintro v M ⟨rfl, rfl⟩
  refine go ?_
  refine W.if rfl (fun h => ?_) (fun h => ?_)
  · subst h
    refine go ?_
    exact ⟨rfl, [_], ⟨Res.tmp rfl, trivial⟩, _, ent, rfl, rfl⟩
  · refine go ?_
    refine WO.sv rfl ?_
    refine SV.loadR 0 rfl r rfl rfl ?_
    refine go ?_
    exact ⟨rfl, [_], ⟨Res.tmp rfl, trivial⟩, _, ent, rfl, rfl⟩
theorem dv_Len0 (L : List HP) : TriE Tryd.prog 35 #[.pointer none] (fun v M => v = .int .i64 0 ∧ M = L) L := by
  refine Tri.of (N := 10) (args := [.pointer none]) Tryd.func35 rfl rfl rfl ?_
  refine go ?_
  refine WO.callE (vs := [.pointer none]) Tryd.func49 rfl rfl rfl rfl (dv_none0 _) ?_
  rintro v M ⟨rfl, rfl⟩
  refine go ?_
  exact ⟨rfl, [_], ⟨Res.tmp rfl, trivial⟩, _, ent, rfl, rfl⟩
theorem dv_is (b n c : Nat) (k : Int) (a : Option Addr) (c1 c2 c3 c4 c5 : Value) (L : List HP) (r : RdS 1 (some ⟨b, 0, none⟩) 6 [.slice a n c, c1, c2, c3, c4, c5] L) :
    TriE Tryd.prog 34 #[.pointer (some ⟨b, 0, none⟩), .int .i64 k] (fun v M => v = .bool (decide (0 ≤ k) && decide (k < n)) ∧ M = L) L := by
  refine Tri.of (N := 13) (args := [.pointer (some ⟨b, 0, none⟩), .int .i64 k]) Tryd.func34 rfl rfl rfl ?_
  refine go ?_
  refine WO.sv rfl ?_
  refine SV.geqC rfl rfl ?_ ?_
  · intro h
    refine go ?_
    refine WO.callE (vs := [.pointer (some ⟨b, 0, none⟩)]) Tryd.func35 rfl rfl rfl rfl (dv_Len b n c a c1 c2 c3 c4 c5 _ r) ?_
    rintro v M ⟨rfl, rfl⟩
    refine goD ?_
    exact ⟨rfl, [_], ⟨Res.tmp rfl, trivial⟩, _, ent, by rw [decide_eq_true h, Bool.true_and]; rfl, rfl⟩
  · intro h
    refine go ?_
    exact ⟨rfl, [_], ⟨Res.tmp rfl, trivial⟩, _, ent, by rw [decide_eq_false (show ¬ (0 : Int) ≤ k by omega), Bool.false_and]; rfl, rfl⟩
theorem dv_is0 (k : Int) (L : List HP) : TriE Tryd.prog 34 #[.pointer none, .int .i64 k] (fun v M => v = .bool false ∧ M = L) L := by
  refine Tri.of (N := 13) (args := [.pointer none, .int .i64 k]) Tryd.func34 rfl rfl rfl ?_
  refine go ?_
  refine WO.sv rfl ?_
  refine SV.geqC rfl rfl ?_ ?_
  · intro h
    refine go ?_
    refine WO.callE (vs := [.pointer none]) Tryd.func35 rfl rfl rfl rfl (dv_Len0 _) ?_
    rintro v M ⟨rfl, rfl⟩
    refine go ?_
    exact ⟨rfl, [_], ⟨Res.tmp rfl, trivial⟩, _, ent, rfl, rfl⟩
  · intro h
    refine go ?_
    exact ⟨rfl, [_], ⟨Res.tmp rfl, trivial⟩, _, ent, rfl, rfl⟩

/-! sync/atomic -/
theorem at_Add (b off : Nat) (l l' : List Value) (T : TypeId) (x y z : Int) (R : List HP) (hc : lget l off = some (.int .i64 x)) (hw : IntKind.i64.wrap (x + y) = z) (hl : NL (lput l off [.int .i64 z]) l') :
    TriE Tryd.prog 50 #[.pointer (some ⟨b, off, none⟩), .int .i64 y] (fun v M => v = .int .i64 z ∧ M = pts b (.cells l'.toArray T) :: R) (pts b (.cells l.toArray T) :: R) := by
  refine Tri.of (N := 10) (args := [.pointer (some ⟨b, off, none⟩), .int .i64 y]) Tryd.func50 rfl rfl rfl ?_
  refine go ?_
  refine WO.sv rfl ?_
  refine SV.atomAdd (b := b) (off := off) Tryd.func67 rfl rfl (by kernel_rfl) (by kernel_rfl) rfl hc (Nat.le_refl _) hw hl ?_
  refine go ?_
  exact ⟨rfl, [_], ⟨Res.tmp rfl, trivial⟩, _, ent, rfl, rfl⟩
/-! a call begins -/
theorem dv_call (b : Nat) (x : DvX) (d : Dv) (may : Bool) (R : List HP) (ha : -1 ≤ d.arm ∧ d.arm ≤ 9223372036854775807) :
    TriE Tryd.prog 33 #[.pointer (some ⟨b, 0, none⟩), .bool may] (fun v M => v = .int .i64 (d.call may).2 ∧ M = dvL b x (d.call may).1 ++ R) (dvL b x d ++ R) := by
  obtain ⟨ka, kc, na, nc, wa, wc⟩ := x
  obtain ⟨kept, now, waits, arm, down, ops⟩ := d
  dsimp only at ha
  simp only [dvL, List.cons_append, List.nil_append]
  refine Tri.of (N := 42) (args := [.pointer (some ⟨b, 0, none⟩), .bool may]) Tryd.func33 rfl rfl rfl ?_
  refine go ?_
  refine WO.callE (vs := [.pointer (some ⟨b, 0, none⟩)]) Tryd.func49 rfl rfl rfl rfl (dv_none b _ _ _ _ _ _ _ _ _ (RdS.all rfl)) ?_
  rintro v M ⟨rfl, rfl⟩
  refine go ?_
  refine W.if rfl (fun h => ?_) (fun h => ?_)
  · refine go ?_
    refine ⟨rfl, [_], ⟨Res.tmp rfl, trivial⟩, _, Ent.refl _, ?_, ?_⟩
    · simp only [Dv.call]; rw [if_pos h]; rfl
    · simp only [Dv.call]; rw [if_pos h]
  cases may with
  | false =>
    refine go ?_
    refine ⟨rfl, [_], ⟨Res.tmp rfl, trivial⟩, _, Ent.refl _, ?_, ?_⟩
    · simp only [Dv.call]; rw [if_neg h, if_pos trivial]; rfl
    · simp only [Dv.call]; rw [if_neg h, if_pos trivial]
  | true =>
    refine go ?_
    refine WO.callE (vs := [.pointer (some ⟨b, 0 + 5, none⟩), .int .i64 1]) Tryd.func50 rfl rfl rfl rfl (at_Add b (0 + 5) _ [.slice ka kept.length kc, .slice na now.length nc, .slice wa waits.length wc, .int .i64 arm, .bool down, .int .i64 (IntKind.i64.wrap (ops + 1))] _ ops 1 _ _ rfl rfl nl) ?_
    rintro v M ⟨rfl, rfl⟩
    cases down with
    | true =>
      refine go ?_
      refine ⟨rfl, [_], ⟨Res.tmp rfl, trivial⟩, _, Ent.refl _, ?_, ?_⟩
      · simp only [Dv.call]; rw [if_neg h, if_neg (by decide)]; rfl
      · simp only [Dv.call]; rw [if_neg h, if_neg (by decide)]; rfl
    | false =>
      by_cases h0 : arm = 0
      · refine go ?_
        refine ⟨rfl, [_], ⟨Res.tmp rfl, trivial⟩, _, Ent.refl _, ?_, ?_⟩
        · simp only [Dv.call]; rw [if_neg h, if_neg (by decide), decide_eq_true h0]; rfl
        · simp only [Dv.call]; rw [if_neg h, if_neg (by decide), decide_eq_true h0]; rfl
      · refine go ?_
        refine ⟨rfl, [_], ⟨Res.tmp rfl, trivial⟩, _, Ent.refl _, ?_, ?_⟩
        · simp only [Dv.call]; rw [if_neg h, if_neg (by decide), decide_eq_false h0]; rfl
        · simp only [Dv.call]; rw [if_neg h, if_neg (by decide), decide_eq_false h0]; rfl
theorem dv_call0 (may : Bool) (L : List HP) : TriE Tryd.prog 33 #[.pointer none, .bool may] (fun v M => v = .int .i64 1 ∧ M = L) L := by
  refine Tri.of (N := 42) (args := [.pointer none, .bool may]) Tryd.func33 rfl rfl rfl ?_
  refine go ?_
  refine WO.callE (vs := [.pointer none]) Tryd.func49 rfl rfl rfl rfl (dv_none0 _) ?_
  rintro v M ⟨rfl, rfl⟩
  refine go ?_
  exact ⟨rfl, [_], ⟨Res.tmp rfl, trivial⟩, _, ent, rfl, rfl⟩
end Go.SL
