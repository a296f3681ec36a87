/- Layer 7: a device: what its functions do, each walked once. -/
import Derived.Test.YtlcahhfbhjbgoaaDw
namespace Go.SL
open Go.Proofs
set_option linter.unusedVariables false
set_option maxRecDepth 10000
attribute [local irreducible] W WO SV OW SW Tri Ent Tk Has Src SrcK DA DB RdS Own

theorem sl_CloneStr (a : Option Addr) (n c : Nat) (xs : List Byt) (L : List HP) (hn : n ≤ 1000000) (r : RdS 1 a n (xs.map strV) L) :
    TriE Try.prog 63 #[.slice a n c] (fun v M => ∃ a' c', v = .slice a' n c' ∧ SomeA a' n ∧ M = Own 9 1 (.slice a' n c') n (xs.map strV) :: L) L := by
  refine Tri.of (N := 8) (args := [.slice a n c]) Try.func63 rfl rfl rfl ?_
  cases a with
  | none =>
    have h0 : n = 0 := Classical.byContradiction fun h0 => by obtain ⟨b, off, e⟩ := r.at h0; cases e
    subst h0
    have hx : xs = [] := by have := r.len; simpa using this
    subst hx
    refine go ?_
    exact ⟨rfl, [_], ⟨Res.tmp rfl, trivial⟩, _, Ent.ownNil (Ent.refl _), none, 0, rfl, fun h => absurd rfl h, rfl⟩
  | some a =>
    refine go ?_
    refine WO.sv rfl ?_
    refine SV.lit0 ?_
    intro b1
    refine go ?_
    refine WO.ent (ent_own (sz := 1) (n := 0) rfl) ?_
    refine WO.sv rfl ?_
    refine SV.append rfl rfl rfl tk (RdS.src r) (by rw [r.len]) (by simp [strV, isCell]) (by omega) rfl ?_
    intro a' c' ha'
    rw [Nat.zero_add, List.nil_append] at *
    refine go ?_
    exact ⟨rfl, [_], ⟨Res.tmp rfl, trivial⟩, _, ent, a', c', rfl, ha', rfl⟩
theorem sl_CloneWr (a : Option Addr) (n c : Nat) (xs : List (Nat × Byt)) (L : List HP) (hn : n ≤ 1000000) (r : RdS 2 a n (xs.flatMap wrV) L) :
    TriE Try.prog 67 #[.slice a n c] (fun v M => ∃ a' c', v = .slice a' n c' ∧ SomeA a' n ∧ M = Own 113 2 (.slice a' n c') n (xs.flatMap wrV) :: L) L := by
  refine Tri.of (N := 8) (args := [.slice a n c]) Try.func67 rfl rfl rfl ?_
  cases a with
  | none =>
    have h0 : n = 0 := Classical.byContradiction fun h0 => by obtain ⟨b, off, e⟩ := r.at h0; cases e
    subst h0
    have hx : xs = [] := by have := r.len; rw [flat_len (n := 2) (fun _ => rfl)] at this; cases xs with | nil => rfl | cons x l => simp at this
    subst hx
    refine go ?_
    exact ⟨rfl, [_], ⟨Res.tmp rfl, trivial⟩, _, Ent.ownNil (Ent.refl _), none, 0, rfl, fun h => absurd rfl h, rfl⟩
  | some a =>
    refine go ?_
    refine WO.sv rfl ?_
    refine SV.lit0 ?_
    intro b1
    refine go ?_
    refine WO.ent (ent_own (sz := 2) (n := 0) rfl) ?_
    refine WO.sv rfl ?_
    refine SV.append rfl rfl rfl tk (RdS.src r) (by rw [r.len]) (by simp only [List.all_flatMap]; simp [wrV, strV, isCell]) (by omega) rfl ?_
    intro a' c' ha'
    rw [Nat.zero_add, List.nil_append] at *
    refine go ?_
    exact ⟨rfl, [_], ⟨Res.tmp rfl, trivial⟩, _, ent, a', c', rfl, ha', rfl⟩

theorem DevH.close {b : Nat} {d : Dv} {L R : List HP} (x : DvX) (h1 : SomeA x.1 d.kept.length) (h2 : SomeA x.2.2.1 d.now.length) (h3 : SomeA x.2.2.2.2.1 d.waits.length) (e : Ent L (dvL b x d ++ R)) : Ent L (DevH b d :: R) :=
  Ent.closeI (p := fun x : DvX => SomeA x.1 d.kept.length ∧ SomeA x.2.2.1 d.now.length ∧ SomeA x.2.2.2.2.1 d.waits.length) x ⟨h1, h2, h3⟩ e
theorem DevH.opens {P : Program} {g : FuncId} {args : Array Value} {K : Value → List HP → Prop} {b : Nat} {d : Dv} {R : List HP}
    (h : ∀ x : DvX, SomeA x.1 d.kept.length → SomeA x.2.2.1 d.now.length → SomeA x.2.2.2.2.1 d.waits.length → Tri P g args K (dvL b x d ++ R)) : Tri P g args K (DevH b d :: R) :=
  Tri.openI (p := fun x : DvX => SomeA x.1 d.kept.length ∧ SomeA x.2.2.1 d.now.length ∧ SomeA x.2.2.2.2.1 d.waits.length) fun x hx => h x hx.1 hx.2.1 hx.2.2

def zero256 : Byt := List.replicate 256 0
def Dv.new (n : Nat) : Dv := ⟨List.replicate n zero256, List.replicate n zero256, [], -1, false, 0⟩
theorem Dv.new_ok {n : Nat} (h : n ≤ 4096) : (Dv.new n).Ok :=
  ⟨by simp [Dv.new], by simp [Dv.new]; exact h, fun s hs => by rw [List.mem_replicate.1 hs |>.2]; simp [zero256], fun s hs => by rw [List.mem_replicate.1 hs |>.2]; simp [zero256], fun w hw => (by cases hw), by simp [Dv.new], rfl⟩
theorem dv_New (n : Int) (L : List HP) (h1 : 1 ≤ n) (h2 : n ≤ 4096) :
    TriE Try.prog 35 #[.int .i64 n] (fun v M => ∃ b, v = .tuple #[.pointer (some ⟨b, 0, none⟩), .int .i64 0] ∧ M = DevH b (Dv.new n.toNat) :: L) L := by
  obtain ⟨m, rfl⟩ : ∃ m : Nat, n = m := ⟨n.toNat, by omega⟩
  refine Tri.of (N := 29) (args := [.int .i64 m]) Try.func35 rfl rfl rfl ?_
  refine go ?_
  refine WO.sv rfl ?_
  refine SV.makeSlice rfl (m := 256) rfl (by decide) (by decide) ?_
  intro b1
  refine WO.sv rfl ?_
  refine SV.toStr (bs := zero256) rfl (by simp) ?_ ?_
  · rw [lsub_eq, List.drop_zero, List.take_of_length_le (by simp), zero256, List.map_replicate]; rfl
  refine go ?_
  refine WO.sv rfl ?_
  refine SV.lit rfl rfl rfl parts rfl nl ?_
  intro b2
  refine go ?_
  refine WO.callE (vs := [.slice (some ⟨b2, 0, none⟩) 1 1, .int .i64 m]) Try.func62 rfl rfl rfl rfl (sl_Repeat b2 1 m zero256 _ (by omega) (by omega) (RdS.all rfl)) ?_
  rintro v M ⟨b3, rfl, rfl⟩
  refine go ?_
  intro b4
  refine go ?_
  have hm : m ≠ 0 := by omega
  have e0 : List.replicate m (strV zero256) = (List.replicate m zero256).map strV := by rw [List.map_replicate]
  rw [e0]
  refine WO.callE (vs := [.slice (some ⟨b3, 0, none⟩) m m]) Try.func63 rfl rfl rfl rfl (sl_CloneStr (some ⟨b3, 0, none⟩) m m (List.replicate m zero256) _ (by omega) (RdS.cons (RdS.own tk (fun _ => ⟨b3, rfl⟩) (by simp)))) ?_
  rintro v M ⟨a5, c5, rfl, h5, rfl⟩
  refine go ?_
  refine ⟨rfl, [_, _], ⟨Res.tmp rfl, Res.tmp rfl, trivial⟩, DevH b4 (Dv.new m) :: L, ?_, b4, rfl, by rw [Int.toNat_natCast]⟩
  refine DevH.close (some ⟨b3, 0, none⟩, m, a5, c5, none, 0) (fun _ => ⟨b3, rfl⟩) (by simpa [Dv.new] using h5) (fun h => absurd rfl h) ?_
  simp only [dvL, Dv.new, List.length_replicate, List.cons_append, List.nil_append]
  refine Ent.take tk (Ent.take tk (Ent.take tk ?_))
  exact Ent.ownNil ent
theorem dv_NewBad (n : Int) (L : List HP) (h : n < 1 ∨ 4096 < n) :
    TriE Try.prog 35 #[.int .i64 n] (fun v M => v = .tuple #[.pointer none, .int .i64 2] ∧ M = L) L := by
  refine Tri.of (N := 29) (args := [.int .i64 n]) Try.func35 rfl rfl rfl ?_
  by_cases h1 : n < 1
  · refine go ?_
    exact ⟨rfl, [_, _], ⟨Res.tmp rfl, Res.tmp rfl, trivial⟩, _, ent, rfl, rfl⟩
  · refine go ?_
    exact ⟨rfl, [_, _], ⟨Res.tmp rfl, Res.tmp rfl, trivial⟩, _, ent, rfl, rfl⟩
end Go.SL
