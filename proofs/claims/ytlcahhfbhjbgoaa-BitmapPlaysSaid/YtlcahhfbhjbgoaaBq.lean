/- Layer 11: what its functions do (5). -/
import Derived.Test.YtlcahhfbhjbgoaaBn
import Derived.Test.YtlcahhfbhjbgoaaBo
import Derived.Test.YtlcahhfbhjbgoaaBp
namespace Go.SL
open Go.Proofs
set_option linter.unusedVariables false
set_option maxRecDepth 10000
set_option maxHeartbeats 2000000
attribute [local irreducible] W WO SV OW SW Tri Ent Tk Has Src SrcK DA DB RdS Own

theorem OB.rd {a : Option Addr} {c : Nat} {bs : List Nat} {L R : List HP} (t : Tk L (OB a c bs) R) (ha : SomeA a bs.length) : RdS 1 a bs.length (bs.map u8) L := RdS.own t ha (by simp)

theorem bm_With (a : Option Addr) (c : Nat) (bs : List Nat) (n : Nat) (from_ many : Int) (L : List HP) (h0 : bs.length ≤ 1000) (hn : n ≤ 8 * bs.length) (ok : OkB bs) (r : RdS 1 a bs.length (bs.map u8) L)
    (hf : -9223372036854775808 ≤ from_ ∧ from_ ≤ 9223372036854775807) (hm : -9223372036854775808 ≤ many ∧ many ≤ 9223372036854775807) :
    TriE Try.prog 14 #[BV a c bs n, .int .i64 from_, .int .i64 many]
      (fun v M => ∃ a' c' bs', Run2 bs bs' (inRun n from_ many) true ∧ v = BV a' c' bs' n ∧ SomeA a' bs'.length ∧ M = OB a' c' bs' :: L) L := by
  refine Tri.of (N := 11) (args := [BV a c bs n, .int .i64 from_, .int .i64 many]) Try.func14 rfl rfl rfl ?_
  refine go ?_
  intro b3
  refine go ?_
  intro b6
  refine go ?_
  refine WO.callE (vs := [BV a c bs n, .int .i64 from_, .int .i64 many, .bool true]) Try.func54 rfl rfl rfl rfl (bm_set a c bs n from_ many true _ h0 hn ok (RdS.cons (RdS.cons r)) hf hm) ?_
  rintro v M ⟨a', c', bs', h1, rfl, h2, rfl⟩
  refine go ?_
  exact ⟨rfl, [_], ⟨Res.cell rfl le0 nl, trivial⟩, _, ent, a', c', bs', h1, rfl, h2, rfl⟩
theorem bm_Without (a : Option Addr) (c : Nat) (bs : List Nat) (n : Nat) (from_ many : Int) (L : List HP) (h0 : bs.length ≤ 1000) (hn : n ≤ 8 * bs.length) (ok : OkB bs) (r : RdS 1 a bs.length (bs.map u8) L)
    (hf : -9223372036854775808 ≤ from_ ∧ from_ ≤ 9223372036854775807) (hm : -9223372036854775808 ≤ many ∧ many ≤ 9223372036854775807) :
    TriE Try.prog 16 #[BV a c bs n, .int .i64 from_, .int .i64 many]
      (fun v M => ∃ a' c' bs', Run2 bs bs' (inRun n from_ many) false ∧ v = BV a' c' bs' n ∧ SomeA a' bs'.length ∧ M = OB a' c' bs' :: L) L := by
  refine Tri.of (N := 11) (args := [BV a c bs n, .int .i64 from_, .int .i64 many]) Try.func16 rfl rfl rfl ?_
  refine go ?_
  intro b3
  refine go ?_
  intro b6
  refine go ?_
  refine WO.callE (vs := [BV a c bs n, .int .i64 from_, .int .i64 many, .bool false]) Try.func54 rfl rfl rfl rfl (bm_set a c bs n from_ many false _ h0 hn ok (RdS.cons (RdS.cons r)) hf hm) ?_
  rintro v M ⟨a', c', bs', h1, rfl, h2, rfl⟩
  refine go ?_
  exact ⟨rfl, [_], ⟨Res.cell rfl le0 nl, trivial⟩, _, ent, a', c', bs', h1, rfl, h2, rfl⟩

/-! the runs, plainly -/
theorem RunIs.uniq {p : Nat → Bool} {n : Nat} {many r r' : Int} (h : RunIs p n many r) (h' : RunIs p n many r') : r = r' := by
  have key : ∀ {r r' : Int}, RunIs p n many r → RunIs p n many r' → r < r' → False := by
    intro r r' h h' hlt
    rcases h with ⟨h1, h2⟩ | ⟨h1, h2, h3, h4, h5⟩
    · rcases h' with ⟨h1', _⟩ | ⟨h1', h2', h3', h4', h5'⟩
      · omega
      · rcases h2 with h2 | h2
        · omega
        · obtain ⟨j, hj, hp⟩ := h2 r'.toNat (by omega)
          rw [h4' j hj] at hp; cases hp
    · rcases h' with ⟨h1', _⟩ | ⟨h1', h2', h3', h4', h5'⟩
      · omega
      · obtain ⟨j, hj, hp⟩ := h5' r.toNat (by omega)
        rw [h4 j hj] at hp; cases hp
  rcases Int.lt_trichotomy r r' with h1 | h1 | h1
  · exact (key h h' h1).elim
  · exact h1
  · exact (key h' h h1).elim
theorem RunIs.congr {p q : Nat → Bool} {n : Nat} {many r : Int} (e : ∀ k, p k = q k) (h : RunIs p n many r) : RunIs q n many r := by
  have : p = q := funext e
  subst this; exact h

theorem r19_2 : RunIs (bitB [19]) 8 2 2 := by
  refine .inr ⟨by decide, by decide, by decide, fun j hj => ?_, fun k hk => ?_⟩
  · have : j = 0 ∨ j = 1 := by omega
    rcases this with rfl | rfl <;> decide
  · have : k = 0 ∨ k = 1 := by omega
    rcases this with rfl | rfl <;> exact ⟨0, by decide, by decide⟩
theorem r19_3 : RunIs (bitB [19]) 8 3 5 := by
  refine .inr ⟨by decide, by decide, by decide, fun j hj => ?_, fun k hk => ?_⟩
  · have : j = 0 ∨ j = 1 ∨ j = 2 := by omega
    rcases this with rfl | rfl | rfl <;> decide
  · have : k = 0 ∨ k = 1 ∨ k = 2 ∨ k = 3 ∨ k = 4 := by omega
    rcases this with rfl | rfl | rfl | rfl | rfl
    · exact ⟨0, by decide, by decide⟩
    · exact ⟨0, by decide, by decide⟩
    · exact ⟨2, by decide, by decide⟩
    · exact ⟨1, by decide, by decide⟩
    · exact ⟨0, by decide, by decide⟩
theorem r19_4 : RunIs (bitB [19]) 8 4 (-1) := by
  refine .inl ⟨rfl, .inr fun k hk => ?_⟩
  have : k = 0 ∨ k = 1 ∨ k = 2 ∨ k = 3 ∨ k = 4 := by omega
  rcases this with rfl | rfl | rfl | rfl | rfl
  · exact ⟨0, by decide, by decide⟩
  · exact ⟨0, by decide, by decide⟩
  · exact ⟨2, by decide, by decide⟩
  · exact ⟨1, by decide, by decide⟩
  · exact ⟨0, by decide, by decide⟩
theorem is19 {bs : List Nat} (hl : bs.length = 1) (ok : OkB bs) (hb : ∀ k, k < 8 → bitB bs k = (decide (k = 0) || decide (k = 1) || decide (k = 4))) : bs = [19] := by
  obtain ⟨x, rfl⟩ := List.length_eq_one_iff.1 hl
  have hx := ok x (List.mem_singleton.2 rfl)
  have key : ∀ x, x < 256 → (∀ k, k < 8 → x.testBit k = (decide (k = 0) || decide (k = 1) || decide (k = 4))) → x = 19 := by decide
  rw [key x hx fun k hk => by
    have := hb k hk
    unfold bitB at this
    rw [Nat.div_eq_of_lt hk, Nat.mod_eq_of_lt hk] at this
    exact this]
theorem bm_one (L : List HP) : TriE Try.prog 13 #[] (fun v M => v = .bool true ∧ M = L) L := by
  refine Tri.of (N := 36) (args := []) Try.func13 rfl rfl rfl ?_
  refine go ?_
  refine WO.callE (vs := [.int .i64 8]) Try.func19 rfl rfl rfl rfl (bm_New 8 _) ?_
  rintro v M ⟨a, c, rfl, ha, rfl⟩
  refine go ?_
  refine WO.callE (vs := [BV a c (List.replicate ((clip 8 + 7) / 8) 0) (clip 8), .int .i64 0, .int .i64 2]) Try.func14 rfl rfl rfl rfl (bm_With a c _ (clip 8) 0 2 _ (by decide) (by decide) (by intro x hx; rw [List.mem_replicate] at hx; omega) (OB.rd tk ha) (by decide) (by decide)) ?_
  rintro v M ⟨a1, c1, bs1, ⟨l1, o1, h1⟩, rfl, ha1, rfl⟩
  refine go ?_
  have e1 : bs1.length = 1 := by rw [l1]; decide
  refine WO.callE (vs := [BV a1 c1 bs1 (clip 8), .int .i64 4, .int .i64 1]) Try.func14 rfl rfl rfl rfl (bm_With a1 c1 bs1 (clip 8) 4 1 _ (by omega) (by rw [e1]; decide) o1 (OB.rd tk ha1) (by decide) (by decide)) ?_
  rintro v M ⟨a2, c2, bs2, ⟨l2, o2, h2⟩, rfl, ha2, rfl⟩
  have hc : clip 8 = 8 := by decide
  have e2 : bs2 = [19] := by
    refine is19 (by omega) o2 fun k hk => ?_
    have hz : bitB (List.replicate ((clip 8 + 7) / 8) 0) k = false := by
      have : k / 8 = 0 := Nat.div_eq_of_lt hk
      unfold bitB
      rw [this, hc]; simp
    rw [hc] at hz
    have q1 := h1 k
    have q2 := h2 k
    simp only [inRun, hc] at q1 q2
    by_cases g : k = 4
    · rw [q2.1 (by omega)]; simp [g]
    · rw [q2.2 (by omega)]
      by_cases g1 : k < 2
      · rw [q1.1 (by omega)]
        have : k = 0 ∨ k = 1 := by omega
        rcases this with rfl | rfl <;> rfl
      · rw [q1.2 (by omega), hz]
        have e0 : ¬ k = 0 := by omega
        have e1 : ¬ k = 1 := by omega
        simp [g, e0, e1]
  subst e2
  refine go ?_
  intro b1
  refine go ?_
  refine WO.callE (vs := [BV a2 c2 [19] (clip 8), .int .i64 2]) Try.func11 rfl rfl rfl rfl (bm_Run a2 c2 [19] (clip 8) 2 _ (by decide) (by decide) o2 (RdS.cons (OB.rd tk ha2)) (by decide)) ?_
  rintro v M ⟨x, hx, rfl, rfl⟩
  rw [hc] at hx
  have hx := RunIs.uniq hx r19_2
  subst hx
  refine go ?_
  refine WO.callE (vs := [BV a2 c2 [19] (clip 8), .int .i64 3]) Try.func11 rfl rfl rfl rfl (bm_Run a2 c2 [19] (clip 8) 3 _ (by decide) (by decide) o2 (RdS.cons (OB.rd tk ha2)) (by decide)) ?_
  rintro v M ⟨x, hx, rfl, rfl⟩
  rw [hc] at hx
  have hx := RunIs.uniq hx r19_3
  subst hx
  refine go ?_
  refine WO.callE (vs := [BV a2 c2 [19] (clip 8), .int .i64 4]) Try.func11 rfl rfl rfl rfl (bm_Run a2 c2 [19] (clip 8) 4 _ (by decide) (by decide) o2 (RdS.cons (OB.rd tk ha2)) (by decide)) ?_
  rintro v M ⟨x, hx, rfl, rfl⟩
  rw [hc] at hx
  have hx := RunIs.uniq hx r19_4
  subst hx
  refine go ?_
  refine WO.callE (vs := [BV a2 c2 [19] (clip 8)]) Try.func17 rfl rfl rfl rfl (bm_Used a2 c2 [19] (clip 8) _ (by decide) o2 (RdS.cons (OB.rd tk ha2))) ?_
  rintro v M ⟨rfl, rfl⟩
  rw [show sumPop [19] = 3 by decide]
  refine go ?_
  refine WO.callE (vs := [BV a2 c2 [19] (clip 8)]) Try.func12 rfl rfl rfl rfl (bm_Bytes a2 c2 [19] (clip 8) _ (by decide) (RdS.cons (OB.rd tk ha2))) ?_
  rintro v M ⟨a3, c3, rfl, ha3, rfl⟩
  refine go ?_
  refine WO.callE (vs := [BV a2 c2 [19] (clip 8)]) Try.func12 rfl rfl rfl rfl (bm_Bytes a2 c2 [19] (clip 8) _ (by decide) (RdS.cons (RdS.cons (OB.rd tk ha2)))) ?_
  rintro v M ⟨a4, c4, rfl, ha4, rfl⟩
  obtain ⟨b4, rfl⟩ := ha4 (by decide)
  refine go ?_
  refine WO.sv rfl ?_
  refine SV.loadR (v := u8 19) 0 rfl (OB.rd (a := some ⟨b4, 0, none⟩) (c := c4) (bs := [19]) Tk.here ha4) (by decide) rfl ?_
  refine go ?_
  exact ⟨rfl, [_], ⟨Res.tmp rfl, trivial⟩, L, ent, rfl, rfl⟩
end Go.SL
