/- Layer 11: the law BitmapBack, walked. -/
import Derived.Test.YtlcahhfbhjbgoaaBq
import Derived.Test.YtlcahhfbhjbgoaaBr
import Derived.Test.YtlcahhfbhjbgoaaSlE
namespace Go.SL
open Go.Proofs
set_option linter.unusedVariables false
set_option maxRecDepth 10000
set_option maxHeartbeats 4000000
attribute [local irreducible] W WO SV OW SW Tri Ent Tk Has Src SrcK DA DB RdS Own

theorem i64_mask (a : Int) (k : Nat) (hk : k < 9223372036854775808) : ∃ x : Nat, x ≤ k ∧ IntKind.wrap .i64 (((a % 2 ^ IntKind.bits .i64).toNat &&& (((k : Nat) : Int) % 2 ^ IntKind.bits .i64).toNat : Nat) : Int) = (x : Int) := by
  have e : (((k : Nat) : Int) % 2 ^ IntKind.bits .i64).toNat = k := by
    rw [show IntKind.bits .i64 = 64 from rfl]; omega
  rw [e]
  refine ⟨(a % 2 ^ IntKind.bits .i64).toNat &&& k, Nat.and_le_right, ?_⟩
  have := Nat.and_le_right (n := (a % 2 ^ IntKind.bits .i64).toNat) (m := k)
  generalize (a % 2 ^ IntKind.bits .i64).toNat &&& k = x at *
  exact i64w (by omega) (by omega)

def strB (bs : List Nat) : List UInt8 := bs.map Nat.toUInt8
theorem strB_u8 {bs : List Nat} (ok : OkB bs) : bs.map u8 = (strB bs).map u8V := by
  rw [strB, List.map_map]
  refine List.map_congr_left fun x hx => ?_
  have := ok x hx
  simp only [Function.comp, u8, u8V, Nat.toUInt8]
  congr 1
  have : (UInt8.ofNat x).toNat = x := by simp; omega
  omega

theorem SV.toStrB {P : Program} {ro : Option Nat} {f : Frm} {L : List HP} {d : Option Nat} {ty : TypeId} {ps : String} {af : Array Edge} {gu : Option (Nat × Bool)} {K : Value → List HP → Prop} {s u e : TypeId} {x : Operand} {a : Option Addr} {c : Nat} {bs : List Nat} {R : List HP}
    (hx : f.ev x = .slice a bs.length c) (ok : OkB bs) [hs : TU P s (.slice e)] [he : TU P e (.int .u8)] [hu : TU P u .string] (t : Tk L (OB a c bs) R) (h : K (.string ⟨(strB bs).toArray⟩) L) : SV P ro ⟨d, .convert s u x, ty, ps, af, gu⟩ f K L := by
  unfold OB at t
  rw [strB_u8 ok] at t
  exact SV.toStrO hx t h

theorem back (a0 : Option Addr) (c0 : Nat) (src : List Nat) (a1 a2 : Int) (L : List HP) (ok : OkB src) (r : RdS 1 a0 src.length (src.map u8) L) :
    TriE Try.prog 3 #[.slice a0 src.length c0, .int .i64 a1, .int .i64 a2] (fun v M => v = .bool true ∧ M = L) L := by
  refine Tri.of (N := 110) (args := [.slice a0 src.length c0, .int .i64 a1, .int .i64 a2]) Try.func3 rfl rfl rfl ?_
  refine go ?_
  refine WO.sv rfl ?_
  refine SV.gtrC rfl rfl ?_ ?_
  · intro h
    refine go ?_
    exact ⟨rfl, [_], ⟨Res.tmp rfl, trivial⟩, L, ent, rfl, rfl⟩
  intro hlen
  refine go ?_
  obtain ⟨B, hB, eB⟩ := i64_mask a1 255 (by decide)
  refine WO.sv rfl ?_
  refine SV.band rfl rfl eB ?_
  refine go ?_
  obtain ⟨m0, hm0, em⟩ := i64_mask a2 7 (by decide)
  refine WO.sv rfl ?_
  refine SV.band rfl rfl em ?_
  refine go ?_
  have hcB : clip (B : Int) = B := by unfold clip; omega
  refine WO.callE (vs := [.slice a0 src.length c0, .int .i64 B]) Try.func10 rfl rfl rfl rfl (bm_Of a0 c0 src B _ (by omega) ok r) ?_
  rintro v M ⟨sa, sc, bs, ls, os, hs, rfl, hsa, rfl⟩
  rw [hcB] at ls hs ⊢
  refine go ?_
  intro b7
  refine go ?_
  refine WO.callE (vs := [BV sa sc bs B, .int .i64 (1 + m0)]) Try.func11 rfl rfl rfl rfl (bm_Run sa sc bs B (1 + m0) _ (by omega) (by omega) os (RdS.cons (OB.rd tk hsa)) (by omega)) ?_
  rintro v M ⟨x, hx, rfl, rfl⟩
  have hxr : -1 ≤ x ∧ x ≤ 255 := by rcases hx with ⟨h, _⟩ | ⟨h, _, h3, _⟩ <;> omega
  refine go ?_
  refine WO.sv rfl ?_
  refine SV.lssC rfl rfl ?_ ?_
  · intro hneg
    refine go ?_
    refine WO.callE (vs := [BV sa sc bs B]) Try.func12 rfl rfl rfl rfl (bm_Bytes sa sc bs B _ (by omega) (RdS.cons (OB.rd tk hsa))) ?_
    rintro v M ⟨a3, c3, rfl, h3, rfl⟩
    refine go ?_
    refine WO.callE (vs := [.slice a3 bs.length c3, .int .i64 B]) Try.func10 rfl rfl rfl rfl (bm_Of a3 c3 bs B _ (by omega) os (OB.rd tk h3)) ?_
    rintro v M ⟨a4, c4, bs4, l4, o4, h4, rfl, ha4, rfl⟩
    rw [hcB] at l4 h4 ⊢
    refine go ?_
    refine WO.callE (vs := [BV a4 c4 bs4 B, .int .i64 (1 + m0)]) Try.func11 rfl rfl rfl rfl (bm_Run a4 c4 bs4 B (1 + m0) _ (by omega) (by omega) o4 (OB.rd tk ha4) (by omega)) ?_
    rintro v M ⟨y, hy, rfl, rfl⟩
    have hy' := RunIs.uniq (RunIs.congr (q := bitB bs) (fun k => by rw [h4, hs]; cases decide (k < B) <;> rfl) hy) hx
    subst hy'
    refine go ?_
    refine WO.callE (vs := []) Try.func13 rfl rfl rfl rfl (bm_one _) ?_
    rintro v M ⟨rfl, rfl⟩
    refine go ?_
    exact ⟨rfl, [_], ⟨Res.tmp rfl, trivial⟩, L, ent, rfl, rfl⟩
  intro hpos
  obtain ⟨X, rfl⟩ : ∃ X : Nat, x = X := ⟨x.toNat, by omega⟩
  obtain ⟨hfit, hfree⟩ : (X : Int) + (1 + m0) ≤ B ∧ ∀ j : Nat, j < 1 + m0 → bitB bs (X + j) = false := by
    rcases hx with ⟨h, _⟩ | ⟨_, _, h3, h4, _⟩
    · omega
    · exact ⟨h3, fun j hj => by have := h4 j (by omega); rwa [Int.toNat_natCast] at this⟩
  refine go ?_
  refine WO.callE (vs := [BV sa sc bs B, .int .i64 X, .int .i64 (1 + m0)]) Try.func14 rfl rfl rfl rfl (bm_With sa sc bs B X (1 + m0) _ (by omega) (by omega) os (RdS.cons (OB.rd tk hsa)) (by omega) (by omega)) ?_
  rintro v M ⟨ta, tc, bt, ⟨lt, ot, ht⟩, rfl, hta, rfl⟩
  have ht : ∀ k, bitB bt k = if X ≤ k ∧ k < X + (1 + m0) then true else bitB bs k := by
    intro k
    by_cases h : X ≤ k ∧ k < X + (1 + m0)
    · rw [if_pos h]; exact (ht k).1 (by unfold inRun; omega)
    · rw [if_neg h]; exact (ht k).2 (by unfold inRun; omega)
  refine go ?_
  intro b9
  refine go ?_
  refine W.loopS 1152917106560336960 rfl (fun k : Nat => [(10, .int .i64 k)]) (fun _ => pts b9 (.cells [Value.slice ta bt.length tc, .int .i64 B].toArray 24) :: OB ta tc bt :: pts b7 (.cells [Value.slice sa bs.length sc, .int .i64 B].toArray 24) :: OB sa sc bs :: L)
    (fun k => k ≤ 1 + m0) (fun k => 1 + m0 - k) 0 ⟨rfl, trivial⟩ (by omega) (Ent.app ent) ?_
  intro k bg hk
  refine go ?_
  refine WO.sv rfl ?_
  refine SV.lssC rfl rfl ?_ ?_
  · intro hk1
    refine go ?_
    refine WO.callE (vs := [BV sa sc bs B, .int .i64 (X + k)]) Try.func15 rfl rfl rfl rfl (bm_Has sa sc bs B (X + k) _ (by omega) (by omega) os (RdS.cons (RdS.cons (OB.rd tk hsa)))) ?_
    rintro v M ⟨rfl, rfl⟩
    have e1 : hasB bs B (X + k) = false := by
      unfold hasB
      have := hfree k (by omega)
      rw [show ((X : Int) + k).toNat = X + k by omega, this]; simp
    rw [e1]
    refine go ?_
    refine WO.callE (vs := [BV ta tc bt B, .int .i64 (X + k)]) Try.func15 rfl rfl rfl rfl (bm_Has ta tc bt B (X + k) _ (by omega) (by omega) ot (RdS.cons (OB.rd tk hta))) ?_
    rintro v M ⟨rfl, rfl⟩
    have e2 : hasB bt B (X + k) = true := by
      unfold hasB
      rw [show ((X : Int) + k).toNat = X + k by omega, ht, if_pos (by omega), decide_eq_true (by omega), decide_eq_true (by omega)]; rfl
    rw [e2]
    refine go ?_
    exact ⟨k + 1, ⟨rfl, trivial⟩, rfl, by omega, by omega, fun _ _ x => x⟩
  intro hk1
  refine go ?_
  refine WO.callE (vs := [BV ta tc bt B, .int .i64 X, .int .i64 (1 + m0)]) Try.func16 rfl rfl rfl rfl (bm_Without ta tc bt B X (1 + m0) _ (by omega) (by omega) ot (RdS.cons (OB.rd tk hta)) (by omega) (by omega)) ?_
  rintro v M ⟨ua, uc, bu, ⟨lu, ou, hu⟩, rfl, hua, rfl⟩
  have hus : bu = bs := by
    refine ext_bits (by omega) ou os fun k => ?_
    by_cases h : X ≤ k ∧ k < X + (1 + m0)
    · rw [(hu k).1 (by unfold inRun; omega)]
      have := hfree (k - X) (by omega)
      rw [show X + (k - X) = k by omega] at this; exact this.symm
    · rw [(hu k).2 (by unfold inRun; omega), ht, if_neg h]
  subst hus
  refine go ?_
  intro b11
  refine go ?_
  refine W.abs [(1, .int .i64 B), (2, .int .i64 (1 + m0)), (7, .pointer (some ⟨b7, 0, none⟩)), (8, .int .i64 X), (9, .pointer (some ⟨b9, 0, none⟩)), (11, .pointer (some ⟨b11, 0, none⟩))] ⟨rfl, rfl, rfl, rfl, rfl, rfl, trivial⟩ ?_
  intro bg3
  refine W.drawB #[0, 1, 0, 7, 0, 31, 63, 127, 255, 511, 1023, 255, 3071, 7167, 16383, 32767, 65535, 131071, 131071, 524287, 131071, 2097151, 4194303, 8388607, 16777215, 16777215, 67108863, 134217727, 268435455, 536870911, 536870911, 2147483647, 536870911, 8589934591, 17179869183, 34359738367, 68719476735, 137438953471, 137438953471, 549755813887, 137438953471, 2199023255551, 4398046511103, 8796093022207, 17592186044415, 35184372088831, 70368744177663]
    [pts b11 (.cells [Value.slice ua bu.length uc, .int .i64 B].toArray 24), pts b9 (.cells [Value.slice ta bt.length tc, .int .i64 B].toArray 24), pts b7 (.cells [Value.slice sa bu.length sc, .int .i64 B].toArray 24)]
    (OB ua uc bu :: OB ta tc bt :: OB sa sc bu :: L) rfl (by kernel_rfl) (by kernel_rfl) (by kernel_rfl) ent ?_
  refine go ?_
  have hused := back_used (bs := bu) (bt := bt) (n := B) (m := 1 + m0) (x := X) (by omega) (by omega) (by omega) (fun j hj => hfree j hj) ht
  have hle := sumPop_le bu
  have hle2 := sumPop_le bt
  refine DB.callE (vs := [BV ta tc bt B]) Try.func17 rfl rfl rfl rfl hl hl (bm_Used ta tc bt B _ (by omega) ot (OB.rd tk hta)) ?_
  rintro v M ⟨rfl, rfl⟩
  refine ⟨[], OB ua uc bu :: OB ta tc bt :: OB sa sc bu :: L, ent, ?_⟩
  refine go ?_
  refine DB.callE (vs := [BV sa sc bu B]) Try.func17 rfl rfl rfl rfl hl hl (bm_Used sa sc bu B _ (by omega) os (OB.rd tk hsa)) ?_
  rintro v M ⟨rfl, rfl⟩
  refine ⟨[], OB ua uc bu :: OB ta tc bt :: OB sa sc bu :: L, ent, ?_⟩
  refine go ?_
  refine DB.callE (vs := [BV ua uc bu B]) Try.func12 rfl rfl rfl rfl hl hl (bm_Bytes ua uc bu B _ (by omega) (OB.rd tk hua)) ?_
  rintro v M ⟨pa, pc, rfl, hpa, rfl⟩
  refine ⟨[OB pa pc bu], OB ua uc bu :: OB ta tc bt :: OB sa sc bu :: L, ent, ?_⟩
  refine DB.q (v := .string ⟨(strB bu).toArray⟩) rfl rfl hl ?_ ?_
  · refine SV.toStrB (a := pa) (c := pc) (bs := bu) rfl os tk ?_
    exact eqq
  refine go ?_
  refine DB.callE (vs := [BV sa sc bu B]) Try.func12 rfl rfl rfl rfl hl hl (bm_Bytes sa sc bu B _ (by omega) (OB.rd tk hsa)) ?_
  rintro v M ⟨qa, qc, rfl, hqa, rfl⟩
  refine ⟨[OB qa qc bu], OB ua uc bu :: OB ta tc bt :: OB sa sc bu :: L, ent, ?_⟩
  refine DB.q (v := .string ⟨(strB bu).toArray⟩) rfl rfl hl ?_ ?_
  · refine SV.toStrB (a := qa) (c := qc) (bs := bu) rfl os tk ?_
    exact eqq
  refine DB.q (v := .bool true) rfl rfl hl ?_ ?_
  · refine SV.eqlST rfl rfl rfl ?_
    exact eqq
  refine go ?_
  refine DB.callE (vs := [BV ta tc bt B, .int .i64 (1 + m0)]) Try.func11 rfl rfl rfl rfl hl hl (bm_Run ta tc bt B (1 + m0) _ (by omega) (by omega) ot (OB.rd tk hta) (by omega)) ?_
  rintro v M ⟨y, hy, rfl, rfl⟩
  refine ⟨[], OB ua uc bu :: OB ta tc bt :: OB sa sc bu :: L, ent, ?_⟩
  have hyx := back_run hx hpos hy (fun k hk => by rw [ht]; split <;> first | rfl | exact hk) (by rw [Int.toNat_natCast, ht, if_pos (by omega)])
  refine go ?_
  refine DB.callE (vs := [BV ta tc bt B, .int .i64 (1 + m0)]) Try.func11 rfl rfl rfl rfl hl hl (bm_Run ta tc bt B (1 + m0) _ (by omega) (by omega) ot (OB.rd tk hta) (by omega)) ?_
  rintro v M ⟨y2, hy2, rfl, rfl⟩
  refine ⟨[], OB ua uc bu :: OB ta tc bt :: OB sa sc bu :: L, ent, ?_⟩
  have hy3 := RunIs.uniq hy2 hy
  subst hy3
  rcases Int.lt_or_le y2 0 with hn | hn
  · refine go ?_
    refine DB.callE (vs := []) Try.func13 rfl rfl rfl rfl hl hl (bm_one _) ?_
    rintro v M ⟨rfl, rfl⟩
    refine ⟨[], OB ua uc bu :: OB ta tc bt :: OB sa sc bu :: L, ent, ?_⟩
    refine DB.q (v := .bool true) rfl rfl hl ?_ ?_
    · refine SV.pick rfl rfl ?_
      exact eqq
    refine DB.q (v := .bool true) rfl rfl hl ?_ ?_
    · refine SV.assign rfl ?_
      exact eqq
    refine DB.nil hl ?_
    refine ⟨L, (Ent.drop (Ent.drop (Ent.drop (Ent.drop (Ent.drop (Ent.drop (Ent.drop (Ent.drop (Ent.refl L))))))))), ?_⟩
    refine W.ret ?_
    exact ⟨rfl, [_], ⟨Res.tmp rfl, trivial⟩, L, Ent.refl L, rfl, rfl⟩
  · have hgt : (X : Int) < y2 := by omega
    refine go ?_
    refine DB.callE (vs := [BV ta tc bt B, .int .i64 (1 + m0)]) Try.func11 rfl rfl rfl rfl hl hl (bm_Run ta tc bt B (1 + m0) _ (by omega) (by omega) ot (OB.rd tk hta) (by omega)) ?_
    rintro v M ⟨y3, hy3, rfl, rfl⟩
    refine ⟨[], OB ua uc bu :: OB ta tc bt :: OB sa sc bu :: L, ent, ?_⟩
    have hy4 := RunIs.uniq hy3 hy
    subst hy4
    refine go ?_
    refine DB.callE (vs := []) Try.func13 rfl rfl rfl rfl hl hl (bm_one _) ?_
    rintro v M ⟨rfl, rfl⟩
    refine ⟨[], OB ua uc bu :: OB ta tc bt :: OB sa sc bu :: L, ent, ?_⟩
    refine DB.q (v := .bool true) rfl rfl hl ?_ ?_
    · refine SV.pick rfl rfl ?_
      exact eqq
    refine DB.q (v := .bool true) rfl rfl hl ?_ ?_
    · refine SV.assign rfl ?_
      exact eqq
    refine DB.nil hl ?_
    refine ⟨L, (Ent.drop (Ent.drop (Ent.drop (Ent.drop (Ent.drop (Ent.drop (Ent.drop (Ent.drop (Ent.refl L))))))))), ?_⟩
    refine W.ret ?_
    exact ⟨rfl, [_], ⟨Res.tmp rfl, trivial⟩, L, Ent.refl L, rfl, rfl⟩
end Go.SL
