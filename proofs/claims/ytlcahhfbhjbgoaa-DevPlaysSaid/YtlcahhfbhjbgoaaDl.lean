/- Layer 7: the law DevNobody, walked. -/
import Derived.Test.YtlcahhfbhjbgoaaDu
namespace Go.SL
open Go.Proofs
set_option linter.unusedVariables false
set_option maxRecDepth 10000
attribute [local irreducible] W WO SV OW SW Tri Ent Tk Has Src SrcK DA DB RdS Own

def rep (c : UInt8) : Byt := List.replicate 256 c
theorem rep_len (c : UInt8) : (rep c).length = 256 := List.length_replicate
theorem l7_BlockR (c : UInt8) (R : List HP) : TriE Try.prog 37 #[u8V c] (fun v M => ∃ a c', v = .slice a (rep c).length c' ∧ SomeA a (rep c).length ∧ M = OS a c' (rep c) :: R) R := by
  rw [rep_len]; exact l7_Block c R
def o1 : Dv := ((Dv.new 2).put 0 (rep 1)).1
def o2 : Dv := o1.flush.1
def o3 : Dv := (o2.put 0 (rep 2)).1
def o4 : Dv := (o3.put 1 (rep 3)).1
def o5 : Dv := o4.fall [1]
theorem o_ok : o1.Ok ∧ o2.Ok ∧ o3.Ok ∧ o4.Ok ∧ o5.Ok := by
  have h1 : o1.Ok := Dv.put_ok (Dv.new_ok (by decide)) _ _
  have h2 : o2.Ok := Dv.flush_ok h1
  have h3 : o3.Ok := Dv.put_ok h2 _ _
  have h4 : o4.Ok := Dv.put_ok h3 _ _
  exact ⟨h1, h2, h3, h4, Dv.fall_ok h4 _⟩
theorem o_w : (Dv.new 2).waits.length ≤ 1000000 ∧ o1.waits.length ≤ 1000000 ∧ o2.waits.length ≤ 1000000 ∧ o3.waits.length ≤ 1000000 ∧ o4.waits.length ≤ 1000000 := by
  refine ⟨?_, ?_, ?_, ?_, ?_⟩ <;> decide +kernel
theorem o_r0 : (o5.read 0).2 = 0 := by decide +kernel
theorem o_r1 : ((o5.read 0).1.read 1).2 = 0 := by decide +kernel
theorem o_s0 : ∃ t, o5.now.getD (0 : Int).toNat [] = 2 :: 1 :: t := ⟨List.replicate 254 1, by decide +kernel⟩
theorem o_s1 : ∃ t, (o5.read 0).1.now.getD (1 : Int).toNat [] = 0 :: t := ⟨List.replicate 255 0, by decide +kernel⟩
theorem o_5 : (o5.now.getD (0 : Int).toNat []).length = 256 ∧ ((o5.read 0).1.now.getD (1 : Int).toNat []).length = 256 := by constructor <;> decide +kernel

theorem l7_one (L : List HP) : TriE Try.prog 44 #[] (fun v M => v = .bool true ∧ M = L) L := by
  refine Tri.of (N := 75) (args := []) Try.func44 rfl rfl rfl ?_
  refine go ?_
  refine WO.callE (vs := [.int .i64 2]) Try.func35 rfl rfl rfl rfl (dv_New 2 _ (by decide) (by decide)) ?_
  rintro v M ⟨b, rfl, rfl⟩
  refine go ?_
  refine WO.callE (vs := [u8V 1]) Try.func37 rfl rfl rfl rfl (l7_BlockR 1 _) ?_
  rintro v M ⟨a1, c1, rfl, s1, rfl⟩
  refine go ?_
  refine WO.callE (vs := [.pointer (some ⟨b, 0, none⟩), .int .i64 0, .slice a1 (rep 1).length c1]) Try.func36 rfl rfl rfl rfl (TriE.ent (A := DevH b (Dv.new 2) :: OS a1 c1 (rep 1) :: L) ent (dv_Write b (Dv.new 2) 0 a1 c1 (rep 1) (OS a1 c1 (rep 1) :: L) (Dv.new_ok (by decide)) (by decide) o_w.1 (OS.rd tk s1))) ?_
  rintro v M ⟨rfl, rfl⟩
  refine go ?_
  refine WO.callE (vs := [.pointer (some ⟨b, 0, none⟩)]) Try.func38 rfl rfl rfl rfl (dv_Flush b o1 _ o_ok.1 (Nat.le_trans o_w.2.1 (by decide))) ?_
  rintro v M ⟨rfl, rfl⟩
  refine go ?_
  refine WO.callE (vs := [u8V 2]) Try.func37 rfl rfl rfl rfl (l7_BlockR 2 _) ?_
  rintro v M ⟨a2, c2, rfl, s2, rfl⟩
  refine go ?_
  refine WO.callE (vs := [.pointer (some ⟨b, 0, none⟩), .int .i64 0, .slice a2 (rep 2).length c2]) Try.func36 rfl rfl rfl rfl (TriE.ent (A := DevH b o2 :: OS a2 c2 (rep 2) :: L) ent (dv_Write b o2 0 a2 c2 (rep 2) (OS a2 c2 (rep 2) :: L) o_ok.2.1 (by decide) o_w.2.2.1 (OS.rd tk s2))) ?_
  rintro v M ⟨rfl, rfl⟩
  refine go ?_
  refine WO.callE (vs := [u8V 3]) Try.func37 rfl rfl rfl rfl (l7_BlockR 3 _) ?_
  rintro v M ⟨a3, c3, rfl, s3, rfl⟩
  refine go ?_
  refine WO.callE (vs := [.pointer (some ⟨b, 0, none⟩), .int .i64 1, .slice a3 (rep 3).length c3]) Try.func36 rfl rfl rfl rfl (TriE.ent (A := DevH b o3 :: OS a3 c3 (rep 3) :: L) ent (dv_Write b o3 1 a3 c3 (rep 3) (OS a3 c3 (rep 3) :: L) o_ok.2.2.1 (by decide) o_w.2.2.2.1 (OS.rd tk s3))) ?_
  rintro v M ⟨rfl, rfl⟩
  refine go ?_
  refine WO.sv rfl ?_
  refine SV.lit rfl rfl rfl parts rfl nl ?_
  intro b2
  refine WO.callE (vs := [.pointer (some ⟨b, 0, none⟩), .slice (some ⟨b2, 0, none⟩) 1 1]) Try.func41 rfl rfl rfl rfl (TriE.ent (A := DevH b o4 :: pts b2 (.cells [Value.int .i64 1].toArray 3) :: L) ent (dv_Fall b o4 _ 1 [1] _ o_ok.2.2.2.1 (Nat.le_trans o_w.2.2.2.2 (by decide)) (by decide) (RdS.all rfl))) ?_
  rintro v M rfl
  refine go ?_
  refine WO.callE (vs := [.pointer (some ⟨b, 0, none⟩), .int .i64 0]) Try.func40 rfl rfl rfl rfl (dv_Read b o5 0 _ o_ok.2.2.2.2) ?_
  rintro v M (⟨h, _⟩ | ⟨_, a5, c5, rfl, s5, rfl⟩)
  · exact absurd o_r0 h
  refine go ?_
  refine WO.callE (vs := [.pointer (some ⟨b, 0, none⟩), .int .i64 1]) Try.func40 rfl rfl rfl rfl (TriE.ent (A := DevH b (o5.read 0).1 :: OS a5 c5 (o5.now.getD (0 : Int).toNat []) :: L) ent (dv_Read b (o5.read 0).1 1 _ (Dv.call_ok o_ok.2.2.2.2 _))) ?_
  rintro v M (⟨h, _⟩ | ⟨_, a6, c6, rfl, s6, rfl⟩)
  · exact absurd o_r1 h
  have hs0 := o_s0
  have hs1 := o_s1
  have h5 := o_5
  generalize o5.now.getD (0 : Int).toNat [] = x0 at hs0 h5 ⊢
  generalize (o5.read 0).1.now.getD (1 : Int).toNat [] = x1 at hs1 h5 ⊢
  obtain ⟨t0, rfl⟩ := hs0
  obtain ⟨t1, rfl⟩ := hs1
  obtain ⟨b5, rfl⟩ := s5 (by decide)
  obtain ⟨b6, rfl⟩ := s6 (by decide)
  have r5 := fun L R (k : Tk L (OS (some ⟨b5, 0, none⟩) c5 (2 :: 1 :: t0)) R) => OS.rd k (fun _ => ⟨b5, rfl⟩)
  have r6 := fun L R (k : Tk L (OS (some ⟨b6, 0, none⟩) c6 (0 :: t1)) R) => OS.rd k (fun _ => ⟨b6, rfl⟩)
  refine go ?_
  refine WO.sv rfl ?_
  refine SV.loadR 0 (v := .int .u8 2) rfl (r5 _ _ tk) rfl rfl ?_
  refine go ?_
  refine WO.sv rfl ?_
  refine SV.loadR 1 (v := .int .u8 1) rfl (r5 _ _ tk) rfl rfl ?_
  refine go ?_
  refine WO.sv rfl ?_
  refine SV.loadR 0 (v := .int .u8 0) rfl (r6 _ _ tk) rfl rfl ?_
  refine go ?_
  exact ⟨rfl, [_], ⟨Res.tmp rfl, trivial⟩, L, ent, rfl, rfl⟩

def Dv.zero : Dv := ⟨[], [], [], 0, false, 0⟩
theorem Dv.zero_ok : Dv.zero.Ok := ⟨rfl, by decide, fun s h => (by cases h), fun s h => (by cases h), fun w h => (by cases h), by decide, rfl⟩
theorem DevH.zero (b : Nat) (L : List HP) : Ent (pts b (.cells [Value.slice none 0 0, Value.slice none 0 0, Value.slice none 0 0, Value.int .i64 0, Value.bool false, Value.int .i64 0].toArray 98) :: L) (DevH b Dv.zero :: L) :=
  DevH.close (none, 0, none, 0, none, 0) (fun h => absurd rfl h) (fun h => absurd rfl h) (fun h => absurd rfl h) (Ent.take tk (Ent.ownNil (Ent.ownNil (Ent.ownNil (Ent.refl _)))))
end Go.SL
