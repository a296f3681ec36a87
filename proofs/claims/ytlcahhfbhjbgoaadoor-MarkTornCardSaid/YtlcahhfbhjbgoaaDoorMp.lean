/- Layer 8: marks: the document's answer to any bytes; covering and baring. -/
import Derived.Test.YtlcahhfbhjbgoaaDoorMi
import Derived.Test.YtlcahhfbhjbgoaaDoorMl
namespace Go.SL
open Go.Proofs
set_option linter.unusedVariables false
set_option maxRecDepth 10000
set_option maxHeartbeats 4000000
attribute [local irreducible] W WO SV OW SW Tri Ent Tk Has Src SrcK DA DB RdS Own

/-- What bytes are opened as: whether they are, the mark's parts, the bytes, what is answered. -/
def rOK (s : Byt) : Bool := decide (s.length = 256) && opOk s
def rK (s : Byt) : UInt8 := bif rOK s then s.getD 0 0 else 0
def rE (s : Byt) : Nat := bif rOK s then nbe s 1 8 else 0
def rQ (s : Byt) : Nat := bif rOK s then nbe s 9 8 else 0
def rB (s : Byt) : Byt := bif rOK s then opB s else []
def rZ (s : Byt) : Int := bif rOK s then 0 else if s.length = 256 then 11 else 2
theorem rOK_iff {s : Byt} : rOK s = true ↔ s.length = 256 ∧ opOk s = true := by unfold rOK; simp
theorem mk_OpenU (X : HP) (a : Option Addr) (c : Nat) (s : Byt) (R : List HP) (hb : s.length ≤ 9223372036854775807) (hcp : s.length ≤ c) (r : RdS 1 a s.length (s.map u8V) [X]) :
    TriE Tryd.prog 12 #[.slice a s.length c] (fun v M => ∃ a' c', v = .tuple #[.agg (mkL (rK s) (rE s) (rQ s)).toArray, .slice a' (rB s).length c', .int .i64 (rZ s)] ∧ SomeA a' (rB s).length ∧ Ent M (OS a' c' (rB s) :: X :: R)) (X :: R) := by
  refine (mk_Open X a c s R hb hcp r).mono ?_
  rintro v M (⟨h, rfl, rfl⟩ | ⟨h, ho, rfl, rfl⟩ | ⟨h, ho, a', c', rfl, ha, rfl⟩)
  · have e : rOK s = false := by unfold rOK; rw [decide_eq_false h, Bool.false_and]
    unfold rK rE rQ rB rZ
    rw [e, if_neg h]
    exact ⟨none, 0, rfl, fun h => absurd rfl h, Ent.ownNil (Ent.refl _)⟩
  · have e : rOK s = false := by unfold rOK; rw [ho, Bool.and_false]
    unfold rK rE rQ rB rZ
    rw [e, if_pos h]
    exact ⟨none, 0, rfl, fun h => absurd rfl h, Ent.ownNil (Ent.refl _)⟩
  · have e : rOK s = true := rOK_iff.2 ⟨h, ho⟩
    unfold rK rE rQ rB rZ
    rw [e]
    exact ⟨a', c', rfl, ha, Ent.refl _⟩

theorem opOk_opN {s : Byt} (ok : opOk s = true) : mkR (s.getD 0 0) = true ∧ opN s ≤ 220 := by
  unfold opOk at ok
  simp only [Bool.and_eq_true, decide_eq_true_eq] at ok
  exact ⟨ok.1.1.1, ok.1.2⟩
theorem rm_Open (s : Byt) (L : List HP) :
    TriE Tryd.prog 13 #[strV s] (fun v M => v = .tuple #[.agg (mkL (rK s) (rE s) (rQ s)).toArray, strV (rB s), .bool (rOK s)] ∧ M = L) L := by
  have no : rOK s = false → .tuple #[.agg (mkL 0 0 0).toArray, strV [], .bool false] = Value.tuple #[.agg (mkL (rK s) (rE s) (rQ s)).toArray, strV (rB s), .bool (rOK s)] := by
    intro e; unfold rK rE rQ rB; rw [e]; rfl
  refine Tri.of (N := 73) (args := [strV s]) Tryd.func13 rfl rfl rfl ?_
  refine go ?_
  intro b2
  by_cases h256 : s.length ≠ 256
  · refine go ?_
    exact ⟨rfl, [_, _, _], ⟨Res.cell rfl le0 nl, Res.tmp rfl, Res.tmp rfl, trivial⟩, L, ent, no (by unfold rOK; rw [decide_eq_false h256, Bool.false_and]), rfl⟩
  have h2 : s.length = 256 := Classical.not_not.1 h256
  clear h256
  have hget : ∀ i, i < 256 → s[i]? = some (s.getD i 0) := fun i hi => by simp [show i < s.length by omega]
  have no2 : opOk s = false → .tuple #[.agg (mkL 0 0 0).toArray, strV [], .bool false] = Value.tuple #[.agg (mkL (rK s) (rE s) (rQ s)).toArray, strV (rB s), .bool (rOK s)] := fun h => no (by unfold rOK; rw [h, Bool.and_false])
  have hoo : opOk s = true → (s.getD 0 0).toNat ≠ 0 ∧ (s.getD 0 0).toNat ≠ 3 ∧ (s.getD 17 0).toNat = 0 ∧ (s.getD 18 0).toNat ≤ 220 := by
    intro h
    obtain ⟨q1, q2⟩ := opOk_opN h
    unfold mkR at q1
    unfold opN at q2
    simp only [Bool.and_eq_true, Bool.not_eq_true', decide_eq_false_iff_not] at q1
    have := (s.getD 18 0).toNat_lt
    refine ⟨q1.1, q1.2, by omega, by omega⟩
  have g0 := hget 0 (by decide)
  have g17 := hget 17 (by decide)
  have g18 := hget 18 (by decide)
  have hB : (s.getD 17 0).toNat = 0 → (s.take (19 + (s.getD 18 0).toNat)).drop 19 = opB s := by
    intro h
    unfold opB opN
    rw [h, List.drop_take]
    congr 1
    omega
  have hBl : (s.getD 17 0).toNat = 0 → (s.getD 18 0).toNat ≤ 220 → (opB s).length ≤ 220 := by
    intro h h'
    unfold opB opN
    rw [h, List.length_take]
    omega
  have hmk : (s.getD 0 0).toNat ≠ 0 → (s.getD 0 0).toNat ≠ 3 → mkR (s.getD 0 0) = true := by
    intro h h'
    unfold mkR
    rw [decide_eq_false h, decide_eq_false h']
    rfl
  have n1 := nbe_64 s 1
  have n2 := nbe_64 s 9
  have hseal := fun L => rm_Seal (s.getD 0 0) (nbe s 1 8) (nbe s 9 8) (opB s) L
  have hfin : sealB (s.getD 0 0) (nbe s 1 8) (nbe s 9 8) (opB s) = s → (opB s).length ≤ 220 → mkR (s.getD 0 0) = true → opOk s = true := by
    intro h h1 h3
    have := sealB_ok (k := s.getD 0 0) (e := nbe s 1 8) (s := nbe s 9 8) (b := opB s) h1 n1 n2 h3
    rwa [h] at this
  have hopen := seal_open (s := s) h2
  have hyes : opOk s = true → .tuple #[.agg (mkL (s.getD 0 0) (nbe s 1 8) (nbe s 9 8)).toArray, strV (opB s), .bool true] = Value.tuple #[.agg (mkL (rK s) (rE s) (rQ s)).toArray, strV (rB s), .bool (rOK s)] := by
    intro h
    have e : rOK s = true := rOK_iff.2 ⟨h2, h⟩
    unfold rK rE rQ rB; rw [e]; rfl
  have hc0 := (s.getD 0 0).toNat_lt
  have hc17 := (s.getD 17 0).toNat_lt
  have hc18 := (s.getD 18 0).toNat_lt
  generalize s.getD 0 0 = y0 at *
  generalize s.getD 17 0 = y17 at *
  generalize s.getD 18 0 = y18 at *
  refine go ?_
  refine WO.sv rfl ?_
  refine SV.indexS rfl rfl (by decide) g0 ?_
  by_cases h0 : y0.toNat = 0
  · refine go ?_
    exact ⟨rfl, [_, _, _], ⟨Res.cell rfl le0 nl, Res.tmp rfl, Res.tmp rfl, trivial⟩, L, ent, no2 (Bool.eq_false_iff.2 fun h => (hoo h).1 h0), rfl⟩
  refine go ?_
  refine WO.sv rfl ?_
  refine SV.indexS rfl rfl (by decide) g0 ?_
  by_cases h3 : y0.toNat = 3
  · refine go ?_
    exact ⟨rfl, [_, _, _], ⟨Res.cell rfl le0 nl, Res.tmp rfl, Res.tmp rfl, trivial⟩, L, ent, no2 (Bool.eq_false_iff.2 fun h => (hoo h).2.1 h3), rfl⟩
  refine go ?_
  refine WO.sv rfl ?_
  refine SV.indexS rfl rfl (by decide) g17 ?_
  by_cases h17 : y17.toNat ≠ 0
  · refine go ?_
    exact ⟨rfl, [_, _, _], ⟨Res.cell rfl le0 nl, Res.tmp rfl, Res.tmp rfl, trivial⟩, L, ent, no2 (Bool.eq_false_iff.2 fun h => h17 (hoo h).2.2.1), rfl⟩
  have h17 : y17.toNat = 0 := Classical.not_not.1 h17
  refine go ?_
  refine WO.sv rfl ?_
  refine SV.indexS rfl rfl (by decide) g18 ?_
  by_cases h18 : 220 < y18.toNat
  · refine go ?_
    exact ⟨rfl, [_, _, _], ⟨Res.cell rfl le0 nl, Res.tmp rfl, Res.tmp rfl, trivial⟩, L, ent, no2 (Bool.eq_false_iff.2 fun h => by have := (hoo h).2.2.2; omega), rfl⟩
  refine go ?_
  refine WO.sv rfl ?_
  refine SV.indexS rfl rfl (by decide) g0 ?_
  refine go ?_
  intro b5
  refine go ?_
  refine W.loopS 576460717943685184 rfl (fun j : Nat => [(6, .int .i64 j)]) (fun j => pts b5 (.cells [u8V y0, .int .u64 (nbe s 1 j), .int .u64 (nbe s 9 j)].toArray 31) :: pts b2 (.cells [.int .u8 0, .int .u64 0, .int .u64 0].toArray 31) :: L)
    (fun j => j ≤ 8) (fun j => 8 - j) 0 ⟨rfl, trivial⟩ (Nat.zero_le _) (Ent.app ent) ?_
  intro j bg hj
  by_cases h8 : j < 8
  · have e1 := nbe_56 s 1 j (by omega)
    have e2 := nbe_56 s 9 j (by omega)
    have m1 : ((nbe s 1 (j + 1) : Nat) : Int) = 256 * (nbe s 1 j : Int) + ((s.getD (1 + j) 0).toNat : Int) := by
      have : nbe s 1 (j + 1) = nbe s 1 j * 256 + (s.getD (1 + j) 0).toNat := rfl
      omega
    have m2 : ((nbe s 9 (j + 1) : Nat) : Int) = 256 * (nbe s 9 j : Int) + ((s.getD (9 + j) 0).toNat : Int) := by
      have : nbe s 9 (j + 1) = nbe s 9 j * 256 + (s.getD (9 + j) 0).toNat := rfl
      omega
    have hc1 := (s.getD (1 + j) 0).toNat_lt
    have hc2 := (s.getD (9 + j) 0).toNat_lt
    have g1 : s[(1 + (j : Int)).toNat]? = some (s.getD (1 + j) 0) := by rw [show (1 + (j : Int)).toNat = 1 + j by omega]; exact hget (1 + j) (by omega)
    have g2 : s[(9 + (j : Int)).toNat]? = some (s.getD (9 + j) 0) := by rw [show (9 + (j : Int)).toNat = 9 + j by omega]; exact hget (9 + j) (by omega)
    generalize nbe s 1 j = x1 at *
    generalize nbe s 9 j = x2 at *
    generalize s.getD (1 + j) 0 = y1 at *
    generalize s.getD (9 + j) 0 = y2 at *
    refine go ?_
    refine W.drawA rfl (by kernel_rfl) (by kernel_rfl) ?_
    refine go ?_
    refine DA.q (v := u8V y1) rfl rfl (SV.indexS rfl rfl (by omega) g1 eqq) ?_
    refine go ?_
    refine DA.v rfl rfl rfl ?_
    refine SV.store rfl rfl cel rfl rfl rfl frz le0 nl ?_
    refine go ?_
    refine W.drawA rfl (by kernel_rfl) (by kernel_rfl) ?_
    refine go ?_
    refine DA.q (v := u8V y2) rfl rfl (SV.indexS rfl rfl (by omega) g2 eqq) ?_
    refine go ?_
    refine DA.v rfl rfl rfl ?_
    refine SV.store rfl rfl cel rfl rfl rfl frz le0 nl ?_
    refine go ?_
    refine ⟨j + 1, ⟨rfl, trivial⟩, rfl, by omega, by omega, Ent.app ?_⟩
    rw [m1, m2]
    exact ent
  · obtain rfl : j = 8 := by omega
    have hBe := hB h17
    have hBe2 := hBl h17 (by omega)
    generalize nbe s 1 8 = x1 at *
    generalize nbe s 9 8 = x2 at *
    refine go ?_
    refine WO.sv rfl ?_
    refine SV.indexS rfl rfl (by decide) g18 ?_
    refine go ?_
    refine WO.sv rfl ?_
    refine SV.cutStr (l := 19) (h := 19 + y18.toNat) rfl (cutAt.of rfl rfl) (cutAt.of rfl (by omega)) (by omega) (by omega) hBe ?_
    generalize opB s = bb at *
    refine go ?_
    refine WO.callE (vs := [.agg (mkL y0 x1 x2).toArray, strV bb]) Tryd.func10 rfl rfl rfl rfl (hseal _ hBe2) ?_
    rintro v M ⟨rfl, rfl⟩
    by_cases hq : sealB y0 x1 x2 bb = s
    · refine go ?_
      refine WO.sv rfl ?_
      refine SV.neqSF (a := sealB y0 x1 x2 bb) (b := s) rfl rfl hq ?_
      refine go ?_
      exact ⟨rfl, [_, _, _], ⟨Res.cell rfl le0 nl, Res.tmp rfl, Res.tmp rfl, trivial⟩, L, ent, hyes (hfin hq hBe2 (hmk h0 h3)), rfl⟩
    · refine go ?_
      refine WO.sv rfl ?_
      refine SV.neqST (a := sealB y0 x1 x2 bb) (b := s) rfl rfl hq ?_
      refine go ?_
      exact ⟨rfl, [_, _, _], ⟨Res.cell rfl le0 nl, Res.tmp rfl, Res.tmp rfl, trivial⟩, L, ent, no2 (Bool.eq_false_iff.2 fun h => hq (hopen h)), rfl⟩
end Go.SL
