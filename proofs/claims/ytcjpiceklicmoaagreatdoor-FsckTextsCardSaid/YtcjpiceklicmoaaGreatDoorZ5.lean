/- Layer 36 (space): sums and multiples; the document's numbers; walked. -/
import Derived.Test.YtcjpiceklicmoaaGreatDoorSlF
import Derived.Test.YtcjpiceklicmoaaGreatDoorSlH
import Derived.Test.YtcjpiceklicmoaaGreatDoorZ1
import Derived.Test.YtcjpiceklicmoaaGreatDoorZ3
import Derived.Test.YtcjpiceklicmoaaGreatDoorZ4
namespace Go.SL
open Go.Proofs
set_option linter.unusedVariables false
set_option linter.unusedSimpArgs false
set_option linter.unusedSectionVars false
set_option maxRecDepth 10000
set_option maxHeartbeats 4000000
def sumI (a b : Int) : Int := if 0 < a ∧ 9223372036854775807 - a < b then 9223372036854775807 else a + b
def timesI (a m : Int) : Int := if m < 1 ∨ a = 0 then 0 else if 9223372036854775807 / m < a then 9223372036854775807 else a * m
theorem timesI_mul {a m : Int} (h0 : 0 ≤ a) (h1 : a ≤ 9223372036854775807) (hm : 1 ≤ m) (h : ¬ (9223372036854775807 : Int) / m < a) : 0 ≤ a * m ∧ a * m ≤ 9223372036854775807 := by
  have h2 : a ≤ (9223372036854775807 : Int) / m := by omega
  have h3 : a * m ≤ (9223372036854775807 : Int) / m * m := Int.mul_le_mul_of_nonneg_right h2 (by omega)
  have h4 : (9223372036854775807 : Int) / m * m ≤ 9223372036854775807 := Int.ediv_mul_le _ (by omega)
  exact ⟨Int.mul_nonneg h0 (by omega), by omega⟩
def spD : List KOp → Nat
  | [] => 0
  | o :: l => (if o.del then 1 else 0) + spD l
theorem spPD : ∀ l, spP l + spD l = l.length
  | [] => rfl
  | o :: l => by
    have := spPD l
    unfold spP spD
    rw [List.length_cons]
    split <;> omega
/-- The document's operations: how long their values are, and whether they go. -/
def rfL (o : KOp) : List Value := [.int .i64 o.val.length, .bool o.del]
def rfR (l : List KOp) : List Value := l.flatMap rfL
theorem rfR_len (l : List KOp) : (rfR l).length = l.length * 2 := flat_len (g := rfL) (n := 2) (fun _ => rfl) l
theorem rfR_at (l : List KOp) {i j : Nat} (h : i < l.length) (hj : j < 2) : (rfR l)[i * 2 + j]? = (rfL l[i])[j]? := flat_get (g := rfL) (n := 2) (fun _ => rfl) l i j h hj
theorem needV_eq {a b c a' b' c' : Int} (h1 : a = a') (h2 : b = b') (h3 : c = c') : needV a b c = needV a' b' c' := by rw [h1, h2, h3]
attribute [local irreducible] W WO SV OW SW Tri Ent Tk Has Src SrcK DA DB DP RdS Own OwnT MapH WetH RngH
theorem sp_sum (a b : Int) (L : List HP) (ha : 0 ≤ a ∧ a ≤ 9223372036854775807) (hb : 0 ≤ b ∧ b ≤ 9223372036854775807) : TriE Tryz.prog 37 #[.int .i64 a, .int .i64 b] (fun w M => w = .int .i64 (sumI a b) ∧ M = L) L := by
  refine Tri.of (N := 16) (args := [.int .i64 a, .int .i64 b]) Tryz.func37 rfl rfl rfl ?_
  refine go ?_
  by_cases h1 : 0 < a
  rotate_left
  · have e : sumI a b = a + b := if_neg (fun h => h1 h.1)
    rw [e]
    refine go ?_
    exact ⟨rfl, [_], ⟨Res.tmp rfl, trivial⟩, _, ent, rfl, rfl⟩
  by_cases h2 : 9223372036854775807 - a < b
  · have e : sumI a b = 9223372036854775807 := if_pos ⟨h1, h2⟩
    rw [e]
    refine go ?_
    exact ⟨rfl, [_], ⟨Res.tmp rfl, trivial⟩, _, ent, rfl, rfl⟩
  · have e : sumI a b = a + b := if_neg (fun h => h2 h.2)
    rw [e]
    refine go ?_
    exact ⟨rfl, [_], ⟨Res.tmp rfl, trivial⟩, _, ent, rfl, rfl⟩
theorem sp_And (a b c x y z : Int) (L : List HP) (ha : 0 ≤ a ∧ a ≤ 9223372036854775807) (hb : 0 ≤ b ∧ b ≤ 9223372036854775807) (hc : 0 ≤ c ∧ c ≤ 9223372036854775807) (hx : 0 ≤ x ∧ x ≤ 9223372036854775807) (hy : 0 ≤ y ∧ y ≤ 9223372036854775807) (hz : 0 ≤ z ∧ z ≤ 9223372036854775807) :
    TriE Tryz.prog 13 #[needV a b c, needV x y z] (fun w M => w = needV (sumI a x) (sumI b y) (sumI c z) ∧ M = L) L := by
  refine Tri.of (N := 21) (args := [needV a b c, needV x y z]) Tryz.func13 rfl rfl rfl ?_
  refine go ?_
  intro b2
  refine go ?_
  intro b3
  refine go ?_
  intro b4
  refine go ?_
  refine W.drawB #[0, 1, 0, 4, 15, 0, 32, 0, 128, 511, 0, 1024, 0, 4096, 16383, 32767, 65535] [pts b2 (.cells [.int .i64 a, .int .i64 b, .int .i64 c].toArray 23), pts b3 (.cells [.int .i64 x, .int .i64 y, .int .i64 z].toArray 23)] (pts b4 (.cells [.int .i64 0, .int .i64 0, .int .i64 0].toArray 23) :: L) rfl (by kernel_rfl) (by kernel_rfl) (by kernel_rfl) ent ?_
  refine go ?_
  refine DB.cal hl hl (sp_sum a x _ ha hx) ?_
  rintro v M ⟨rfl, rfl⟩
  refine ⟨[], pts b4 (.cells [.int .i64 0, .int .i64 0, .int .i64 0].toArray 23) :: L, ent, ?_⟩
  refine go ?_
  refine DB.cal hl hl (sp_sum b y _ hb hy) ?_
  rintro v M ⟨rfl, rfl⟩
  refine ⟨[], pts b4 (.cells [.int .i64 0, .int .i64 0, .int .i64 0].toArray 23) :: L, ent, ?_⟩
  refine go ?_
  refine DB.cal hl hl (sp_sum c z _ hc hz) ?_
  rintro v M ⟨rfl, rfl⟩
  refine ⟨[], pts b4 (.cells [.int .i64 0, .int .i64 0, .int .i64 0].toArray 23) :: L, ent, ?_⟩
  refine go ?_
  refine DB.v rfl rfl rfl hl hl ?_
  refine SV.store rfl rfl cel rfl rfl rfl frz le0 nl ?_
  refine ⟨[], pts b4 (.cells [.int .i64 (sumI a x), .int .i64 (sumI b y), .int .i64 (sumI c z)].toArray 23) :: L, ent, ?_⟩
  refine go ?_
  refine ⟨pts b4 (.cells [.int .i64 (sumI a x), .int .i64 (sumI b y), .int .i64 (sumI c z)].toArray 23) :: L, ent, ?_⟩
  refine go ?_
  exact ⟨rfl, [_], ⟨Res.cell rfl le0 nl, trivial⟩, L, ent, rfl, rfl⟩
theorem sp_times (a m : Int) (L : List HP) (ha : 0 ≤ a ∧ a ≤ 9223372036854775807) (hm : -9223372036854775808 ≤ m ∧ m ≤ 9223372036854775807) : TriE Tryz.prog 36 #[.int .i64 a, .int .i64 m] (fun w M => w = .int .i64 (timesI a m) ∧ M = L) L := by
  refine Tri.of (N := 20) (args := [.int .i64 a, .int .i64 m]) Tryz.func36 rfl rfl rfl ?_
  refine go ?_
  by_cases h1 : m < 1
  · have e : timesI a m = 0 := if_pos (.inl h1)
    rw [e]
    refine go ?_
    exact ⟨rfl, [_], ⟨Res.tmp rfl, trivial⟩, _, ent, rfl, rfl⟩
  by_cases h2 : a = 0
  · have e : timesI a m = 0 := if_pos (.inr h2)
    rw [e]
    refine go ?_
    exact ⟨rfl, [_], ⟨Res.tmp rfl, trivial⟩, _, ent, rfl, rfl⟩
  have e : timesI a m = if 9223372036854775807 / m < a then 9223372036854775807 else a * m := if_neg (fun h => h.elim h1 h2)
  rw [e]
  by_cases h3 : 9223372036854775807 / m < a
  · rw [if_pos h3]
    refine go ?_
    exact ⟨rfl, [_], ⟨Res.tmp rfl, trivial⟩, _, ent, rfl, rfl⟩
  · rw [if_neg h3]
    have hmm := timesI_mul ha.1 ha.2 (by omega) h3
    refine go ?_
    exact ⟨rfl, [_], ⟨Res.tmp rfl, trivial⟩, _, ent, rfl, rfl⟩
theorem sp_Times (a b c m : Int) (L : List HP) (ha : 0 ≤ a ∧ a ≤ 9223372036854775807) (hb : 0 ≤ b ∧ b ≤ 9223372036854775807) (hc : 0 ≤ c ∧ c ≤ 9223372036854775807) (hm : -9223372036854775808 ≤ m ∧ m ≤ 9223372036854775807) :
    TriE Tryz.prog 12 #[needV a b c, .int .i64 m] (fun w M => w = needV (timesI a m) (timesI b m) (timesI c m) ∧ M = L) L := by
  refine Tri.of (N := 18) (args := [needV a b c, .int .i64 m]) Tryz.func12 rfl rfl rfl ?_
  refine go ?_
  intro b2
  refine go ?_
  intro b4
  refine go ?_
  refine W.drawB #[0, 1, 0, 7, 0, 16, 0, 127, 0, 256, 0, 2047, 4095, 8191] [pts b2 (.cells [.int .i64 a, .int .i64 b, .int .i64 c].toArray 23)] (pts b4 (.cells [.int .i64 0, .int .i64 0, .int .i64 0].toArray 23) :: L) rfl (by kernel_rfl) (by kernel_rfl) (by kernel_rfl) ent ?_
  refine go ?_
  refine DB.cal hl hl (sp_times a m _ ha hm) ?_
  rintro v M ⟨rfl, rfl⟩
  refine ⟨[], pts b4 (.cells [.int .i64 0, .int .i64 0, .int .i64 0].toArray 23) :: L, ent, ?_⟩
  refine go ?_
  refine DB.cal hl hl (sp_times b m _ hb hm) ?_
  rintro v M ⟨rfl, rfl⟩
  refine ⟨[], pts b4 (.cells [.int .i64 0, .int .i64 0, .int .i64 0].toArray 23) :: L, ent, ?_⟩
  refine go ?_
  refine DB.cal hl hl (sp_times c m _ hc hm) ?_
  rintro v M ⟨rfl, rfl⟩
  refine ⟨[], pts b4 (.cells [.int .i64 0, .int .i64 0, .int .i64 0].toArray 23) :: L, ent, ?_⟩
  refine go ?_
  refine DB.v rfl rfl rfl hl hl ?_
  refine SV.store rfl rfl cel rfl rfl rfl frz le0 nl ?_
  refine ⟨[], pts b4 (.cells [.int .i64 (timesI a m), .int .i64 (timesI b m), .int .i64 (timesI c m)].toArray 23) :: L, ent, ?_⟩
  refine go ?_
  refine ⟨pts b4 (.cells [.int .i64 (timesI a m), .int .i64 (timesI b m), .int .i64 (timesI c m)].toArray 23) :: L, ent, ?_⟩
  refine go ?_
  exact ⟨rfl, [_], ⟨Res.cell rfl le0 nl, trivial⟩, L, ent, rfl, rfl⟩
theorem r36_Of (home : Nat) (a : Option Addr) (c : Nat) (l : List KOp) (L : List HP) (hh : home ≤ 1000000) (hcn : l.length ≤ 100000) (hv : ∀ o ∈ l, o.val.length ≤ 1000000) (r : RdS 2 a l.length (rfR l) L) :
    TriE Tryz.prog 11 #[.int .i64 home, .slice a l.length c] (fun v M => v = needV ((spV l + spP l + 1 : Nat) : Int) ((1 + (home + 2047) / 2048 + spV l + spP l + 2 * l.length : Nat) : Int) ((spP l + 1 : Nat) : Int) ∧ M = L) L := by
  have hrl := rfR_len l
  have hpl := spP_le l
  have hvl := spV_le l hv
  have hpd := spPD l
  generalize hPP : spP l = PP at *
  generalize hVV : spV l = VV at *
  generalize hDD : spD l = DD at *
  refine Tri.of (N := 59) (args := [.int .i64 home, .slice a l.length c]) Tryz.func11 rfl rfl rfl ?_
  refine go ?_
  intro b4
  refine go ?_
  refine W.loopS 17179868640 rfl (fun q : Nat × Nat × Nat × Nat => [(5, .int .i64 (q.2.1 : Int)), (6, .int .i64 (q.2.2.1 : Int)), (7, .int .i64 (q.2.2.2 : Int)), (8, .int .i64 (q.1 : Int))]) (fun q => pts b4 (.cells [.int .i64 0, .int .i64 0, .int .i64 0].toArray 45) :: L)
    (fun q => q.1 ≤ l.length ∧ q.2.1 + spP (l.drop q.1) = PP ∧ q.2.2.1 + spD (l.drop q.1) = DD ∧ q.2.2.2 + spV (l.drop q.1) = VV) (fun q => l.length - q.1) (0, 0, 0, 0) ⟨rfl, rfl, rfl, rfl, trivial⟩ ⟨Nat.zero_le _, by dsimp only; rw [List.drop_zero, Nat.zero_add]; exact hPP, by dsimp only; rw [List.drop_zero, Nat.zero_add]; exact hDD, by dsimp only; rw [List.drop_zero, Nat.zero_add]; exact hVV⟩ (Ent.app ent) ?_
  rintro ⟨i, p, d, v⟩ bg ⟨hi, he1, he3, he2⟩
  dsimp only at hi he1 he2 he3 ⊢
  by_cases h9 : i < l.length
  · have hdc : l.drop i = l[i] :: l.drop (i + 1) := (List.getElem_cons_drop h9).symm
    have hvv := hv _ (List.getElem_mem h9)
    rw [hdc] at he1 he2 he3
    have g0' := rfR_at l h9 (j := 0) (by decide)
    have g1' := rfR_at l h9 (j := 1) (by decide)
    obtain ⟨b9, o9, rfl⟩ := r.at (by omega)
    generalize l[i] = o at *
    obtain ⟨ok, ov, od⟩ := o
    dsimp only at hvv
    have hs1 : spP (⟨ok, ov, od⟩ :: l.drop (i + 1)) = (if od then 0 else 1) + spP (l.drop (i + 1)) := rfl
    have hs2 : spV (⟨ok, ov, od⟩ :: l.drop (i + 1)) = (if od then 0 else (ov.length + 255) / 256) + spV (l.drop (i + 1)) := rfl
    have hs3 : spD (⟨ok, ov, od⟩ :: l.drop (i + 1)) = (if od then 1 else 0) + spD (l.drop (i + 1)) := rfl
    rw [hs1] at he1
    rw [hs2] at he2
    rw [hs3] at he3
    clear hs1 hs2 hs3 hdc
    obtain ⟨vl, hvl2⟩ : ∃ vl : Nat, ov.length = vl := ⟨_, rfl⟩
    have g0 : (rfR l)[i * 2 + 0]? = some (.int .i64 (vl : Nat)) := by rw [← hvl2]; exact g0'
    have g1 : (rfR l)[i * 2 + 1]? = some (.bool od) := g1'
    rw [hvl2] at hvv he2
    clear g0' g1'
    refine go ?_
    refine WO.sv rfl ?_
    refine SV.loadR (i * 2 + 1) rfl r.cons (by omega) g1 ?_
    cases od with
    | true =>
      rw [if_pos rfl] at he1 he2 he3
      refine go ?_
      refine ⟨(i + 1, p, d + 1, v), ⟨rfl, rfl, rfl, rfl, trivial⟩, rfl, ⟨h9, by dsimp only; omega, by dsimp only; omega, by dsimp only; omega⟩, by dsimp only; omega, Ent.app ent⟩
    | false =>
      rw [if_neg (by decide)] at he1 he2 he3
      refine go ?_
      refine WO.sv rfl ?_
      refine SV.loadR (i * 2 + 0) rfl r.cons (by omega) g0 ?_
      refine go ?_
      refine ⟨(i + 1, p + 1, d, v + (vl + 255) / 256), ⟨rfl, rfl, ?_, rfl, trivial⟩, rfl, ⟨h9, by dsimp only; omega, by dsimp only; omega, by dsimp only; omega⟩, by dsimp only; omega, Ent.app ent⟩
      show Value.int _ _ = Value.int _ _
      congr 1
  obtain rfl : i = l.length := by omega
  rw [List.drop_length] at he1 he2 he3
  rw [show spP [] = 0 from rfl, Nat.add_zero] at he1
  rw [show spV [] = 0 from rfl, Nat.add_zero] at he2
  rw [show spD [] = 0 from rfl, Nat.add_zero] at he3
  subst he1
  subst he2
  subst he3
  by_cases hm : home % 2048 = 0
  · refine go ?_
    refine WO.sv rfl ?_
    refine SV.buildArr parts rfl nl ?_
    refine go ?_
    refine ⟨rfl, [_], ⟨Res.cell rfl le0 nl, trivial⟩, L, ent, ?_, rfl⟩
    refine needV_eq ?_ ?_ ?_ <;> omega
  · refine go ?_
    refine WO.sv rfl ?_
    refine SV.buildArr parts rfl nl ?_
    refine go ?_
    refine ⟨rfl, [_], ⟨Res.cell rfl le0 nl, trivial⟩, L, ent, ?_, rfl⟩
    refine needV_eq ?_ ?_ ?_ <;> omega
end Go.SL

/- Layer 36 (space): the document's needs are the needs; walked. -/
namespace Go.SL
open Go.Proofs
set_option linter.unusedVariables false
set_option linter.unusedSimpArgs false
set_option linter.unusedSectionVars false
set_option maxRecDepth 10000
set_option maxHeartbeats 4000000
/-- What is needed, of small numbers. -/
theorem sumI_small {a b : Nat} (ha : a ≤ 100000000) (hb : b ≤ 100000000) : sumI a b = ((a + b : Nat) : Int) := by
  unfold sumI
  rw [if_neg (by intro h; have := h.2; omega)]
  omega
theorem timesI_small {a m : Nat} (ha : a ≤ 400000) (hm : m ≤ 255) : timesI a m = ((m * a : Nat) : Int) := by
  unfold timesI
  by_cases h : (m : Int) < 1 ∨ (a : Int) = 0
  · rw [if_pos h]
    rcases h with h | h
    · obtain rfl : m = 0 := by omega
      rw [Nat.zero_mul]; rfl
    · obtain rfl : a = 0 := by omega
      rw [Nat.mul_zero]; rfl
  · rw [if_neg h]
    have hm1 : 1 ≤ m := by omega
    have : ¬ ((9223372036854775807 : Int) / (m : Int) < (a : Int)) := by
      have h1 : (a : Int) ≤ (9223372036854775807 : Int) / (m : Int) := by
        apply (Int.le_ediv_iff_mul_le (by omega)).2
        have : a * m ≤ 400000 * 255 := Nat.mul_le_mul ha hm
        have h2 : (a : Int) * (m : Int) = ((a * m : Nat) : Int) := by push_cast; rfl
        rw [h2]
        omega
      omega
    rw [if_neg this, Nat.mul_comm]
    push_cast
    rfl
theorem any_take_succ {l : List KOp} {i : Nat} (h : i < l.length) : (l.take (i + 1)).any smB = ((l.take i).any smB || smB l[i]) := by
  rw [List.take_succ_eq_append_getElem h, List.any_append]
  simp
theorem rfR_take_succ {l : List KOp} {i : Nat} (h : i < l.length) : rfR (l.take (i + 1)) = rfR (l.take i) ++ rfL l[i] := by
  unfold rfR
  rw [List.take_succ_eq_append_getElem h, List.flatMap_append]
  simp
attribute [local irreducible] W WO SV OW SW Tri Ent Tk Has Src SrcK DA DB DP RdS Own OwnT MapH WetH RngH
theorem l36_needs (home many : Int) (a : Option Addr) (c : Nat) (l : List KOp) (L : List HP) (hh : -9223372036854775808 ≤ home ∧ home ≤ 9223372036854775807) (hm : -9223372036854775808 ≤ many ∧ many ≤ 9223372036854775807) (hcn : l.length ≤ 9223372036854775807) (r0 : RdS 3 a l.length (opR l) L) :
    TriE Tryz.prog 4 #[.int .i64 home, .slice a l.length c, .int .i64 many] (fun w M => w = .bool true ∧ M = L) L := by
  obtain ⟨x, hx, ex⟩ := i64_mask home 65535 (by decide)
  obtain ⟨k, hk, ek⟩ := i64_mask many 255 (by decide)
  have hrl := opR_len l
  refine Tri.ent toCj ?_
  have r : RdS 3 a l.length (opR l) [SL.conj L] := r0.ent ofCj
  have hfin : Ent [SL.conj L] L := ofCj
  generalize SL.conj L = C at *
  refine Tri.of (N := 154) (args := [.int .i64 home, .slice a l.length c, .int .i64 many]) Tryz.func4 rfl rfl rfl ?_
  refine go ?_
  refine WO.sv rfl ?_
  refine SV.band rfl rfl ex ?_
  by_cases h60 : 60 < l.length
  · refine go ?_
    exact ⟨rfl, [_], ⟨Res.tmp rfl, trivial⟩, _, hfin, rfl, rfl⟩
  refine go ?_
  refine W.loopS 147573952589672219584 rfl (fun q : Nat × Option Addr × Nat => [(7, .slice q.2.1 q.1 q.2.2), (8, .bool (!(l.take q.1).any smB)), (9, .int .i64 (q.1 : Int))]) (fun q => [Own 44 2 (.slice q.2.1 q.1 q.2.2) q.1 (rfR (l.take q.1)), C])
    (fun q => q.1 ≤ l.length ∧ (q.1 ≠ 0 → ∃ b, q.2.1 = some ⟨b, 0, none⟩) ∧ ∀ o ∈ l.take q.1, o.val.length ≤ 9000) (fun q => l.length - q.1) (0, none, 0) ⟨rfl, rfl, rfl, trivial⟩ ⟨Nat.zero_le _, fun z => absurd rfl z, fun o ho => by cases ho⟩ (Ent.app (by dsimp only; exact Ent.ownNil ent)) ?_
  rintro ⟨i, ao, co⟩ bg ⟨hi, hao, hall⟩
  dsimp only at hi hao hall ⊢
  by_cases h9 : i < l.length
  · have hat := opR_at l h9
    have ga' := flat_get (g := KOp.L) (n := 3) (fun _ => rfl) l i 1 h9 (by decide)
    have gb' := flat_get (g := KOp.L) (n := 3) (fun _ => rfl) l i 2 h9 (by decide)
    have hts := any_take_succ h9
    have hrt := rfR_take_succ h9
    have htk : l.take (i + 1) = l.take i ++ [l[i]] := List.take_succ_eq_append_getElem h9
    obtain ⟨b9, o9, rfl⟩ := r.at (by omega)
    generalize l[i] = o at *
    obtain ⟨ok, ov, od⟩ := o
    have ga : (opR l)[i * 3 + 1]? = some (strV ov) := ga'
    have gb : (opR l)[i * 3 + 2]? = some (.bool od) := gb'
    clear ga' gb'
    by_cases h9k : 9000 < ov.length
    · refine go ?_
      refine WO.sv rfl ?_
      refine SV.loadR (i * 3 + 1) rfl r.cons (by omega) ga ?_
      refine go ?_
      exact ⟨rfl, [_], ⟨Res.tmp rfl, trivial⟩, _, Ent.trans ent hfin, rfl, rfl⟩
    refine go ?_
    refine WO.sv rfl ?_
    refine SV.loadR (i * 3 + 1) rfl r.cons (by omega) ga ?_
    refine go ?_
    refine W.drawB #[0, 0, 0, 6, 14, 30, 62, 0, 0, 384, 896, 1920, 4094, 8190, 16383, 32767] [C] [Own 44 2 (.slice ao i co) i (rfR (l.take i))] rfl (by kernel_rfl) (by kernel_rfl) (by kernel_rfl) ent ?_
    refine go ?_
    refine DB.q (v := strV ov) rfl rfl hl (SV.loadR (i * 3 + 1) rfl r (by omega) ga eqq) ?_
    refine go ?_
    refine DB.q (v := .bool od) rfl rfl hl (SV.loadR (i * 3 + 2) rfl r (by omega) gb eqq) ?_
    refine go ?_
    refine DB.lit rfl rfl rfl parts rfl nl rfl rfl ?_
    intro rb
    refine go ?_
    refine DB.v rfl rfl rfl hl hl ?_
    refine SV.append (n := i) (m := 1) rfl rfl rfl tk (RdS.src (RdS.all (sz := 2) (n := 1) rfl).cons) rfl rfl (by omega) rfl ?_
    intro a' c' ha'
    refine ⟨[], [Own 44 2 (.slice a' (i + 1) c') (i + 1) (rfR (l.take i) ++ [.int .i64 ov.length, .bool od])], ent, ?_⟩
    refine go ?_
    refine ⟨[Own 44 2 (.slice a' (i + 1) c') (i + 1) (rfR (l.take (i + 1))), C], by rw [hrt]; exact ent, ?_⟩
    have hall2 : ∀ o ∈ l.take (i + 1), o.val.length ≤ 9000 := by
      intro o ho
      rw [htk] at ho
      rcases List.mem_append.1 ho with h | h
      · exact hall o h
      · rw [List.mem_singleton.1 h]; dsimp only; omega
    generalize (l.take i).any smB = sm at *
    cases sm with
    | true =>
      rw [Bool.true_or] at hts
      refine go ?_
      refine ⟨(i + 1, a', c'), ⟨rfl, ?_, rfl, trivial⟩, rfl, ⟨h9, fun _ => ha' (by omega), hall2⟩, by dsimp only; omega, Ent.app ent⟩
      dsimp only
      rw [hts]
      rfl
    | false =>
      rw [Bool.false_or] at hts
      cases od with
      | true =>
        have e : smB ⟨ok, ov, true⟩ = false := rfl
        rw [e] at hts
        refine go ?_
        refine WO.sv rfl ?_
        refine SV.loadR (i * 3 + 2) rfl r.cons (by omega) gb ?_
        refine go ?_
        refine ⟨(i + 1, a', c'), ⟨rfl, ?_, rfl, trivial⟩, rfl, ⟨h9, fun _ => ha' (by omega), hall2⟩, by dsimp only; omega, Ent.app ent⟩
        dsimp only
        rw [hts]
        rfl
      | false =>
        have e : smB ⟨ok, ov, false⟩ = decide (256 < ov.length) := rfl
        rw [e] at hts
        by_cases h256 : 256 < ov.length
        · rw [decide_eq_true h256] at hts
          refine go ?_
          refine WO.sv rfl ?_
          refine SV.loadR (i * 3 + 2) rfl r.cons (by omega) gb ?_
          refine go ?_
          refine WO.sv rfl ?_
          refine SV.loadR (i * 3 + 1) rfl r.cons (by omega) ga ?_
          refine go ?_
          refine ⟨(i + 1, a', c'), ⟨rfl, ?_, rfl, trivial⟩, rfl, ⟨h9, fun _ => ha' (by omega), hall2⟩, by dsimp only; omega, Ent.app ent⟩
          dsimp only
          rw [hts]
          rfl
        · rw [decide_eq_false h256] at hts
          refine go ?_
          refine WO.sv rfl ?_
          refine SV.loadR (i * 3 + 2) rfl r.cons (by omega) gb ?_
          refine go ?_
          refine WO.sv rfl ?_
          refine SV.loadR (i * 3 + 1) rfl r.cons (by omega) ga ?_
          refine go ?_
          refine ⟨(i + 1, a', c'), ⟨rfl, ?_, rfl, trivial⟩, rfl, ⟨h9, fun _ => ha' (by omega), hall2⟩, by dsimp only; omega, Ent.app ent⟩
          dsimp only
          rw [hts]
          rfl
  obtain rfl : i = l.length := by omega
  rw [List.take_length] at hall ⊢
  have hv6 : ∀ o ∈ l, o.val.length ≤ 1000000 := fun o ho => Nat.le_trans (hall o ho) (by decide)
  have hrr := rfR_len l
  have hor : ∀ M, RdS 2 ao l.length (rfR l) (Own 44 2 (.slice ao l.length co) l.length (rfR l) :: M) := fun M => RdS.own Tk.here hao hrr
  have hpl := spP_le l
  have hvl : spV l ≤ l.length * 4000 := spV_le l hv6
  have hOf := fun M rr => r36_Of x ao co l M (by omega) (by omega) hv6 rr
  have hSp := fun M rr => sp_Of x a c l M (by omega) (by omega) hv6 rr
  have hSm := fun M rr => sp_Small a c l M (by omega) hv6 rr
  generalize hA : spV l + spP l + 1 = A at *
  generalize hB : 1 + (x + 2047) / 2048 + spV l + spP l + 2 * l.length = B at *
  generalize hCc : spP l + 1 = Cc at *
  have hA1 : 1 ≤ A := by omega
  have hA2 : A ≤ 100000 + 240000 := by omega
  have hB2 : B ≤ 100000 + 240000 := by omega
  have hC2 : Cc ≤ 100000 := by omega
  generalize l.any smB = sm at *
  generalize hX : [Own 44 2 (.slice ao l.length co) l.length (rfR l), C] = X
  have hXC : Ent X L := by rw [← hX]; exact Ent.trans ent hfin
  have hrX : RdS 3 a l.length (opR l) X := by rw [← hX]; exact r.cons
  have hoX : RdS 2 ao l.length (rfR l) X := by rw [← hX]; exact hor _
  refine go ?_
  refine WO.ent (M := X) (by rw [← hX]; exact ent) ?_
  refine WO.cal (hOf _ hoX) ?_
  rintro v M ⟨rfl, rfl⟩
  refine go ?_
  intro b10
  refine go ?_
  refine WO.cal (hSp _ hrX.cons) ?_
  rintro v M ⟨rfl, rfl⟩
  refine go ?_
  intro b11
  refine go ?_
  refine WO.sv rfl ?_
  refine SV.band rfl rfl ek ?_
  refine go ?_
  refine WO.cal (sp_Times A B Cc k _ (by omega) (by omega) (by omega) (by omega)) ?_
  rintro v M ⟨rfl, rfl⟩
  rw [timesI_small (by omega) (by omega), timesI_small (by omega) (by omega), timesI_small (by omega) (by omega)]
  refine go ?_
  intro b12
  refine go ?_
  intro b13
  refine go ?_
  refine W.loopS 154138042000865219775053824 rfl (fun i : Nat => [(14, .int .i64 (i : Int))]) (fun i => pts b13 (.cells [.int .i64 ((i * A : Nat) : Int), .int .i64 ((i * B : Nat) : Int), .int .i64 ((i * Cc : Nat) : Int)].toArray 23) :: pts b12 (.cells [.int .i64 ((k * A : Nat) : Int), .int .i64 ((k * B : Nat) : Int), .int .i64 ((k * Cc : Nat) : Int)].toArray 23) :: pts b11 (.cells [.int .i64 A, .int .i64 B, .int .i64 Cc].toArray 23) :: pts b10 (.cells [.int .i64 A, .int .i64 B, .int .i64 Cc].toArray 45) :: M)
    (fun i => i ≤ k) (fun i => k - i) 0 ⟨rfl, trivial⟩ (Nat.zero_le _) (Ent.app (by rw [Nat.zero_mul, Nat.zero_mul, Nat.zero_mul]; exact ent)) ?_
  intro i bg2 hik
  have m1 : i * A ≤ 255 * 340000 := Nat.mul_le_mul (by omega) (by omega)
  have m2 : i * B ≤ 255 * 340000 := Nat.mul_le_mul (by omega) (by omega)
  have m3 : i * Cc ≤ 255 * 340000 := Nat.mul_le_mul (by omega) (by omega)
  by_cases h9 : i < k
  · refine go ?_
    refine WO.cal (sp_And (i * A : Nat) (i * B : Nat) (i * Cc : Nat) A B Cc _ (by omega) (by omega) (by omega) (by omega) (by omega) (by omega)) ?_
    rintro v M ⟨rfl, rfl⟩
    rw [sumI_small (by omega) (by omega), sumI_small (by omega) (by omega), sumI_small (by omega) (by omega), ← Nat.succ_mul, ← Nat.succ_mul, ← Nat.succ_mul]
    refine go ?_
    exact ⟨i + 1, ⟨rfl, trivial⟩, rfl, h9, by omega, Ent.app ent⟩
  obtain rfl : i = k := by omega
  refine go ?_
  refine WO.sv rfl ?_
  refine SV.neqSt (xs := [.int .i64 A, .int .i64 B, .int .i64 Cc]) (ys := [.int .i64 A, .int .i64 B, .int .i64 Cc]) (b := true) rfl rfl rfl rfl rfl (sEq_self _) ?_
  refine go ?_
  refine WO.cal (hSm _ hrX.cons.cons.cons.cons) ?_
  rintro v M ⟨rfl, rfl⟩
  refine go ?_
  rw [show (!((!sm) == (!sm))) = false from by cases sm <;> rfl]
  refine go ?_
  refine WO.sv rfl ?_
  refine SV.neqSt (xs := [.int .i64 ((i * A : Nat) : Int), .int .i64 ((i * B : Nat) : Int), .int .i64 ((i * Cc : Nat) : Int)]) (ys := [.int .i64 ((i * A : Nat) : Int), .int .i64 ((i * B : Nat) : Int), .int .i64 ((i * Cc : Nat) : Int)]) (b := true) rfl rfl rfl rfl rfl (sEq_self _) ?_
  refine go ?_
  refine WO.cal (sp_Times A B Cc (-1) _ (by omega) (by omega) (by omega) (by decide)) ?_
  rintro v M ⟨rfl, rfl⟩
  rw [show timesI A (-1) = 0 from if_pos (.inl (by decide)), show timesI B (-1) = 0 from if_pos (.inl (by decide)), show timesI Cc (-1) = 0 from if_pos (.inl (by decide))]
  refine go ?_
  refine WO.sv rfl ?_
  refine SV.neqSt (xs := [.int .i64 0, .int .i64 0, .int .i64 0]) (ys := [.int .i64 0, .int .i64 0, .int .i64 0]) (b := true) rfl rfl rfl rfl rfl (sEq_self _) ?_
  refine go ?_
  intro b16
  have s1 : sumI 9223372036854775807 A = 9223372036854775807 := if_pos ⟨by decide, by omega⟩
  have s2 : sumI 9223372036854775807 B = 9223372036854775807 := if_pos ⟨by decide, by omega⟩
  have s3 : sumI 1 Cc = ((1 + Cc : Nat) : Int) := sumI_small (a := 1) (by decide) (by omega)
  have f1 : decide ((A : Int) ≤ A ∧ (B : Int) ≤ B ∧ (Cc : Int) ≤ Cc) = true := decide_eq_true ⟨Int.le_refl _, Int.le_refl _, Int.le_refl _⟩
  have f2 : decide ((A : Int) ≤ 9223372036854775807 ∧ (B : Int) ≤ 9223372036854775807 ∧ (Cc : Int) ≤ ((1 + Cc : Nat) : Int)) = true := decide_eq_true ⟨by omega, by omega, by omega⟩
  have f3 : 2 ≤ i → decide (((i * A : Nat) : Int) ≤ A ∧ ((i * B : Nat) : Int) ≤ B ∧ ((i * Cc : Nat) : Int) ≤ Cc) = false := fun h2 => decide_eq_false fun h => by
    have : 2 * A ≤ i * A := Nat.mul_le_mul_right _ h2
    have := h.1
    omega
  refine go ?_
  refine W.drawB #[0, 0, 3, 7, 0, 31, 63, 127, 255, 511, 127, 2047, 4095, 8191, 16383, 16383, 65535, 131071, 262143, 524287, 1048575, 2097151, 4194303, 4194303, 16777215, 33554431, 67108863, 134217727, 268435455, 536870911, 536870911, 536870911, 3758096383, 8589934591, 17179869183, 34359738367, 68719476735, 137438953471, 274877906943] [pts b11 (.cells [.int .i64 A, .int .i64 B, .int .i64 Cc].toArray 23), pts b12 (.cells [.int .i64 ((i * A : Nat) : Int), .int .i64 ((i * B : Nat) : Int), .int .i64 ((i * Cc : Nat) : Int)].toArray 23), pts b16 (.cells [.int .i64 9223372036854775807, .int .i64 9223372036854775807, .int .i64 1].toArray 23)] (pts b13 (.cells [.int .i64 ((i * A : Nat) : Int), .int .i64 ((i * B : Nat) : Int), .int .i64 ((i * Cc : Nat) : Int)].toArray 23) :: pts b10 (.cells [.int .i64 A, .int .i64 B, .int .i64 Cc].toArray 45) :: M) rfl (by kernel_rfl) (by kernel_rfl) (by kernel_rfl) ent ?_
  refine go ?_
  refine DB.cal hl hl (sp_And 9223372036854775807 9223372036854775807 1 A B Cc _ (by decide) (by decide) (by decide) (by omega) (by omega) (by omega)) ?_
  rintro v M ⟨rfl, rfl⟩
  rw [s1, s2, s3]
  refine ⟨[], (pts b13 (.cells [.int .i64 ((i * A : Nat) : Int), .int .i64 ((i * B : Nat) : Int), .int .i64 ((i * Cc : Nat) : Int)].toArray 23) :: pts b10 (.cells [.int .i64 A, .int .i64 B, .int .i64 Cc].toArray 45) :: M), ent, ?_⟩
  refine go ?_
  refine DB.cal hl hl (sp_Times 9223372036854775807 9223372036854775807 1 3 _ (by decide) (by decide) (by decide) (by decide)) ?_
  rintro v M ⟨rfl, rfl⟩
  rw [show timesI 9223372036854775807 3 = 9223372036854775807 from by decide, show timesI 1 3 = 3 from by decide]
  refine ⟨[], (pts b13 (.cells [.int .i64 ((i * A : Nat) : Int), .int .i64 ((i * B : Nat) : Int), .int .i64 ((i * Cc : Nat) : Int)].toArray 23) :: pts b10 (.cells [.int .i64 A, .int .i64 B, .int .i64 Cc].toArray 45) :: M), ent, ?_⟩
  refine go ?_
  refine DB.cal hl hl (sp_Fits A B Cc A B Cc _) ?_
  rintro v M ⟨rfl, rfl⟩
  rw [f1]
  refine ⟨[], (pts b13 (.cells [.int .i64 ((i * A : Nat) : Int), .int .i64 ((i * B : Nat) : Int), .int .i64 ((i * Cc : Nat) : Int)].toArray 23) :: pts b10 (.cells [.int .i64 A, .int .i64 B, .int .i64 Cc].toArray 45) :: M), ent, ?_⟩
  by_cases h2 : 2 ≤ i
  · refine go ?_
    refine DB.cal hl hl (sp_Fits (i * A : Nat) (i * B : Nat) (i * Cc : Nat) A B Cc _) ?_
    rintro v M ⟨rfl, rfl⟩
    rw [f3 h2]
    refine ⟨[], (pts b13 (.cells [.int .i64 ((i * A : Nat) : Int), .int .i64 ((i * B : Nat) : Int), .int .i64 ((i * Cc : Nat) : Int)].toArray 23) :: pts b10 (.cells [.int .i64 A, .int .i64 B, .int .i64 Cc].toArray 45) :: M), ent, ?_⟩
    refine go ?_
    refine DB.cal hl hl (sp_And 9223372036854775807 9223372036854775807 1 A B Cc _ (by decide) (by decide) (by decide) (by omega) (by omega) (by omega)) ?_
    rintro v M ⟨rfl, rfl⟩
    rw [s1, s2, s3]
    refine ⟨[], (pts b13 (.cells [.int .i64 ((i * A : Nat) : Int), .int .i64 ((i * B : Nat) : Int), .int .i64 ((i * Cc : Nat) : Int)].toArray 23) :: pts b10 (.cells [.int .i64 A, .int .i64 B, .int .i64 Cc].toArray 45) :: M), ent, ?_⟩
    refine go ?_
    refine DB.cal hl hl (sp_Fits A B Cc 9223372036854775807 9223372036854775807 (1 + Cc : Nat) _) ?_
    rintro v M ⟨rfl, rfl⟩
    rw [f2]
    refine ⟨[], (pts b13 (.cells [.int .i64 ((i * A : Nat) : Int), .int .i64 ((i * B : Nat) : Int), .int .i64 ((i * Cc : Nat) : Int)].toArray 23) :: pts b10 (.cells [.int .i64 A, .int .i64 B, .int .i64 Cc].toArray 45) :: M), ent, ?_⟩
    refine go ?_
    refine DB.cal hl hl (l36_one _) ?_
    rintro v M ⟨rfl, rfl⟩
    refine ⟨[], (pts b13 (.cells [.int .i64 ((i * A : Nat) : Int), .int .i64 ((i * B : Nat) : Int), .int .i64 ((i * Cc : Nat) : Int)].toArray 23) :: pts b10 (.cells [.int .i64 A, .int .i64 B, .int .i64 Cc].toArray 45) :: M), ent, ?_⟩
    refine go ?_
    refine ⟨M, ent, ?_⟩
    refine go ?_
    exact ⟨rfl, [_], ⟨Res.tmp rfl, trivial⟩, _, hXC, rfl, rfl⟩
  · refine go ?_
    refine DB.cal hl hl (sp_And 9223372036854775807 9223372036854775807 1 A B Cc _ (by decide) (by decide) (by decide) (by omega) (by omega) (by omega)) ?_
    rintro v M ⟨rfl, rfl⟩
    rw [s1, s2, s3]
    refine ⟨[], (pts b13 (.cells [.int .i64 ((i * A : Nat) : Int), .int .i64 ((i * B : Nat) : Int), .int .i64 ((i * Cc : Nat) : Int)].toArray 23) :: pts b10 (.cells [.int .i64 A, .int .i64 B, .int .i64 Cc].toArray 45) :: M), ent, ?_⟩
    refine go ?_
    refine DB.cal hl hl (sp_Fits A B Cc 9223372036854775807 9223372036854775807 (1 + Cc : Nat) _) ?_
    rintro v M ⟨rfl, rfl⟩
    rw [f2]
    refine ⟨[], (pts b13 (.cells [.int .i64 ((i * A : Nat) : Int), .int .i64 ((i * B : Nat) : Int), .int .i64 ((i * Cc : Nat) : Int)].toArray 23) :: pts b10 (.cells [.int .i64 A, .int .i64 B, .int .i64 Cc].toArray 45) :: M), ent, ?_⟩
    refine go ?_
    refine DB.cal hl hl (l36_one _) ?_
    rintro v M ⟨rfl, rfl⟩
    refine ⟨[], (pts b13 (.cells [.int .i64 ((i * A : Nat) : Int), .int .i64 ((i * B : Nat) : Int), .int .i64 ((i * Cc : Nat) : Int)].toArray 23) :: pts b10 (.cells [.int .i64 A, .int .i64 B, .int .i64 Cc].toArray 45) :: M), ent, ?_⟩
    refine go ?_
    refine ⟨M, ent, ?_⟩
    refine go ?_
    exact ⟨rfl, [_], ⟨Res.tmp rfl, trivial⟩, _, hXC, rfl, rfl⟩
end Go.SL

/- Layer 37 (fsck): a report's line, and the document's; walked. -/
namespace Go.SL
open Go.Proofs
set_option linter.unusedVariables false
set_option linter.unusedSimpArgs false
set_option linter.unusedSectionVars false
set_option maxRecDepth 10000
set_option maxHeartbeats 4000000
theorem dg_len64 {n : Nat} (h : n < 18446744073709551616) : (dg n).length ≤ 20 := dg_lenP 20 n (by omega) (by decide)
/-- The names of a report's numbers. -/
def nm3 : List BL := [[103, 101, 110], [101, 112, 111, 99, 104], [115, 101, 113]]
def nm7 : List BL := [[108, 111, 103], [104, 111, 109, 101], [117, 115, 101, 100], [107, 101, 121, 115], [108, 101, 97, 118, 101, 115], [118, 97, 108, 117, 101, 115], [98, 121, 116, 101, 115]]
def nm10 : List BL := nm3 ++ nm7
/-- The first k words of a line: names and numbers. -/
def tw (ns : List Nat) : Nat → List BL
  | 0 => []
  | k + 1 => tw ns k ++ [nm10.getD k [], dg (ns.getD k 0)]
theorem tw_len (ns : List Nat) : ∀ k, (tw ns k).length = 2 * k
  | 0 => rfl
  | k + 1 => by unfold tw; rw [List.length_append, tw_len ns k]; rfl
theorem tw_small {ns : List Nat} (h : ∀ i, ns.getD i 0 < 18446744073709551616) : ∀ k, k ≤ 10 → ∀ w ∈ tw ns k, w.length ≤ 20
  | 0, _, w, hw => by cases hw
  | k + 1, hk, w, hw => by
    unfold tw at hw
    rcases List.mem_append.1 hw with q | q
    · exact tw_small h k (by omega) w q
    · rcases List.mem_cons.1 q with rfl | q
      · have : ∀ k : Fin 10, (nm10.getD k.val []).length ≤ 20 := by decide
        exact this ⟨k, by omega⟩
      · rw [List.mem_singleton.1 q]; exact dg_len64 (h k)
theorem jn_small : ∀ (l : List BL), (∀ w ∈ l, w.length ≤ 20) → (jn l).length ≤ 21 * l.length
  | [], _ => Nat.le_refl _
  | [w], h => by have := h w (by simp); simp [jn]; omega
  | w :: v :: r, h => by
    have h1 := h w (by simp)
    have h2 := jn_small (v :: r) (fun x hx => h x (by simp at hx ⊢; exact .inr hx))
    show (w ++ 32 :: jn (v :: r)).length ≤ _
    rw [List.length_append, List.length_cons]
    simp only [List.length_cons] at h2 ⊢
    omega
def tdecL : BL := [48, 49, 50, 51, 52, 53, 54, 55, 56, 57]
theorem tdecL_cut : ∀ k : Fin 10, (tdecL.take (k.val + 1)).drop k.val = [dgt k.val] := by decide
theorem u8V_dgt' (n : Nat) (h : n < 10) : Value.int .u8 (48 + (n : Int)) = u8V (dgt n) := by
  rw [u8V, dgt_nat h]; congr 1
attribute [local irreducible] W WO SV OW SW Tri Ent Tk Has Src SrcK DA DB DP RdS Own OwnT MapH WetH RngH
theorem fs_digits : ∀ (n : Nat) (L : List HP), n < 18446744073709551616 → TriE Tryz.prog 39 #[.int .u64 n] (fun v M => v = strV (dg n) ∧ M = L) L := by
  intro n
  induction n using Nat.strongRecOn with
  | ind n ih =>
    intro L hn
    refine Tri.of (N := 17) (args := [.int .u64 n]) Tryz.func39 rfl rfl rfl ?_
    by_cases h : n < 10
    · refine go ?_
      refine WO.sv rfl ?_
      refine SV.lit rfl rfl rfl parts rfl nl ?_
      intro b2
      rw [u8V_dgt' n h]
      refine go ?_
      refine WO.sv rfl ?_
      refine SV.toStrR rfl (bs := [dgt n]) (RdS.all (sz := 1) (n := 1) rfl) ?_
      refine go ?_
      exact ⟨rfl, [_], ⟨Res.tmp rfl, trivial⟩, L, ent, by rw [dg_lt h]; rfl, rfl⟩
    · refine go ?_
      refine WO.callE (vs := [.int .u64 ((n / 10 : Nat) : Int)]) Tryz.func39 rfl rfl rfl rfl (ih (n / 10) (by omega) L (by omega)) ?_
      rintro v M ⟨rfl, rfl⟩
      refine go ?_
      refine WO.callE (vs := [.int .u64 ((n % 10 : Nat) : Int)]) Tryz.func39 rfl rfl rfl rfl (ih (n % 10) (by omega) _ (by omega)) ?_
      rintro v M ⟨rfl, rfl⟩
      have h1 : (dg (n / 10)).length ≤ 20 := dg_len64 (by omega)
      have h2 : (dg (n % 10)).length ≤ 20 := dg_len64 (by omega)
      refine go ?_
      refine WO.sv rfl ?_
      refine SV.concat rfl rfl (by omega) ?_
      refine go ?_
      refine ⟨rfl, [_], ⟨Res.tmp rfl, trivial⟩, _, ent, ?_, rfl⟩
      rw [dg_ge h, dg_lt (show n % 10 < 10 by omega)]; rfl
theorem r37_digits : ∀ (n : Nat) (L : List HP), n < 18446744073709551616 → TriE Tryz.prog 41 #[.int .u64 n] (fun v M => v = strV (dg n) ∧ M = L) L := by
  intro n
  induction n using Nat.strongRecOn with
  | ind n ih =>
    intro L hn
    have hd10 : tdecL.length = 10 := rfl
    refine Tri.of (N := 18) (args := [.int .u64 n]) Tryz.func41 rfl rfl rfl ?_
    refine go ?_
    refine WO.sv rfl ?_
    refine SV.cutStr (s := tdecL) (l := n % 10) (h := n % 10 + 1) (s' := [dgt (n % 10)]) rfl (cutAt.of rfl (by omega)) (cutAt.of rfl (by omega)) (by omega) (by omega) (tdecL_cut ⟨n % 10, by omega⟩) ?_
    by_cases h : n < 10
    · refine go ?_
      exact ⟨rfl, [_], ⟨Res.tmp rfl, trivial⟩, L, ent, by rw [dg_lt h, show n % 10 = n by omega]; rfl, rfl⟩
    · refine go ?_
      refine WO.callE (vs := [.int .u64 ((n / 10 : Nat) : Int)]) Tryz.func41 rfl rfl rfl rfl (ih (n / 10) (by omega) L (by omega)) ?_
      rintro v M ⟨rfl, rfl⟩
      have h1 : (dg (n / 10)).length ≤ 20 := dg_len64 (by omega)
      refine go ?_
      refine WO.sv rfl ?_
      refine SV.concat rfl rfl (by simp; omega) ?_
      refine go ?_
      exact ⟨rfl, [_], ⟨Res.tmp rfl, trivial⟩, _, ent, by rw [dg_ge h]; rfl, rfl⟩
theorem fs_say (b c n : Nat) (a : Option Addr) (l : List BL) (w : BL) (u : Nat) (R : List HP) (hn : n = l.length) (hcn : l.length ≤ 1000) (hu : u < 18446744073709551616) :
    TriE Tryz.prog 38 #[strV w, .int .u64 u, .pointer (some ⟨b, 0, none⟩)] (fun v M => ∃ a' c', v = .tuple #[] ∧ SomeA a' (n + 2) ∧ M = pts b (.cells [.slice a' (n + 2) c'].toArray 64) :: OZ a' c' (l ++ [w, dg u]) :: R) (pts b (.cells [.slice a n c].toArray 64) :: OZ a c l :: R) := by
  subst hn
  refine Tri.of (N := 11) (args := [strV w, .int .u64 u, .pointer (some ⟨b, 0, none⟩)]) Tryz.func38 rfl rfl rfl ?_
  refine go ?_
  refine W.drawC 6 #[0, 0, 0, 4, 14, 31, 63] [pts b (.cells [.slice a l.length c].toArray 64)] (OZ a c l :: R) rfl (by kernel_rfl) (by kernel_rfl) (by kernel_rfl) (by kernel_rfl) rfl rfl rfl ent ?_
  refine go ?_
  refine DB.cal hl hl (fs_digits u _ hu) ?_
  rintro v M ⟨rfl, rfl⟩
  refine ⟨[], OZ a c l :: R, ent, ?_⟩
  refine go ?_
  refine DB.lit rfl rfl rfl (Parts.cons (v := .string _) rfl cel (Parts.cons (v := .string _) rfl cel Parts.nil)) rfl nl rfl rfl ?_
  intro rb
  refine go ?_
  refine DB.v rfl rfl rfl hl hl ?_
  refine SV.append (n := l.length) (m := 2) (xs := l.map strV) rfl rfl rfl (show Tk _ (OZ a c l) _ from tk) (RdS.src (RdS.all (sz := 1) (n := 2) (l := [strV w, strV (dg u)]) rfl).cons) rfl rfl (by omega) rfl ?_
  intro a' c' ha'
  refine ⟨[], OZ a' c' (l ++ [w, dg u]) :: R, ?_, ?_⟩
  · have e : OZ a' c' (l ++ [w, dg u]) = Own 9 1 (.slice a' (l.length + 2) c') (l.length + 2) (l.map strV ++ [strV w, strV (dg u)]) := by
      unfold OZ; rw [List.length_append, List.map_append]; rfl
    rw [e]
    exact ent
  refine go ?_
  refine ⟨_, ent, ?_⟩
  refine OW.sv ?_
  refine SV.store (v := .slice a' (l.length + 2) c') rfl rfl cel rfl rfl rfl frz le0 nl ?_
  refine ⟨_, Ent.refl _, ?_⟩
  refine go ?_
  exact ⟨rfl, [], trivial, _, ent, a', c', rfl, fun z => ha' (by omega), rfl⟩
end Go.SL

/- Layer 37 (fsck): a report's line is the document's; whether it goes together; walked. -/
namespace Go.SL
open Go.Proofs
set_option linter.unusedVariables false
set_option linter.unusedSimpArgs false
set_option linter.unusedSectionVars false
set_option maxRecDepth 10000
set_option maxHeartbeats 4000000
theorem nm7_at {i : Nat} (h : i < 7) : nm7.getD i [] = nm10.getD (3 + i) [] := by
  have : ∀ i : Fin 7, nm7.getD i.val [] = nm10.getD (3 + i.val) [] := by decide
  exact this ⟨i, h⟩
theorem OZ.rd {a : Option Addr} {c : Nat} {l : List BL} {L R : List HP} (t : Tk L (OZ a c l) R) (ha : SomeA a l.length) : RdS 1 a l.length (l.map strV) L := RdS.own t ha (by simp)
/-- A report's numbers that count something. -/
def rpV (g e q : Nat) (l : List Int) : List Value := [.int .u64 g, .int .u64 e, .int .u64 q] ++ l.map (Value.int .i64)
def rpN (g e q : Nat) (l : List Int) : List Nat := [g, e, q] ++ l.map fun x => (max x 0).toNat
theorem rpN_at (g e q : Nat) {l : List Int} {i : Nat} (h : i < l.length) : (rpN g e q l).getD (3 + i) 0 = (max l[i] 0).toNat := by
  unfold rpN
  rw [List.getD_eq_getElem?_getD, List.getElem?_append_right (by simp)]
  simp [h]
theorem rpN_lt (g e q : Nat) (l : List Int) (hg : g < 18446744073709551616) (he : e < 18446744073709551616) (hq : q < 18446744073709551616) (h : ∀ x ∈ l, x ≤ 9223372036854775807) (i : Nat) : (rpN g e q l).getD i 0 < 18446744073709551616 := by
  rw [List.getD_eq_getElem?_getD]
  cases hx : (rpN g e q l)[i]? with
  | none => decide
  | some y =>
    have hm : y ∈ rpN g e q l := List.mem_of_getElem? hx
    unfold rpN at hm
    rcases List.mem_append.1 hm with z | z
    · simp at z
      rcases z with rfl | rfl | rfl <;> simpa
    · obtain ⟨x, hx1, rfl⟩ := List.mem_map.1 z
      have := h x hx1
      show (max x 0).toNat < _
      omega
attribute [local irreducible] W WO SV OW SW Tri Ent Tk Has Src SrcK DA DB DP RdS Own OwnT MapH WetH RngH
theorem fs_Text (g e q : Nat) (a1 a2 a3 a4 a5 a6 a7 : Int) (L : List HP) (hg : g < 18446744073709551616) (he : e < 18446744073709551616) (hq : q < 18446744073709551616) (hx : ∀ x ∈ [a1, a2, a3, a4, a5, a6, a7], x ≤ 9223372036854775807) :
    TriE Tryz.prog 15 #[.agg #[.int .u64 g, .int .u64 e, .int .u64 q, .int .i64 a1, .int .i64 a2, .int .i64 a3, .int .i64 a4, .int .i64 a5, .int .i64 a6, .int .i64 a7]] (fun v M => v = strV (jn (tw (rpN g e q [a1, a2, a3, a4, a5, a6, a7]) 10)) ∧ M = L) L := by
  have hsm := tw_small (rpN_lt g e q [a1, a2, a3, a4, a5, a6, a7] hg he hq hx)
  have hat := fun i (h : i < [a1, a2, a3, a4, a5, a6, a7].length) => rpN_at g e q (l := [a1, a2, a3, a4, a5, a6, a7]) h
  have h0 : (rpN g e q [a1, a2, a3, a4, a5, a6, a7]).getD 0 0 = g := rfl
  have h1 : (rpN g e q [a1, a2, a3, a4, a5, a6, a7]).getD 1 0 = e := rfl
  have h2 : (rpN g e q [a1, a2, a3, a4, a5, a6, a7]).getD 2 0 = q := rfl
  generalize hns : rpN g e q [a1, a2, a3, a4, a5, a6, a7] = ns at *
  refine Tri.of (N := 53) (args := [.agg #[.int .u64 g, .int .u64 e, .int .u64 q, .int .i64 a1, .int .i64 a2, .int .i64 a3, .int .i64 a4, .int .i64 a5, .int .i64 a6, .int .i64 a7]]) Tryz.func15 rfl rfl rfl ?_
  refine go ?_
  intro b1
  refine go ?_
  intro b3
  refine go ?_
  refine WO.sv rfl ?_
  refine SV.makeFunc rfl ?_
  refine go ?_
  refine WO.ent (M := pts b3 (.cells [.slice none 0 0].toArray 64) :: OZ none 0 [] :: pts b1 (.cells [.int .u64 g, .int .u64 e, .int .u64 q, .int .i64 a1, .int .i64 a2, .int .i64 a3, .int .i64 a4, .int .i64 a5, .int .i64 a6, .int .i64 a7].toArray 53) :: L) (Ent.under (by unfold OZ; exact Ent.ownNil (Ent.refl _))) ?_
  refine WO.callW (vs := [strV [103, 101, 110], .int .u64 g]) (cs := [.pointer (some ⟨b3, 0, none⟩)]) rfl Tryz.func38 rfl rfl rfl rfl (fs_say b3 0 0 none [] [103, 101, 110] g _ rfl (by decide) hg) ?_
  rintro v M ⟨x1, c1, rfl, hx1, rfl⟩
  refine go ?_
  refine WO.callW (vs := [strV [101, 112, 111, 99, 104], .int .u64 e]) (cs := [.pointer (some ⟨b3, 0, none⟩)]) rfl Tryz.func38 rfl rfl rfl rfl (fs_say b3 c1 2 x1 _ [101, 112, 111, 99, 104] e _ rfl (by simp) he) ?_
  rintro v M ⟨x2, c2, rfl, hx2, rfl⟩
  refine go ?_
  refine WO.callW (vs := [strV [115, 101, 113], .int .u64 q]) (cs := [.pointer (some ⟨b3, 0, none⟩)]) rfl Tryz.func38 rfl rfl rfl rfl (fs_say b3 c2 4 x2 _ [115, 101, 113] q _ rfl (by simp) hq) ?_
  rintro v M ⟨x3, c3, rfl, hx3, rfl⟩
  have e3 : (([] ++ [[103, 101, 110], dg g]) ++ [[101, 112, 111, 99, 104], dg e]) ++ [[115, 101, 113], dg q] = tw ns 3 := by
    show _ = ((([] ++ [nm10.getD 0 [], dg (ns.getD 0 0)]) ++ [nm10.getD 1 [], dg (ns.getD 1 0)]) ++ [nm10.getD 2 [], dg (ns.getD 2 0)])
    rw [h0, h1, h2]
    rfl
  rw [e3]
  refine go ?_
  refine WO.sv rfl ?_
  refine SV.lit rfl rfl rfl parts rfl nl ?_
  intro rb
  refine go ?_
  generalize hlist : [a1, a2, a3, a4, a5, a6, a7] = li at *
  have hli : li.length = 7 := by rw [← hlist]; rfl
  have hlv : [Value.int .i64 a1, .int .i64 a2, .int .i64 a3, .int .i64 a4, .int .i64 a5, .int .i64 a6, .int .i64 a7] = li.map (Value.int .i64) := by rw [← hlist]; rfl
  rw [hlv]
  have rI : ∀ M, RdS 1 (some ⟨rb, 0, none⟩) 7 (li.map (Value.int .i64)) (pts rb (.cells (li.map (Value.int .i64)).toArray 3) :: M) := fun M => RdS.all (sz := 1) (n := 7) (by simp [hli])
  refine W.loopS 2251731094208608 rfl (fun p : Nat × Option Addr × Nat => [(36, .int .i64 (p.1 : Int))]) (fun p => pts rb (.cells (li.map (Value.int .i64)).toArray 3) :: pts b3 (.cells [.slice p.2.1 (6 + 2 * p.1) p.2.2].toArray 64) :: OZ p.2.1 p.2.2 (tw ns (3 + p.1)) :: L)
    (fun p => p.1 ≤ 7 ∧ SomeA p.2.1 (6 + 2 * p.1)) (fun p => 7 - p.1) (0, x3, c3) ⟨rfl, trivial⟩ ⟨Nat.zero_le _, hx3⟩ (Ent.app ent) ?_
  rintro ⟨i, ao, co⟩ bg ⟨hi, hao⟩
  dsimp only at hi hao ⊢
  by_cases h9 : i < 7
  · have gi : (li.map (Value.int .i64))[i]? = some (.int .i64 li[i]) := by simp [hli, h9]
    have hni := hat i (by omega)
    have hle := hx li[i] (List.getElem_mem _)
    have hnm := nm7_at h9
    have gn : (nm7.map strV)[i]? = some (strV (nm7.getD i [])) := by
      have : i < nm7.length := h9
      simp [this]
    generalize li[i] = y at *
    obtain ⟨m, hm⟩ : ∃ m : Nat, max y 0 = (m : Int) := ⟨(max y 0).toNat, by omega⟩
    have hm2 : (max y 0).toNat = m := by omega
    rw [hm2] at hni
    have htl := tw_len ns (3 + i)
    have hts : tw ns (3 + (i + 1)) = tw ns (3 + i) ++ [nm7.getD i [], dg m] := by
      rw [hnm, ← hni]; rfl
    refine go ?_
    refine WO.sv rfl ?_
    refine SV.loadR i rfl (rI _) (by omega) gi ?_
    refine go ?_
    refine WO.sv rfl ?_
    refine SV.lit rfl rfl rfl (Parts.cons (v := .string _) rfl cel (Parts.cons (v := .string _) rfl cel (Parts.cons (v := .string _) rfl cel (Parts.cons (v := .string _) rfl cel (Parts.cons (v := .string _) rfl cel (Parts.cons (v := .string _) rfl cel (Parts.cons (v := .string _) rfl cel Parts.nil))))))) rfl nl ?_
    intro rn
    refine go ?_
    refine WO.sv rfl ?_
    refine SV.loadR i rfl (show RdS 1 (some ⟨rn, 0, none⟩) 7 (nm7.map strV) _ from RdS.all (l := nm7.map strV) (sz := 1) (n := 7) rfl) (by omega) gn ?_
    refine go ?_
    rw [hm]
    refine WO.callW (vs := [strV (nm7.getD i []), .int .u64 m]) (cs := [.pointer (some ⟨b3, 0, none⟩)]) rfl Tryz.func38 rfl rfl rfl rfl (TriE.ent (A := pts b3 (.cells [.slice ao (6 + 2 * i) co].toArray 64) :: OZ ao co (tw ns (3 + i)) :: pts rb (.cells (li.map (Value.int .i64)).toArray 3) :: L) ent (fs_say b3 co (6 + 2 * i) ao (tw ns (3 + i)) (nm7.getD i []) m _ (by omega) (by omega) (by omega))) ?_
    rintro v M ⟨x4, c4, rfl, hx4, rfl⟩
    rw [← hts]
    refine go ?_
    exact ⟨(i + 1, x4, c4), ⟨rfl, trivial⟩, rfl, ⟨h9, hx4⟩, by dsimp only; omega, Ent.app ent⟩
  obtain rfl : i = 7 := by omega
  have htl := tw_len ns 10
  have hbd := jn_small (tw ns 10) (hsm 10 (by decide))
  have htne : tw ns 10 ≠ [] := fun z => by rw [z] at htl; cases htl
  rw [show 3 + 7 = 10 from rfl, show 6 + 2 * 7 = 20 from rfl] at *
  refine W.ownCap (show Tk _ (Own 9 1 (.slice ao (tw ns 10).length co) (tw ns 10).length ((tw ns 10).map strV)) _ from by show Tk _ (OZ ao co (tw ns 10)) _; exact tk) fun hcap => ?_
  have hJ := fun M => st_Join (tw ns 10) ao co M htne hcap (by omega)
  rw [htl] at hJ
  have hrz : ∀ M, RdS 1 ao (2 * 10) ((tw ns 10).map strV) (OZ ao co (tw ns 10) :: M) := fun M => by
    have := OZ.rd (l := tw ns 10) (a := ao) (c := co) (L := OZ ao co (tw ns 10) :: M) Tk.here (by rw [htl]; exact hao)
    rw [htl] at this
    exact this
  refine go ?_
  refine WO.cal (hJ _ ((hrz _).cons.cons)) ?_
  rintro v M ⟨rfl, rfl⟩
  refine go ?_
  exact ⟨rfl, [_], ⟨Res.tmp rfl, trivial⟩, _, ent, rfl, rfl⟩
end Go.SL

/- Layer 37 (fsck): the document's line; whether a report goes together; walked. -/
namespace Go.SL
open Go.Proofs
set_option linter.unusedVariables false
set_option linter.unusedSimpArgs false
set_option linter.unusedSectionVars false
set_option maxRecDepth 10000
set_option maxHeartbeats 4000000
def sndB (home used keys leaves values bytes : Nat) : Bool := decide (used = 1 + (home + 2047) / 2048 + leaves + values ∧ leaves ≤ keys ∧ values ≤ bytes ∧ bytes ≤ 256 * values)
theorem tw_jn (ns : List Nat) (i : Nat) : jn (tw ns (i + 1)) = (if i = 0 then [] else jn (tw ns i) ++ [32]) ++ nm10.getD i [] ++ [32] ++ dg (ns.getD i 0) := by
  by_cases h : i = 0
  · subst h; rfl
  · rw [if_neg h]
    have e : tw ns (i + 1) = tw ns i ++ [nm10.getD i [], dg (ns.getD i 0)] := rfl
    rw [e]
    have hne : tw ns i ≠ [] := fun z => by have := tw_len ns i; rw [z] at this; simp at this; omega
    rw [show tw ns i ++ [nm10.getD i [], dg (ns.getD i 0)] = (tw ns i ++ [nm10.getD i []]) ++ [dg (ns.getD i 0)] by simp, jn_snoc _ _ (by simp), jn_snoc _ _ hne]
    simp
theorem at10 (ns : List Nat) (h : ns.length = 10) {i : Nat} (hi : i < 10) : (ns.map fun x => Value.int .u64 (x : Nat))[i]? = some (.int .u64 (ns.getD i 0 : Nat)) := by
  simp [h, hi]
attribute [local irreducible] W WO SV OW SW Tri Ent Tk Has Src SrcK DA DB DP RdS Own OwnT MapH WetH RngH
theorem r37_Text (ns : List Nat) (L : List HP) (hlen : ns.length = 10) (hlt : ∀ i, ns.getD i 0 < 18446744073709551616) :
    TriE Tryz.prog 16 #[.agg (ns.map fun x => Value.int .u64 (x : Nat)).toArray] (fun v M => v = strV (jn (tw ns 10)) ∧ M = L) L := by
  have hsm := tw_small hlt
  have hbd : ∀ k, k ≤ 10 → (jn (tw ns k)).length ≤ 420 := fun k hk => by
    have h1 := jn_small (tw ns k) (hsm k hk)
    have h2 := tw_len ns k
    omega
  have hnml : ∀ i, i < 10 → (nm10.getD i []).length ≤ 20 := fun i hi => by
    have : ∀ k : Fin 10, (nm10.getD k.val []).length ≤ 20 := by decide
    exact this ⟨i, hi⟩
  have hml : (ns.map fun x => Value.int .u64 (x : Nat)).length = 10 := by simp [hlen]
  have hat := fun i (hi : i < 10) => at10 ns hlen hi
  refine Tri.of (N := 27) (args := [.agg (ns.map fun x => Value.int .u64 (x : Nat)).toArray]) Tryz.func16 rfl rfl rfl ?_
  generalize (ns.map fun x => Value.int .u64 (x : Nat)) = vs at *
  refine go ?_
  intro b1
  refine go ?_
  refine WO.sv rfl ?_
  refine SV.buildArr (Parts.cons (v := .string _) rfl cel (Parts.cons (v := .string _) rfl cel (Parts.cons (v := .string _) rfl cel (Parts.cons (v := .string _) rfl cel (Parts.cons (v := .string _) rfl cel (Parts.cons (v := .string _) rfl cel (Parts.cons (v := .string _) rfl cel (Parts.cons (v := .string _) rfl cel (Parts.cons (v := .string _) rfl cel (Parts.cons (v := .string _) rfl cel Parts.nil)))))))))) rfl nl ?_
  refine go ?_
  intro b3
  refine go ?_
  have gn : ∀ i, i < 10 → (nm10.map strV)[i]? = some (strV (nm10.getD i [])) := fun i hi => by
    have : i < nm10.length := hi
    simp [this]
  refine W.loopS 67108784 rfl (fun i : Nat => [(4, strV (jn (tw ns i))), (5, .int .i64 (i : Int))]) (fun _ => pts b1 (.cells vs.toArray 54) :: pts b3 (.cells (nm10.map strV).toArray 84) :: L) (fun i => i ≤ 10) (fun i => 10 - i) 0 ⟨rfl, rfl, trivial⟩ (Nat.zero_le _) (Ent.app ent) ?_
  intro i bg hi
  dsimp only at hi ⊢
  by_cases h9 : i < 10
  · have hst := tw_jn ns i
    have hgi := gn i h9
    have hai := hat i h9
    have hl1 := hbd i (by omega)
    have hl2 := hnml i h9
    have hl3 := dg_len64 (hlt i)
    have hlu := hlt i
    generalize nm10.getD i [] = w at *
    generalize ns.getD i 0 = u at *
    by_cases h0 : i = 0
    · rw [if_pos h0, List.nil_append] at hst
      have hj0 : jn (tw ns i) = [] := by subst h0; rfl
      refine go ?_
      refine W.drawB #[0, 0, 2, 6, 15, 31, 0, 64, 192, 448, 1023, 2047] [pts b1 (.cells vs.toArray 54), pts b3 (.cells (nm10.map strV).toArray 84)] L rfl (by kernel_rfl) (by kernel_rfl) (by kernel_rfl) ent ?_
      refine go ?_
      refine DB.q (v := strV w) rfl rfl hl (SV.loadR i rfl (RdS.all (l := nm10.map strV) (sz := 1) (n := 10) rfl) (by omega) hgi eqq) ?_
      refine DB.q (v := strV (jn (tw ns i) ++ w)) rfl rfl hl (SV.concat rfl rfl (by first | omega | (simp; omega)) eqq) ?_
      refine DB.q (v := strV ((jn (tw ns i) ++ w) ++ [32])) rfl rfl hl (SV.concat rfl rfl (by first | omega | (simp; omega)) eqq) ?_
      refine go ?_
      refine DB.q (v := .int .u64 (u : Nat)) rfl rfl hl (SV.loadR i rfl (RdS.all (l := vs) (sz := 1) (n := 10) hml) (by omega) hai eqq) ?_
      refine go ?_
      refine DB.cal hl hl (r37_digits u _ hlu) ?_
      rintro v M ⟨rfl, rfl⟩
      refine ⟨[], L, ent, ?_⟩
      refine go ?_
      refine DB.q (v := strV (((jn (tw ns i) ++ w) ++ [32]) ++ dg u)) rfl rfl hl (SV.concat rfl rfl (by first | omega | (simp; omega)) eqq) ?_
      refine go ?_
      refine ⟨pts b1 (.cells vs.toArray 54) :: pts b3 (.cells (nm10.map strV).toArray 84) :: L, ent, ?_⟩
      refine go ?_
      refine ⟨i + 1, ⟨?_, rfl, trivial⟩, rfl, h9, by omega, Ent.app ent⟩
      show strV _ = strV _
      rw [hst]
      rw [hj0, List.nil_append]
    · rw [if_neg h0] at hst
      refine go ?_
      refine WO.sv rfl ?_
      refine SV.concat rfl rfl (by first | omega | (simp; omega)) ?_
      refine go ?_
      refine W.drawB #[0, 0, 2, 6, 15, 31, 0, 64, 192, 448, 1023, 2047] [pts b1 (.cells vs.toArray 54), pts b3 (.cells (nm10.map strV).toArray 84)] L rfl (by kernel_rfl) (by kernel_rfl) (by kernel_rfl) ent ?_
      refine go ?_
      refine DB.q (v := strV w) rfl rfl hl (SV.loadR i rfl (RdS.all (l := nm10.map strV) (sz := 1) (n := 10) rfl) (by omega) hgi eqq) ?_
      refine DB.q (v := strV ((jn (tw ns i) ++ [32]) ++ w)) rfl rfl hl (SV.concat rfl rfl (by first | omega | (simp; omega)) eqq) ?_
      refine DB.q (v := strV (((jn (tw ns i) ++ [32]) ++ w) ++ [32])) rfl rfl hl (SV.concat rfl rfl (by first | omega | (simp; omega)) eqq) ?_
      refine go ?_
      refine DB.q (v := .int .u64 (u : Nat)) rfl rfl hl (SV.loadR i rfl (RdS.all (l := vs) (sz := 1) (n := 10) hml) (by omega) hai eqq) ?_
      refine go ?_
      refine DB.cal hl hl (r37_digits u _ hlu) ?_
      rintro v M ⟨rfl, rfl⟩
      refine ⟨[], L, ent, ?_⟩
      refine go ?_
      refine DB.q (v := strV ((((jn (tw ns i) ++ [32]) ++ w) ++ [32]) ++ dg u)) rfl rfl hl (SV.concat rfl rfl (by first | omega | (simp; omega)) eqq) ?_
      refine go ?_
      refine ⟨pts b1 (.cells vs.toArray 54) :: pts b3 (.cells (nm10.map strV).toArray 84) :: L, ent, ?_⟩
      refine go ?_
      refine ⟨i + 1, ⟨?_, rfl, trivial⟩, rfl, h9, by omega, Ent.app ent⟩
      show strV _ = strV _
      rw [hst]
  obtain rfl : i = 10 := by omega
  refine go ?_
  exact ⟨rfl, [_], ⟨Res.tmp rfl, trivial⟩, _, ent, rfl, rfl⟩
theorem fs_Sound (g e q : Nat) (lg : Int) (home used keys leaves values bytes : Nat) (L : List HP) (h1 : home ≤ 100000) (h2 : used ≤ 100000) (h3 : keys ≤ 100000) (h4 : leaves ≤ 100000) (h5 : values ≤ 100000) (h6 : bytes ≤ 10000000) :
    TriE Tryz.prog 17 #[.agg #[.int .u64 g, .int .u64 e, .int .u64 q, .int .i64 lg, .int .i64 home, .int .i64 used, .int .i64 keys, .int .i64 leaves, .int .i64 values, .int .i64 bytes]] (fun v M => v = .bool (sndB home used keys leaves values bytes) ∧ M = L) L := by
  refine Tri.of (N := 60) (args := [.agg #[.int .u64 g, .int .u64 e, .int .u64 q, .int .i64 lg, .int .i64 home, .int .i64 used, .int .i64 keys, .int .i64 leaves, .int .i64 values, .int .i64 bytes]]) Tryz.func17 rfl rfl rfl ?_
  refine go ?_
  intro b1
  generalize hm : (home + 2047) / 2048 = mp
  have hS : sndB home used keys leaves values bytes = decide (used = 1 + mp + leaves + values ∧ leaves ≤ keys ∧ values ≤ bytes ∧ bytes ≤ 256 * values) := by unfold sndB; rw [hm]
  rw [hS]
  by_cases hh : home < 1
  · obtain rfl : home = 0 := by omega
    obtain rfl : mp = 0 := by omega
    by_cases c1 : keys < leaves
    · rw [decide_eq_false (fun z => by omega)]
      refine go ?_
      exact ⟨rfl, [_], ⟨Res.tmp rfl, trivial⟩, _, ent, rfl, rfl⟩
    by_cases c2 : bytes < values
    · rw [decide_eq_false (fun z => by omega)]
      refine go ?_
      exact ⟨rfl, [_], ⟨Res.tmp rfl, trivial⟩, _, ent, rfl, rfl⟩
    by_cases c3 : used = 1 + 0 + leaves + values
    rotate_left
    · rw [decide_eq_false (fun z => c3 z.1)]
      refine go ?_
      exact ⟨rfl, [_], ⟨Res.tmp rfl, trivial⟩, _, ent, rfl, rfl⟩
    by_cases c4 : bytes ≤ 256 * values
    · rw [decide_eq_true ⟨c3, by omega, by omega, c4⟩]
      refine go ?_
      exact ⟨rfl, [_], ⟨Res.tmp rfl, trivial⟩, _, ent, rfl, rfl⟩
    · rw [decide_eq_false (fun z => c4 z.2.2.2)]
      refine go ?_
      exact ⟨rfl, [_], ⟨Res.tmp rfl, trivial⟩, _, ent, rfl, rfl⟩
  · by_cases c1 : keys < leaves
    · rw [decide_eq_false (fun z => by omega)]
      refine go ?_
      exact ⟨rfl, [_], ⟨Res.tmp rfl, trivial⟩, _, ent, rfl, rfl⟩
    by_cases c2 : bytes < values
    · rw [decide_eq_false (fun z => by omega)]
      refine go ?_
      exact ⟨rfl, [_], ⟨Res.tmp rfl, trivial⟩, _, ent, rfl, rfl⟩
    by_cases c3 : used = 1 + mp + leaves + values
    rotate_left
    · rw [decide_eq_false (fun z => c3 z.1)]
      refine go ?_
      exact ⟨rfl, [_], ⟨Res.tmp rfl, trivial⟩, _, ent, rfl, rfl⟩
    by_cases c4 : bytes ≤ 256 * values
    · rw [decide_eq_true ⟨c3, by omega, by omega, c4⟩]
      refine go ?_
      exact ⟨rfl, [_], ⟨Res.tmp rfl, trivial⟩, _, ent, rfl, rfl⟩
    · rw [decide_eq_false (fun z => c4 z.2.2.2)]
      refine go ?_
      exact ⟨rfl, [_], ⟨Res.tmp rfl, trivial⟩, _, ent, rfl, rfl⟩
end Go.SL

/- Layer 10 (journal): changes that are done, walked. -/
namespace Go.SL
open Go.Proofs
set_option linter.unusedVariables false
set_option linter.unusedSimpArgs false
set_option linter.unusedSectionVars false
set_option maxRecDepth 10000
set_option maxHeartbeats 4000000
def o10c : Chs := [(1, rep 7)]
def o10g : Lg := ⟨⟨2, 2, 0, 1, 5⟩, 0, 1, 0, [], false⟩
def o10d : Dv := (openP (madeD 12 5)).1
theorem o10_g : (openP (madeD 12 5)).2.1 = some o10g := by kernel_rfl
theorem o10_k : o10d.kept.length = 12 := by kernel_rfl
theorem o10_w : o10d.waits.length = 0 := by kernel_rfl
theorem o10_r : refP o10d o10g o10c = 0 := by kernel_rfl
theorem o10_e : (doneP o10d o10g o10c).2.2 = 0 := by kernel_rfl
def o10g2 : Lg := ⟨⟨2, 2, 0, 1, 5⟩, 3, 2, 3, [(1, rep 7)], false⟩
theorem o10_g2 : (doneP o10d o10g o10c).2.1 = o10g2 := by kernel_rfl
def o10d2 : Dv := (doneP o10d o10g o10c).1
theorem o10_k2 : o10d2.kept.length = 12 := by kernel_rfl
theorem o10_w2 : o10d2.waits.length = 0 := by kernel_rfl
def o10d3 : Dv := o10d2.fall []
theorem o10_k3 : o10d3.kept.length = 12 := by kernel_rfl
theorem o10_w3 : o10d3.waits.length = 0 := by kernel_rfl
def o10g3 : Lg := ⟨⟨3, 3, 3, 2, 5⟩, 3, 2, 0, [], false⟩
theorem o10_g3 : (openP o10d3).2.1 = some o10g3 := by kernel_rfl
def o10d4 : Dv := (openP o10d3).1
theorem o10_k4 : o10d4.kept.length = 12 := by kernel_rfl
theorem o10_b : (readL o10d4 o10g3 1).2.2.1 = rep 7 := by kernel_rfl
theorem o10_z : (readL o10d4 o10g3 1).2.2.2 = 0 := by kernel_rfl
theorem o10_gg : (readL o10d4 o10g3 1).2.1 = o10g3 := by kernel_rfl
theorem o10_ok : o10d.Ok ∧ o10d2.Ok ∧ o10d3.Ok ∧ o10d4.Ok := by
  have a := (openP_step (madeD 12 5) (madeD_step (by decide) 5).1).1
  have b := (doneP_step o10d o10g o10c a).1
  have c : o10d3.Ok := Dv.fall_ok b []
  exact ⟨a, b, c, (openP_step o10d3 c).1⟩
theorem o10_p (k : Nat) : o10g.place k < 12 := by
  have : o10g.place k = 2 + (0 + k) % 5 := rfl
  omega
theorem o10_lw : LgW o10g := ⟨by decide, by decide, rfl, by decide, by decide, by decide⟩
attribute [local irreducible] W WO SV OW SW Tri Ent Tk Has Src SrcK DA DB RdS Own MapH WetH
end Go.SL

/- Layer 37 (fsck): an empty store is looked through; walked. -/
namespace Go.SL
open Go.Proofs
set_option linter.unusedVariables false
set_option linter.unusedSimpArgs false
set_option linter.unusedSectionVars false
set_option maxRecDepth 10000
set_option maxHeartbeats 4000000
/-- A copy that will not fall. -/
def dvC (d : Dv) : Dv := { d with arm := -1 }
def Em.c (e : Em) : Dv := dvC e.d5
def Em.c1 (e : Em) : Dv := (openP e.c).1
def Em.h1 (e : Em) : Lg := (openP e.c).2.1.getD lg00
def Em.c2 (e : Em) : Dv := (readL e.c1 e.h1 0).1
def Em.h2 (e : Em) : Lg := (readL e.c1 e.h1 0).2.1
def Em.c3 (e : Em) : Dv := (readL e.c2 e.h2 1).1
def Em.h3 (e : Em) : Lg := (readL e.c2 e.h2 1).2.1
def Em.okC (e : Em) : Bool := decide ((openP e.c).2.2 = 0) && ((openP e.c).2.1.isSome && (lgOkB e.h1 && (decide (e.h1.log + 2 ≤ e.c1.kept.length) && (decide (homeN e.c1 e.h1 = e.n) && (decide ((readL e.c1 e.h1 0).2.2 = (zero256, 0)) && decide ((readL e.c2 e.h2 1).2.2 = (padB (emB e.n), 0)))))))
def Em.okD (e : Em) : Bool := decide (e.d5.waits.length ≤ 1000) && (decide (e.d5.kept.length = e.blocks) && (decide (e.d5.down = false) && (decide ((loadS e.c).2.2 = 0) && (decide ((loadS e.c).2.1.gen = 3) && (decide ((loadS e.c).2.1.epoch = 3) && (decide ((loadS e.c).2.1.seq < 1000) && decide ((loadS e.c).2.1.log = e.log)))))))
theorem em60c : Em.okC ⟨60, 20⟩ = true := by kernel_rfl
theorem em60d : Em.okD ⟨60, 20⟩ = true := by kernel_rfl
theorem Em.splitC {e : Em} (hB : e.okC = true) : openP e.c = (e.c1, some e.h1, 0) ∧ lgOkB e.h1 = true ∧ e.h1.log + 2 ≤ e.c1.kept.length ∧ homeN e.c1 e.h1 = e.n ∧ readL e.c1 e.h1 0 = (e.c2, e.h2, zero256, 0) ∧ readL e.c2 e.h2 1 = (e.c3, e.h3, padB (emB e.n), 0) := by
  unfold Em.okC at hB
  simp only [Bool.and_eq_true, decide_eq_true_eq] at hB
  obtain ⟨a3, a4, a5, a7, a8, a9, a10⟩ := hB
  refine ⟨?_, a5, a7, a8, ?_, ?_⟩
  · show openP e.c = ((openP e.c).1, some ((openP e.c).2.1.getD lg00), 0)
    generalize openP e.c = q at *
    obtain ⟨x, y, z⟩ := q
    dsimp only at a3 a4 ⊢
    subst a3
    cases y with
    | none => cases a4
    | some g => rfl
  · show readL e.c1 e.h1 0 = ((readL e.c1 e.h1 0).1, (readL e.c1 e.h1 0).2.1, zero256, 0)
    generalize readL e.c1 e.h1 0 = q at *
    obtain ⟨x, y, z⟩ := q
    dsimp only at a9 ⊢
    rw [a9]
  · show readL e.c2 e.h2 1 = ((readL e.c2 e.h2 1).1, (readL e.c2 e.h2 1).2.1, padB (emB e.n), 0)
    generalize readL e.c2 e.h2 1 = q at *
    obtain ⟨x, y, z⟩ := q
    dsimp only at a10 ⊢
    rw [a10]
theorem Em.splitD {e : Em} (hB : e.okD = true) : e.d5.waits.length ≤ 1000 ∧ e.d5.kept.length = e.blocks ∧ e.d5.down = false ∧ ∃ p q, q < 1000 ∧ (loadS e.c).2 = (⟨3, 3, p, q, e.log⟩, 0) := by
  unfold Em.okD at hB
  simp only [Bool.and_eq_true, decide_eq_true_eq] at hB
  obtain ⟨a1, a2, a3, a4, a5, a6, a7, a8⟩ := hB
  generalize (loadS e.c).2 = q at *
  obtain ⟨⟨x1, x2, x3, x4, x5⟩, y⟩ := q
  dsimp only at a4 a5 a6 a7 a8
  subst a4 a5 a6 a8
  exact ⟨a1, a2, a3, x3, x4, a7, rfl⟩
theorem dvC_ok {d : Dv} (ok : d.Ok) : (dvC d).Ok := by
  exact ⟨ok.now, ok.size, ok.k256, ok.n256, ok.w256, by unfold dvC; dsimp only; omega, ok.sync⟩
attribute [local irreducible] W WO SV OW SW Tri Ent Tk Has Src SrcK DA DB DP RdS Own OwnT MapH WetH RngH
theorem fs_copied (b : Nat) (d : Dv) (R : List HP) (ok : d.Ok) (hw : d.waits.length ≤ 1000000) (hk : d.kept.length ≠ 0) :
    TriE Tryz.prog 75 #[.pointer (some ⟨b, 0, none⟩)] (fun v M => ∃ b', v = .pointer (some ⟨b', 0, none⟩) ∧ M = DevH b' (dvC d) :: DevH b d :: R) (DevH b d :: R) := by
  refine Tri.of (N := 9) (args := [.pointer (some ⟨b, 0, none⟩)]) Tryz.func75 rfl rfl rfl ?_
  refine go ?_
  refine WO.cal (dv_Clone b d R ok hw) ?_
  rintro v M (⟨z, _⟩ | ⟨_, b', rfl, rfl⟩)
  · exact absurd z hk
  refine go ?_
  refine WO.cal (dv_Arm b' d (-1) _ (by decide)) ?_
  rintro v M ⟨rfl⟩
  rw [if_neg hk]
  refine go ?_
  exact ⟨rfl, [_], ⟨Res.tmp rfl, trivial⟩, _, ent, b', rfl, rfl⟩
theorem fs_values0 (x : Value) (sb lb n m uc : Nat) (ua : Option Addr) (L : List HP) [r : Rd L sb (.cells (StL lb ua uc m n).toArray 34 (0, 0))] :
    TriE Tryz.prog 76 #[x, .pointer (some ⟨sb, 0, none⟩)] (fun v M => v = .int .i64 0 ∧ M = L) L := by
  refine Tri.of (N := 45) (args := [x, .pointer (some ⟨sb, 0, none⟩)]) Tryz.func76 rfl rfl rfl ?_
  refine go ?_
  refine WO.cal (kv_Keys0 sb lb n m uc ua [] L) ?_
  rintro v M ⟨rfl, rfl⟩
  refine go ?_
  refine W.loopS 35184372085200 rfl (fun _ : Unit => [(12, .int .i64 0)]) (fun _ => M) (fun _ => True) (fun _ => 0) () ⟨rfl, trivial⟩ trivial (Ent.app ent) ?_
  intro _ bg _
  refine go ?_
  exact ⟨rfl, [_], ⟨Res.tmp rfl, trivial⟩, _, ent, rfl, rfl⟩
end Go.SL

/- Layer 37 (fsck): an empty store is looked through; walked. -/
namespace Go.SL
open Go.Proofs
set_option linter.unusedVariables false
set_option linter.unusedSimpArgs false
set_option linter.unusedSectionVars false
set_option maxRecDepth 10000
set_option maxHeartbeats 4000000
attribute [local irreducible] W WO SV OW SW Tri Ent Tk Has Src SrcK DA DB DP RdS Own OwnT MapH WetH RngH
theorem fs_Look0 (b : Nat) (d c1 c2 c3 : Dv) (g1 g2 g3 : Lg) (gg ee qq : Nat) (pp lg : Int) (n : Nat) (R : List HP) (ok : d.Ok) (hw : d.waits.length ≤ 1000) (hk : d.kept.length ≠ 0) (hd : d.down = false) (hlS : (loadS (dvC d)).2 = (⟨gg, ee, pp, qq, lg⟩, 0)) (hhm : (d.kept.length : Int) - 2 - lg = n) (hlg : 0 ≤ lg ∧ lg ≤ 4096)
    (e0 : openP (dvC d) = (c1, some g1, 0)) (hlog : (g1.log : Int) = g1.hd.log) (hl3 : g1.log + 2 ≤ c1.kept.length) (hn : homeN c1 g1 = n) (h1 : 2 ≤ n) (h2 : n ≤ 2048) (e1 : readL c1 g1 0 = (c2, g2, zero256, 0)) (e2 : readL c2 g2 1 = (c3, g3, padB (emB n), 0)) :
    TriE Tryz.prog 42 #[.pointer (some ⟨b, 0, none⟩)] (fun v M => v = .tuple #[.agg [.int .u64 gg, .int .u64 ee, .int .u64 qq, .int .i64 lg, .int .i64 (n : Nat), .int .i64 2, .int .i64 0, .int .i64 0, .int .i64 0, .int .i64 0].toArray, .int .i64 0] ∧ M = DevH b d :: R) (DevH b d :: R) := by
  have hsz := ok.size
  have hL := fun b' R => h9_Load b' (dvC d) R (dvC_ok ok)
  rw [show (loadS (dvC d)).2.1 = (⟨gg, ee, pp, qq, lg⟩ : Hd) by rw [hlS], show (loadS (dvC d)).2.2 = 0 by rw [hlS]] at hL
  clear hlS
  have hO := fun db R => kv_Open0 db (dvC d) c1 c2 c3 g1 g2 g3 n R (dvC_ok ok) hw e0 hlog hl3 hn h1 h2 e1 e2
  generalize (loadS (dvC d)).1 = dl at *
  have hC := fun R => fs_copied b d R ok (by omega) hk
  generalize dvC d = dc at *
  refine Tri.of (N := 72) (args := [.pointer (some ⟨b, 0, none⟩)]) Tryz.func42 rfl rfl rfl ?_
  refine go ?_
  intro b2
  refine go ?_
  refine WO.calX (dv_LenH b d (pts b2 (.cells [.int .u64 0, .int .u64 0, .int .u64 0, .int .i64 0, .int .i64 0, .int .i64 0, .int .i64 0, .int .i64 0, .int .i64 0, .int .i64 0].toArray 53) :: R)) ent ?_
  rintro v M ⟨rfl, rfl⟩
  refine go ?_
  refine WO.calX (dv_Down b d (pts b2 (.cells [.int .u64 0, .int .u64 0, .int .u64 0, .int .i64 0, .int .i64 0, .int .i64 0, .int .i64 0, .int .i64 0, .int .i64 0, .int .i64 0].toArray 53) :: R)) ent ?_
  rintro v M ⟨rfl, rfl⟩
  refine go ?_
  rw [hd, Bool.and_false]
  refine go ?_
  refine WO.calX (hC (pts b2 (.cells [.int .u64 0, .int .u64 0, .int .u64 0, .int .i64 0, .int .i64 0, .int .i64 0, .int .i64 0, .int .i64 0, .int .i64 0, .int .i64 0].toArray 53) :: R)) ent ?_
  rintro v M ⟨db1, rfl, rfl⟩
  refine go ?_
  refine WO.cal (hL db1 _) ?_
  rintro v M ⟨rfl, rfl⟩
  refine go ?_
  intro b4
  refine go ?_
  refine WO.calX (hC (pts b2 (.cells [.int .u64 0, .int .u64 0, .int .u64 0, .int .i64 0, .int .i64 0, .int .i64 0, .int .i64 0, .int .i64 0, .int .i64 0, .int .i64 0].toArray 53) :: pts b4 (.cells [.int .u64 gg, .int .u64 ee, .int .i64 pp, .int .u64 qq, .int .i64 lg].toArray 137) :: R)) ent ?_
  rintro v M ⟨db2, rfl, rfl⟩
  refine go ?_
  refine WO.cal (hO db2 _) ?_
  rintro v M ⟨sb, lb2, mb, ua, uc, rfl, hua, rfl⟩
  refine go ?_
  refine W.drawB #[0, 1, 0, 4, 0, 16, 0, 64, 0, 256, 768, 0, 2048, 7936, 16383, 0, 65535] [pts b4 (.cells [.int .u64 gg, .int .u64 ee, .int .i64 pp, .int .u64 qq, .int .i64 lg].toArray 137)] (pts sb (.cells (StL lb2 ua uc (emB n).length n).toArray 34) :: (DevH b d :: OS ua uc (emB n) :: LgP lb2 db2 g3 mb :: WetH mb g3.wet :: DevH db2 c3 :: pts b2 (.cells [.int .u64 0, .int .u64 0, .int .u64 0, .int .i64 0, .int .i64 0, .int .i64 0, .int .i64 0, .int .i64 0, .int .i64 0, .int .i64 0].toArray 53) :: R)) rfl (by kernel_rfl) (by kernel_rfl) (by kernel_rfl) ent ?_
  refine go ?_
  refine DB.calX hl hl (dv_LenH b d (pts b4 (.cells [.int .u64 gg, .int .u64 ee, .int .i64 pp, .int .u64 qq, .int .i64 lg].toArray 137) :: pts sb (.cells (StL lb2 ua uc (emB n).length n).toArray 34) :: OS ua uc (emB n) :: LgP lb2 db2 g3 mb :: WetH mb g3.wet :: DevH db2 c3 :: pts b2 (.cells [.int .u64 0, .int .u64 0, .int .u64 0, .int .i64 0, .int .i64 0, .int .i64 0, .int .i64 0, .int .i64 0, .int .i64 0, .int .i64 0].toArray 53) :: R)) ent ?_
  rintro v M ⟨rfl, rfl⟩
  refine ⟨[], pts sb (.cells (StL lb2 ua uc (emB n).length n).toArray 34) :: (DevH b d :: OS ua uc (emB n) :: LgP lb2 db2 g3 mb :: WetH mb g3.wet :: DevH db2 c3 :: pts b2 (.cells [.int .u64 0, .int .u64 0, .int .u64 0, .int .i64 0, .int .i64 0, .int .i64 0, .int .i64 0, .int .i64 0, .int .i64 0, .int .i64 0].toArray 53) :: R), ent, ?_⟩
  refine go ?_
  refine DB.alloc rfl ?_
  intro b7
  refine DB.v rfl rfl rfl hl hl ?_
  refine SV.store rfl rfl cel rfl rfl rfl frz le0 nl ?_
  rw [hhm]
  refine ⟨[], pts b7 (.cells [.int .u64 gg, .int .u64 ee, .int .u64 qq, .int .i64 lg, .int .i64 (n : Nat), .int .i64 0, .int .i64 0, .int .i64 0, .int .i64 0, .int .i64 0].toArray 53) :: pts sb (.cells (StL lb2 ua uc (emB n).length n).toArray 34) :: DevH b d :: OS ua uc (emB n) :: LgP lb2 db2 g3 mb :: WetH mb g3.wet :: DevH db2 c3 :: pts b2 (.cells [.int .u64 0, .int .u64 0, .int .u64 0, .int .i64 0, .int .i64 0, .int .i64 0, .int .i64 0, .int .i64 0, .int .i64 0, .int .i64 0].toArray 53) :: R, ent, ?_⟩
  refine go ?_
  refine ⟨pts b7 (.cells [.int .u64 gg, .int .u64 ee, .int .u64 qq, .int .i64 lg, .int .i64 (n : Nat), .int .i64 0, .int .i64 0, .int .i64 0, .int .i64 0, .int .i64 0].toArray 53) :: pts sb (.cells (StL lb2 ua uc (emB n).length n).toArray 34) :: DevH b d :: OS ua uc (emB n) :: LgP lb2 db2 g3 mb :: WetH mb g3.wet :: DevH db2 c3 :: pts b2 (.cells [.int .u64 0, .int .u64 0, .int .u64 0, .int .i64 0, .int .i64 0, .int .i64 0, .int .i64 0, .int .i64 0, .int .i64 0, .int .i64 0].toArray 53) :: R, ent, ?_⟩
  refine go ?_
  refine W.drawU 10 #[0, 1, 0, 4, 15, 0, 44, 0, 236, 511, 1023, 2047, 4095, 8191, 16383] [pts b7 (.cells [.int .u64 gg, .int .u64 ee, .int .u64 qq, .int .i64 lg, .int .i64 (n : Nat), .int .i64 0, .int .i64 0, .int .i64 0, .int .i64 0, .int .i64 0].toArray 53), pts sb (.cells (StL lb2 ua uc (emB n).length n).toArray 34)] (DevH b d :: OS ua uc (emB n) :: LgP lb2 db2 g3 mb :: WetH mb g3.wet :: DevH db2 c3 :: pts b2 (.cells [.int .u64 0, .int .u64 0, .int .u64 0, .int .i64 0, .int .i64 0, .int .i64 0, .int .i64 0, .int .i64 0, .int .i64 0, .int .i64 0].toArray 53) :: R) rfl (by kernel_rfl) (by kernel_rfl) (by kernel_rfl) (by kernel_rfl) ent ?_
  refine go ?_
  refine DB.calX hl hl (kv_Free0 sb lb2 n uc ua (pts b7 (.cells [.int .u64 gg, .int .u64 ee, .int .u64 qq, .int .i64 lg, .int .i64 (n : Nat), .int .i64 0, .int .i64 0, .int .i64 0, .int .i64 0, .int .i64 0].toArray 53) :: DevH b d :: LgP lb2 db2 g3 mb :: WetH mb g3.wet :: DevH db2 c3 :: pts b2 (.cells [.int .u64 0, .int .u64 0, .int .u64 0, .int .i64 0, .int .i64 0, .int .i64 0, .int .i64 0, .int .i64 0, .int .i64 0, .int .i64 0].toArray 53) :: R) h1 h2 hua) ent ?_
  rintro v M ⟨rfl, rfl⟩
  refine ⟨[], DevH b d :: OS ua uc (emB n) :: LgP lb2 db2 g3 mb :: WetH mb g3.wet :: DevH db2 c3 :: pts b2 (.cells [.int .u64 0, .int .u64 0, .int .u64 0, .int .i64 0, .int .i64 0, .int .i64 0, .int .i64 0, .int .i64 0, .int .i64 0, .int .i64 0].toArray 53) :: R, ent, ?_⟩
  refine go ?_
  refine DB.cal hl hl (kv_Len0 sb lb2 n _ uc ua _) ?_
  rintro v M ⟨rfl, rfl⟩
  refine ⟨[], DevH b d :: OS ua uc (emB n) :: LgP lb2 db2 g3 mb :: WetH mb g3.wet :: DevH db2 c3 :: pts b2 (.cells [.int .u64 0, .int .u64 0, .int .u64 0, .int .i64 0, .int .i64 0, .int .i64 0, .int .i64 0, .int .i64 0, .int .i64 0, .int .i64 0].toArray 53) :: R, ent, ?_⟩
  refine go ?_
  refine DB.cal hl hl (kv_Leaves0 sb lb2 n _ uc ua _) ?_
  rintro v M ⟨rfl, rfl⟩
  refine ⟨[], DevH b d :: OS ua uc (emB n) :: LgP lb2 db2 g3 mb :: WetH mb g3.wet :: DevH db2 c3 :: pts b2 (.cells [.int .u64 0, .int .u64 0, .int .u64 0, .int .i64 0, .int .i64 0, .int .i64 0, .int .i64 0, .int .i64 0, .int .i64 0, .int .i64 0].toArray 53) :: R, ent, ?_⟩
  refine go ?_
  refine ⟨pts b7 (.cells [.int .u64 gg, .int .u64 ee, .int .u64 qq, .int .i64 lg, .int .i64 (n : Nat), .int .i64 0, .int .i64 0, .int .i64 0, .int .i64 0, .int .i64 0].toArray 53) :: pts sb (.cells (StL lb2 ua uc (emB n).length n).toArray 34) :: DevH b d :: OS ua uc (emB n) :: LgP lb2 db2 g3 mb :: WetH mb g3.wet :: DevH db2 c3 :: pts b2 (.cells [.int .u64 0, .int .u64 0, .int .u64 0, .int .i64 0, .int .i64 0, .int .i64 0, .int .i64 0, .int .i64 0, .int .i64 0, .int .i64 0].toArray 53) :: R, ent, ?_⟩
  refine go ?_
  refine DB.v rfl rfl rfl hl hl ?_
  refine SV.store rfl rfl cel rfl rfl rfl frz le0 nl ?_
  rw [show ((n : Nat) : Int) - (((n : Nat) : Int) - 2) = 2 by omega]
  refine ⟨[], pts b7 (.cells [.int .u64 gg, .int .u64 ee, .int .u64 qq, .int .i64 lg, .int .i64 (n : Nat), .int .i64 2, .int .i64 0, .int .i64 0, .int .i64 0, .int .i64 0].toArray 53) :: pts sb (.cells (StL lb2 ua uc (emB n).length n).toArray 34) :: DevH b d :: OS ua uc (emB n) :: LgP lb2 db2 g3 mb :: WetH mb g3.wet :: DevH db2 c3 :: pts b2 (.cells [.int .u64 0, .int .u64 0, .int .u64 0, .int .i64 0, .int .i64 0, .int .i64 0, .int .i64 0, .int .i64 0, .int .i64 0, .int .i64 0].toArray 53) :: R, ent, ?_⟩
  refine go ?_
  refine DB.v rfl rfl rfl hl hl ?_
  refine SV.store rfl rfl cel rfl rfl rfl frz le0 nl ?_
  refine ⟨[], pts b7 (.cells [.int .u64 gg, .int .u64 ee, .int .u64 qq, .int .i64 lg, .int .i64 (n : Nat), .int .i64 2, .int .i64 0, .int .i64 0, .int .i64 0, .int .i64 0].toArray 53) :: pts sb (.cells (StL lb2 ua uc (emB n).length n).toArray 34) :: DevH b d :: OS ua uc (emB n) :: LgP lb2 db2 g3 mb :: WetH mb g3.wet :: DevH db2 c3 :: pts b2 (.cells [.int .u64 0, .int .u64 0, .int .u64 0, .int .i64 0, .int .i64 0, .int .i64 0, .int .i64 0, .int .i64 0, .int .i64 0, .int .i64 0].toArray 53) :: R, ent, ?_⟩
  refine go ?_
  refine DB.v rfl rfl rfl hl hl ?_
  refine SV.store rfl rfl cel rfl rfl rfl frz le0 nl ?_
  refine ⟨[], pts b7 (.cells [.int .u64 gg, .int .u64 ee, .int .u64 qq, .int .i64 lg, .int .i64 (n : Nat), .int .i64 2, .int .i64 0, .int .i64 0, .int .i64 0, .int .i64 0].toArray 53) :: pts sb (.cells (StL lb2 ua uc (emB n).length n).toArray 34) :: DevH b d :: OS ua uc (emB n) :: LgP lb2 db2 g3 mb :: WetH mb g3.wet :: DevH db2 c3 :: pts b2 (.cells [.int .u64 0, .int .u64 0, .int .u64 0, .int .i64 0, .int .i64 0, .int .i64 0, .int .i64 0, .int .i64 0, .int .i64 0, .int .i64 0].toArray 53) :: R, ent, ?_⟩
  refine go ?_
  refine ⟨pts b7 (.cells [.int .u64 gg, .int .u64 ee, .int .u64 qq, .int .i64 lg, .int .i64 (n : Nat), .int .i64 2, .int .i64 0, .int .i64 0, .int .i64 0, .int .i64 0].toArray 53) :: pts sb (.cells (StL lb2 ua uc (emB n).length n).toArray 34) :: DevH b d :: OS ua uc (emB n) :: LgP lb2 db2 g3 mb :: WetH mb g3.wet :: DevH db2 c3 :: pts b2 (.cells [.int .u64 0, .int .u64 0, .int .u64 0, .int .i64 0, .int .i64 0, .int .i64 0, .int .i64 0, .int .i64 0, .int .i64 0, .int .i64 0].toArray 53) :: R, ent, ?_⟩
  refine go ?_
  refine WO.cal (fs_values0 (.pointer (some ⟨b7, 0, none⟩)) sb lb2 n _ uc ua _) ?_
  rintro v M ⟨rfl, rfl⟩
  refine go ?_
  exact ⟨rfl, [_, _], ⟨Res.cell rfl le0 nl, Res.tmp rfl, trivial⟩, DevH b d :: R, ent, rfl, rfl⟩
end Go.SL

/- Layer 37 (fsck): any report has the document's line; walked. -/
namespace Go.SL
open Go.Proofs
set_option linter.unusedVariables false
set_option linter.unusedSimpArgs false
set_option linter.unusedSectionVars false
set_option maxRecDepth 10000
set_option maxHeartbeats 4000000
attribute [local irreducible] W WO SV OW SW Tri Ent Tk Has Src SrcK DA DB DP RdS Own OwnT MapH WetH RngH
theorem l37_one (L : List HP) : TriE Tryz.prog 18 #[] (fun w M => w = .bool true ∧ M = L) L := by
  obtain ⟨d1, d2, d3, p, q, hq, hlz⟩ := Em.splitD em60d
  obtain ⟨c1, c2, c3, c4, c5, c6⟩ := Em.splitC em60c
  obtain ⟨w1, sq1⟩ := lgOkB_w c2
  have ok5 : (Em.d5 ⟨60, 20⟩).Ok := by
    obtain ⟨a1, a2, a3, a4, a5, a6, a7, a8, a9, a10⟩ := Em.split em60
    obtain ⟨b1, b2, b3, b4, b5, b6, b7⟩ := Em.splitB em60b
    have ok0 := Dv.new_ok (n := 60) (by decide)
    have f1 := fmtS_step (Dv.new 60) ok0 20
    have f1' : (Em.d0 ⟨60, 20⟩).Ok := f1.1
    have f2 := openP_step (Em.d0 ⟨60, 20⟩) f1'
    have f2' : (Em.d1 ⟨60, 20⟩).Ok := f2.1
    have f3 := doneP_step (Em.d1 ⟨60, 20⟩) (Em.g1 ⟨60, 20⟩) (Em.cs ⟨60, 20⟩) f2'
    have f3' : (Em.d2 ⟨60, 20⟩).Ok := f3.1
    have f4 := openP_step (Em.d2 ⟨60, 20⟩) f3'
    have f4' : (Em.d3 ⟨60, 20⟩).Ok := f4.1
    have f5 := readL_step (Em.d3 ⟨60, 20⟩) f4' (Em.g3 ⟨60, 20⟩) 0
    have f5' : (Em.d4 ⟨60, 20⟩).Ok := f5.1.1
    exact (readL_step (Em.d4 ⟨60, 20⟩) f5' (Em.g4 ⟨60, 20⟩) 1).1.1
  refine Tri.of (N := 52) (args := []) Tryz.func18 rfl rfl rfl ?_
  refine go ?_
  refine WO.cal (l13_Made0 ⟨60, 20⟩ _ (by decide) (by decide) em60 em60b (by decide) (by decide)) ?_
  rintro v M ⟨db, sb, lb, mb, ua, uc, rfl, hua, rfl⟩
  have hLk := fun R => fs_Look0 db (Em.d5 ⟨60, 20⟩) _ _ _ _ _ _ 3 3 q p 20 38 R ok5 d1 (by rw [d2]; decide) d3 hlz (by rw [d2]; decide) (by decide) c1 w1.eq c3 c4 (by decide) (by decide) c5 c6
  rw [show Em.n ⟨60, 20⟩ = 38 from rfl] at *
  generalize Em.g5 ⟨60, 20⟩ = gl at *
  generalize Em.d5 ⟨60, 20⟩ = dl at *
  refine go ?_
  refine WO.calX (hLk (pts sb (.cells (StL lb ua uc (emB 38).length (38 : Nat)).toArray 34) :: OS ua uc (emB 38) :: LgP lb db gl mb :: WetH mb gl.wet :: L)) ent ?_
  rintro v M ⟨rfl, rfl⟩
  refine go ?_
  intro b3
  refine go ?_
  refine WO.cal (fs_Sound 3 3 q 20 38 2 0 0 0 0 _ (by decide) (by decide) (by decide) (by decide) (by decide) (by decide)) ?_
  rintro v M ⟨rfl, rfl⟩
  refine go ?_
  rw [show sndB 38 2 0 0 0 0 = true from by decide]
  refine go ?_
  exact ⟨rfl, [_], ⟨Res.tmp rfl, trivial⟩, L, ent, rfl, rfl⟩
theorem l37_texts (g e q : Nat) (a1 a2 a3 a4 a5 a6 a7 : Int) (L : List HP) (hg : g < 18446744073709551616) (he : e < 18446744073709551616) (hq : q < 18446744073709551616) (hx : ∀ x ∈ [a1, a2, a3, a4, a5, a6, a7], -9223372036854775808 ≤ x ∧ x ≤ 9223372036854775807) :
    TriE Tryz.prog 5 #[.agg #[.int .u64 g, .int .u64 e, .int .u64 q, .int .i64 a1, .int .i64 a2, .int .i64 a3, .int .i64 a4, .int .i64 a5, .int .i64 a6, .int .i64 a7]] (fun w M => w = .bool true ∧ M = L) L := by
  have hx2 : ∀ x ∈ [a1, a2, a3, a4, a5, a6, a7], x ≤ 9223372036854775807 := fun x h => (hx x h).2
  have b1 := hx a1 (by simp)
  have b2 := hx a2 (by simp)
  have b3 := hx a3 (by simp)
  have b4 := hx a4 (by simp)
  have b5 := hx a5 (by simp)
  have b6 := hx a6 (by simp)
  have b7 := hx a7 (by simp)
  have hlt := rpN_lt g e q [a1, a2, a3, a4, a5, a6, a7] hg he hq hx2
  have hns : [.int .u64 g, .int .u64 e, .int .u64 q, .int .u64 (max a1 0), .int .u64 (max a2 0), .int .u64 (max a3 0), .int .u64 (max a4 0), .int .u64 (max a5 0), .int .u64 (max a6 0), .int .u64 (max a7 0)] = (rpN g e q [a1, a2, a3, a4, a5, a6, a7]).map fun x => Value.int .u64 (x : Nat) := by
    have hm : ∀ x : Int, ((max x 0).toNat : Int) = max x 0 := fun x => by omega
    simp [rpN, hm]
  obtain ⟨x2, hx2m, ex2⟩ := i64_mask a2 4095 (by decide)
  obtain ⟨x3, hx3m, ex3⟩ := i64_mask a3 4095 (by decide)
  obtain ⟨x4, hx4m, ex4⟩ := i64_mask a4 4095 (by decide)
  obtain ⟨x5, hx5m, ex5⟩ := i64_mask a5 4095 (by decide)
  obtain ⟨x6, hx6m, ex6⟩ := i64_mask a6 4095 (by decide)
  obtain ⟨x7, hx7m, ex7⟩ := i64_mask a7 1048575 (by decide)
  refine Tri.of (N := 115) (args := [.agg #[.int .u64 g, .int .u64 e, .int .u64 q, .int .i64 a1, .int .i64 a2, .int .i64 a3, .int .i64 a4, .int .i64 a5, .int .i64 a6, .int .i64 a7]]) Tryz.func5 rfl rfl rfl ?_
  refine go ?_
  intro c1
  refine go ?_
  refine WO.sv rfl ?_
  refine SV.buildArr parts rfl nl ?_
  refine go ?_
  intro c3
  refine go ?_
  refine WO.sv rfl ?_
  refine SV.buildArr parts rfl nl ?_
  refine go ?_
  intro c4
  refine go ?_
  refine W.loopS 4396972769312 rfl (fun i : Nat => [(5, .int .i64 (i : Int))]) (fun i => pts c3 (.cells (match i with
    | 0 => [.int .u64 g, .int .u64 e, .int .u64 q, .int .u64 0, .int .u64 0, .int .u64 0, .int .u64 0, .int .u64 0, .int .u64 0, .int .u64 0]
    | 1 => [.int .u64 g, .int .u64 e, .int .u64 q, .int .u64 (max a1 0), .int .u64 0, .int .u64 0, .int .u64 0, .int .u64 0, .int .u64 0, .int .u64 0]
    | 2 => [.int .u64 g, .int .u64 e, .int .u64 q, .int .u64 (max a1 0), .int .u64 (max a2 0), .int .u64 0, .int .u64 0, .int .u64 0, .int .u64 0, .int .u64 0]
    | 3 => [.int .u64 g, .int .u64 e, .int .u64 q, .int .u64 (max a1 0), .int .u64 (max a2 0), .int .u64 (max a3 0), .int .u64 0, .int .u64 0, .int .u64 0, .int .u64 0]
    | 4 => [.int .u64 g, .int .u64 e, .int .u64 q, .int .u64 (max a1 0), .int .u64 (max a2 0), .int .u64 (max a3 0), .int .u64 (max a4 0), .int .u64 0, .int .u64 0, .int .u64 0]
    | 5 => [.int .u64 g, .int .u64 e, .int .u64 q, .int .u64 (max a1 0), .int .u64 (max a2 0), .int .u64 (max a3 0), .int .u64 (max a4 0), .int .u64 (max a5 0), .int .u64 0, .int .u64 0]
    | 6 => [.int .u64 g, .int .u64 e, .int .u64 q, .int .u64 (max a1 0), .int .u64 (max a2 0), .int .u64 (max a3 0), .int .u64 (max a4 0), .int .u64 (max a5 0), .int .u64 (max a6 0), .int .u64 0]
    | _ => [.int .u64 g, .int .u64 e, .int .u64 q, .int .u64 (max a1 0), .int .u64 (max a2 0), .int .u64 (max a3 0), .int .u64 (max a4 0), .int .u64 (max a5 0), .int .u64 (max a6 0), .int .u64 (max a7 0)] : List Value).toArray 54) :: pts c4 (.cells [.int .i64 a1, .int .i64 a2, .int .i64 a3, .int .i64 a4, .int .i64 a5, .int .i64 a6, .int .i64 a7].toArray 55) :: pts c1 (.cells [.int .u64 g, .int .u64 e, .int .u64 q, .int .i64 a1, .int .i64 a2, .int .i64 a3, .int .i64 a4, .int .i64 a5, .int .i64 a6, .int .i64 a7].toArray 53) :: L) (fun i => i ≤ 7) (fun i => 7 - i) 0 ⟨rfl, trivial⟩ (Nat.zero_le _) (Ent.app ent) ?_
  intro i bg hi
  by_cases h0 : i = 0
  · subst h0
    refine go ?_
    exact ⟨1, ⟨rfl, trivial⟩, rfl, by decide, by decide, Ent.app ent⟩
  by_cases h1 : i = 1
  · subst h1
    refine go ?_
    exact ⟨2, ⟨rfl, trivial⟩, rfl, by decide, by decide, Ent.app ent⟩
  by_cases h2 : i = 2
  · subst h2
    refine go ?_
    exact ⟨3, ⟨rfl, trivial⟩, rfl, by decide, by decide, Ent.app ent⟩
  by_cases h3 : i = 3
  · subst h3
    refine go ?_
    exact ⟨4, ⟨rfl, trivial⟩, rfl, by decide, by decide, Ent.app ent⟩
  by_cases h4 : i = 4
  · subst h4
    refine go ?_
    exact ⟨5, ⟨rfl, trivial⟩, rfl, by decide, by decide, Ent.app ent⟩
  by_cases h5 : i = 5
  · subst h5
    refine go ?_
    exact ⟨6, ⟨rfl, trivial⟩, rfl, by decide, by decide, Ent.app ent⟩
  by_cases h6 : i = 6
  · subst h6
    refine go ?_
    exact ⟨7, ⟨rfl, trivial⟩, rfl, by decide, by decide, Ent.app ent⟩
  obtain rfl : i = 7 := by omega
  show W _ _ _ _ _ _ (pts c3 (.cells ([.int .u64 g, .int .u64 e, .int .u64 q, .int .u64 (max a1 0), .int .u64 (max a2 0), .int .u64 (max a3 0), .int .u64 (max a4 0), .int .u64 (max a5 0), .int .u64 (max a6 0), .int .u64 (max a7 0)] : List Value).toArray 54) :: pts c4 (.cells [.int .i64 a1, .int .i64 a2, .int .i64 a3, .int .i64 a4, .int .i64 a5, .int .i64 a6, .int .i64 a7].toArray 55) :: pts c1 (.cells [.int .u64 g, .int .u64 e, .int .u64 q, .int .i64 a1, .int .i64 a2, .int .i64 a3, .int .i64 a4, .int .i64 a5, .int .i64 a6, .int .i64 a7].toArray 53) :: L)
  rw [hns]
  have hrl : (rpN g e q [a1, a2, a3, a4, a5, a6, a7]).length = 10 := rfl
  have hTx := fun M => fs_Text g e q a1 a2 a3 a4 a5 a6 a7 M hg he hq hx2
  generalize rpN g e q [a1, a2, a3, a4, a5, a6, a7] = ns at *
  have hmm : (ns.map fun x => Value.int .u64 (x : Nat)).length = 10 := by rw [List.length_map, hrl]
  have hRT := fun M => r37_Text ns M hrl hlt
  generalize (ns.map fun x => Value.int .u64 (x : Nat)) = vs at *
  refine go ?_
  refine W.drawB #[0, 1, 0, 7, 15] [pts c1 (.cells [.int .u64 g, .int .u64 e, .int .u64 q, .int .i64 a1, .int .i64 a2, .int .i64 a3, .int .i64 a4, .int .i64 a5, .int .i64 a6, .int .i64 a7].toArray 53), pts c3 (.cells vs.toArray 54)] (pts c4 (.cells [.int .i64 a1, .int .i64 a2, .int .i64 a3, .int .i64 a4, .int .i64 a5, .int .i64 a6, .int .i64 a7].toArray 55) :: L) rfl (by kernel_rfl) (by kernel_rfl) (by kernel_rfl) ent ?_
  refine go ?_
  refine DB.cal hl hl (hTx _) ?_
  rintro v M ⟨rfl, rfl⟩
  refine ⟨[], pts c4 (.cells [.int .i64 a1, .int .i64 a2, .int .i64 a3, .int .i64 a4, .int .i64 a5, .int .i64 a6, .int .i64 a7].toArray 55) :: L, ent, ?_⟩
  refine go ?_
  refine DB.q (v := .agg vs.toArray) rfl rfl hl (SV.loadRN (k := 10) (vs := vs) 0 rfl (RdS.all (l := vs) (sz := 1) (n := 10) hmm).cons rfl (by decide) (by rw [hmm]; decide) (sub_fullH hmm) eqq) ?_
  refine DB.cal hl hl (hRT _) ?_
  rintro v M ⟨rfl, rfl⟩
  refine ⟨[], pts c4 (.cells [.int .i64 a1, .int .i64 a2, .int .i64 a3, .int .i64 a4, .int .i64 a5, .int .i64 a6, .int .i64 a7].toArray 55) :: L, ent, ?_⟩
  refine DB.q (v := .bool false) rfl rfl hl (SV.neqS rfl rfl (by rw [decide_eq_true rfl]; exact ⟨rfl, rfl⟩)) ?_
  refine go ?_
  refine ⟨pts c1 (.cells [.int .u64 g, .int .u64 e, .int .u64 q, .int .i64 a1, .int .i64 a2, .int .i64 a3, .int .i64 a4, .int .i64 a5, .int .i64 a6, .int .i64 a7].toArray 53) :: L, ent, ?_⟩
  refine go ?_
  refine WO.sv rfl ?_
  refine SV.band rfl rfl ex2 ?_
  refine go ?_
  refine WO.sv rfl ?_
  refine SV.band rfl rfl ex3 ?_
  refine go ?_
  refine WO.sv rfl ?_
  refine SV.band rfl rfl ex4 ?_
  refine go ?_
  refine WO.sv rfl ?_
  refine SV.band rfl rfl ex5 ?_
  refine go ?_
  refine WO.sv rfl ?_
  refine SV.band rfl rfl ex6 ?_
  refine go ?_
  refine WO.sv rfl ?_
  refine SV.band rfl rfl ex7 ?_
  obtain ⟨mp, hmp⟩ : ∃ mp : Nat, (x2 + 2047) / 2048 = mp := ⟨_, rfl⟩
  have hS : sndB x2 x3 x4 x5 x6 x7 = decide (x3 = 1 + mp + x5 + x6 ∧ x5 ≤ x4 ∧ x6 ≤ x7 ∧ x7 ≤ 256 * x6) := by unfold sndB; rw [hmp]
  have hSn := fun M => fs_Sound g e q a1 x2 x3 x4 x5 x6 x7 M (by omega) (by omega) (by omega) (by omega) (by omega) (by omega)
  rw [hS] at hSn
  clear hS
  by_cases z1 : x3 = 1 + mp + x5 + x6
  rotate_left
  · rw [decide_eq_false (fun z => z1 z.1)] at hSn
    refine go ?_
    refine WO.cal (hSn _) ?_
    rintro v M ⟨rfl, rfl⟩
    refine go ?_
    refine WO.cal (l37_one _) ?_
    rintro v M ⟨rfl, rfl⟩
    refine go ?_
    exact ⟨rfl, [_], ⟨Res.tmp rfl, trivial⟩, L, ent, rfl, rfl⟩
  by_cases z2 : x5 ≤ x4
  rotate_left
  · rw [decide_eq_false (fun z => z2 z.2.1)] at hSn
    refine go ?_
    refine WO.cal (hSn _) ?_
    rintro v M ⟨rfl, rfl⟩
    refine go ?_
    refine WO.cal (l37_one _) ?_
    rintro v M ⟨rfl, rfl⟩
    refine go ?_
    exact ⟨rfl, [_], ⟨Res.tmp rfl, trivial⟩, L, ent, rfl, rfl⟩
  by_cases z3 : x6 ≤ x7
  rotate_left
  · rw [decide_eq_false (fun z => z3 z.2.2.1)] at hSn
    refine go ?_
    refine WO.cal (hSn _) ?_
    rintro v M ⟨rfl, rfl⟩
    refine go ?_
    refine WO.cal (l37_one _) ?_
    rintro v M ⟨rfl, rfl⟩
    refine go ?_
    exact ⟨rfl, [_], ⟨Res.tmp rfl, trivial⟩, L, ent, rfl, rfl⟩
  by_cases z4 : x7 ≤ 256 * x6
  rotate_left
  · rw [decide_eq_false (fun z => z4 z.2.2.2)] at hSn
    refine go ?_
    refine WO.cal (hSn _) ?_
    rintro v M ⟨rfl, rfl⟩
    refine go ?_
    refine WO.cal (l37_one _) ?_
    rintro v M ⟨rfl, rfl⟩
    refine go ?_
    exact ⟨rfl, [_], ⟨Res.tmp rfl, trivial⟩, L, ent, rfl, rfl⟩
  · rw [decide_eq_true ⟨z1, z2, z3, z4⟩] at hSn
    refine go ?_
    refine WO.cal (hSn _) ?_
    rintro v M ⟨rfl, rfl⟩
    refine go ?_
    refine WO.cal (l37_one _) ?_
    rintro v M ⟨rfl, rfl⟩
    refine go ?_
    exact ⟨rfl, [_], ⟨Res.tmp rfl, trivial⟩, L, ent, rfl, rfl⟩
end Go.SL

/- Layer 37 (fsck): a report that comes in. -/
namespace Go.SL
open Go.Proofs
set_option linter.unusedVariables false
set_option linter.unusedSimpArgs false
set_option linter.unusedSectionVars false
set_option maxRecDepth 10000
set_option maxHeartbeats 4000000
open Go.RowKit Go.WideShapes
theorem arg_report {H : Type} {enc : TypeId × Value → H} {w : World} {base b0 : Nat} {spare : Nat → Bool} {held : Bool} {r : Reach} {v : Value} {d : DataW H} {ps : List MemPlace}
    (hv : Value.okWide Tryz.prog w r b0 53 v) (h : DataW.Trod enc Tryz.prog w base spare held 53 v d ps) :
    ∃ (g e q : Nat) (a1 a2 a3 a4 a5 a6 a7 : Int), v = .agg #[.int .u64 g, .int .u64 e, .int .u64 q, .int .i64 a1, .int .i64 a2, .int .i64 a3, .int .i64 a4, .int .i64 a5, .int .i64 a6, .int .i64 a7] ∧ g < 18446744073709551616 ∧ e < 18446744073709551616 ∧ q < 18446744073709551616 ∧ ∀ x ∈ [a1, a2, a3, a4, a5, a6, a7], -9223372036854775808 ≤ x ∧ x ≤ 9223372036854775807 := by
  obtain ⟨xs, rfl, hxl, hx⟩ := arg_struct Tryz.underlying53 hv h
  have hxl : xs.length = 10 := hxl.trans (by kernel_rfl)
  obtain ⟨_, hf⟩ := hx.agg Tryz.underlying53
  match xs, hxl with
  | [x0, x1, x2, x3, x4, x5, x6, x7, x8, x9], _ =>
    obtain ⟨g, e0, g0⟩ := (hf 0 _ rfl).u64 Tryz.underlying51
    obtain ⟨e, e1, g1⟩ := (hf 1 _ rfl).u64 Tryz.underlying51
    obtain ⟨q, e2, g2⟩ := (hf 2 _ rfl).u64 Tryz.underlying51
    obtain ⟨a1, e3, g3⟩ := (hf 3 _ rfl).i64 Tryz.underlying3
    obtain ⟨a2, e4, g4⟩ := (hf 4 _ rfl).i64 Tryz.underlying3
    obtain ⟨a3, e5, g5⟩ := (hf 5 _ rfl).i64 Tryz.underlying3
    obtain ⟨a4, e6, g6⟩ := (hf 6 _ rfl).i64 Tryz.underlying3
    obtain ⟨a5, e7, g7⟩ := (hf 7 _ rfl).i64 Tryz.underlying3
    obtain ⟨a6, e8, g8⟩ := (hf 8 _ rfl).i64 Tryz.underlying3
    obtain ⟨a7, e9, g9⟩ := (hf 9 _ rfl).i64 Tryz.underlying3
    have q0 : [x0] = [Value.int .u64 g] := e0
    have q1 : [x1] = [Value.int .u64 e] := e1
    have q2 : [x2] = [Value.int .u64 q] := e2
    have q3 : [x3] = [Value.int .i64 a1] := e3
    have q4 : [x4] = [Value.int .i64 a2] := e4
    have q5 : [x5] = [Value.int .i64 a3] := e5
    have q6 : [x6] = [Value.int .i64 a4] := e6
    have q7 : [x7] = [Value.int .i64 a5] := e7
    have q8 : [x8] = [Value.int .i64 a6] := e8
    have q9 : [x9] = [Value.int .i64 a7] := e9
    injection q0 with q0; injection q1 with q1; injection q2 with q2; injection q3 with q3; injection q4 with q4; injection q5 with q5; injection q6 with q6; injection q7 with q7; injection q8 with q8; injection q9 with q9
    subst q0; subst q1; subst q2; subst q3; subst q4; subst q5; subst q6; subst q7; subst q8; subst q9
    refine ⟨g, e, q, a1, a2, a3, a4, a5, a6, a7, rfl, g0, g1, g2, ?_⟩
    intro x hx
    simp only [List.mem_cons, List.mem_nil_iff, or_false] at hx
    rcases hx with rfl | rfl | rfl | rfl | rfl | rfl | rfl
    · exact ⟨g3.1, g3.2⟩
    · exact ⟨g4.1, g4.2⟩
    · exact ⟨g5.1, g5.2⟩
    · exact ⟨g6.1, g6.2⟩
    · exact ⟨g7.1, g7.2⟩
    · exact ⟨g8.1, g8.2⟩
    · exact ⟨g9.1, g9.2⟩
end Go.SL
