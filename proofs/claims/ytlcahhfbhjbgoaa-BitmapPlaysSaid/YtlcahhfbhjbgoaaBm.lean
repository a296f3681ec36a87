/- Layer 11: what its functions do, each walked once. -/
import Derived.Test.YtlcahhfbhjbgoaaSlF
import Derived.Test.YtlcahhfbhjbgoaaTy
namespace Go.SL
open Go.Proofs
set_option linter.unusedVariables false
set_option maxRecDepth 10000

theorem ent_own {E sz n b : Nat} {xs : List Value} {L : List HP} (h : xs.length = n * sz) : Ent (pts b (.cells xs.toArray E) :: L) (Own E sz (.slice (some ⟨b, 0, none⟩) n n) n xs :: L) := fun k x =>
  own_of (sp := []) (fr := (0, 0)) ⟨rfl, Nat.le_refl _, h, by simp, .inl (Nat.le_refl _)⟩ (by rw [List.append_nil]; exact x)

attribute [local irreducible] W WO SV OW SW Tri Ent Tk Has Src SrcK DA DB RdS Own

/-- A row of bytes of one's own. -/
def OB (a : Option Addr) (c : Nat) (bs : List Nat) : HP := Own 5 1 (.slice a bs.length c) bs.length (bs.map u8)
def SomeA (a : Option Addr) (m : Nat) : Prop := m ≠ 0 → ∃ b, a = some ⟨b, 0, none⟩
/-- A set, as a value. -/
def BV (a : Option Addr) (c : Nat) (bs : List Nat) (n : Int) : Value := .agg #[.slice a bs.length c, .int .i64 n]
def clip (n : Int) : Nat := (max 0 (min n 4096)).toNat

theorem clip_eq (n : Int) : ((clip n : Nat) : Int) = max 0 (min n 4096) := by unfold clip; omega

theorem bm_NewP (n : Int) (L : List HP) : TriE Try.prog 19 #[.int .i64 n]
    (fun v M => ∃ b, v = .agg #[.slice (some ⟨b, 0, none⟩) ((clip n + 7) / 8) ((clip n + 7) / 8), .int .i64 (clip n)] ∧ M = pts b (.cells (List.replicate ((clip n + 7) / 8) (u8 0)).toArray 5) :: L) L := by
  refine Tri.of (N := 14) (args := [.int .i64 n]) Try.func19 rfl rfl rfl ?_
  refine go ?_
  intro b0
  refine go ?_
  refine WO.sv rfl ?_
  refine SV.makeSlice rfl (m := (clip n + 7) / 8) (by simp only [clip]; omega) (by simp only [clip]; omega) (by simp only [clip]; omega) ?_
  intro b1
  refine go ?_
  refine ⟨rfl, [_], ⟨Res.cell rfl le0 nl, trivial⟩, pts b1 (.cells (List.replicate ((clip n + 7) / 8) (u8 0)).toArray 5) :: L, ent, b1, ?_, rfl⟩
  simp only [retV, clip_eq]
theorem bm_New (n : Int) (L : List HP) : TriE Try.prog 19 #[.int .i64 n]
    (fun v M => ∃ a c, v = BV a c (List.replicate ((clip n + 7) / 8) 0) (clip n) ∧ SomeA a (List.replicate ((clip n + 7) / 8) 0).length ∧ M = OB a c (List.replicate ((clip n + 7) / 8) 0) :: L) L := by
  refine Tri.mono (bm_NewP n L) ?_
  rintro v L' ⟨M, e, b, rfl, rfl⟩
  refine ⟨_, e.trans (ent_own (sz := 1) (n := (clip n + 7) / 8) (by simp)), some ⟨b, 0, none⟩, (clip n + 7) / 8, ?_, fun _ => ⟨b, rfl⟩, ?_⟩
  · simp only [BV, List.length_replicate]
  · simp only [OB, List.length_replicate, List.map_replicate]

theorem bm_Len (a : Option Addr) (m c : Nat) (n : Int) (L : List HP) : TriE Try.prog 18 #[.agg #[.slice a m c, .int .i64 n]] (fun v M => v = .int .i64 n ∧ M = L) L := by
  refine Tri.of (N := 5) (args := [.agg #[.slice a m c, .int .i64 n]]) Try.func18 rfl rfl rfl ?_
  refine go ?_
  intro b0
  refine go ?_
  exact ⟨rfl, [_], ⟨Res.tmp rfl, trivial⟩, L, ent, rfl, rfl⟩

theorem bm_Bytes (a : Option Addr) (c : Nat) (bs : List Nat) (n : Int) (L : List HP) (h0 : bs.length ≤ 1000) (r : RdS 1 a bs.length (bs.map u8) L) :
    TriE Try.prog 12 #[BV a c bs n] (fun v M => ∃ a' c', v = .slice a' bs.length c' ∧ SomeA a' bs.length ∧ M = OB a' c' bs :: L) L := by
  refine Tri.of (N := 7) (args := [BV a c bs n]) Try.func12 rfl rfl rfl ?_
  refine go ?_
  intro b0
  refine go ?_
  refine WO.sv rfl ?_
  refine SV.lit0 ?_
  intro b1
  refine go ?_
  refine WO.ent (ent_own (sz := 1) (n := 0) rfl) ?_
  refine WO.sv rfl ?_
  refine SV.append rfl rfl rfl tk (RdS.src (RdS.cons r)) (by simp) (by simp [u8, isCell]) (by omega) rfl ?_
  intro a' c' ha'
  rw [show 0 + bs.length = bs.length from Nat.zero_add _] at ha' ⊢
  refine go ?_
  exact ⟨rfl, [_], ⟨Res.tmp rfl, trivial⟩, _, ent, a', c', rfl, ha', rfl⟩

/-! numbers -/
def bitB (bs : List Nat) (k : Nat) : Bool := (bs.getD (k / 8) 0).testBit (k % 8)
theorem OkB.get {bs : List Nat} (h : OkB bs) (j : Nat) : bs.getD j 0 < 256 := by
  rw [List.getD_eq_getElem?_getD]
  cases e : bs[j]? with
  | none => simp
  | some x => exact h x (List.mem_of_getElem? e)
theorem getu {bs : List Nat} {j : Nat} (h : j < bs.length) : (bs.map u8)[j]? = some (u8 (bs.getD j 0)) := by
  simp [h]
theorem u8bits : IntKind.bits .u8 = 8 := rfl
theorem u8_shr {x : Nat} {s : Int} (h0 : 0 ≤ s) (h1 : s < 8) : (x : Int).fdiv (2 ^ (min s.toNat (IntKind.bits .u8))) = ((x / 2 ^ s.toNat : Nat) : Int) := by
  rw [u8bits, Nat.min_eq_left (by omega), Int.fdiv_eq_ediv_of_nonneg _ (by exact Int.pow_nonneg (by decide))]
  norm_cast
theorem u8_and {a b : Int} (x y : Nat) (ha : a = x) (hb : b = y) (hx : x < 256) (hy : y < 256) : IntKind.wrap .u8 (((a % 2 ^ IntKind.bits .u8).toNat &&& (b % 2 ^ IntKind.bits .u8).toNat : Nat) : Int) = ((x &&& y : Nat) : Int) := by
  subst ha; subst hb
  have e1 : ((x : Int) % 2 ^ IntKind.bits .u8).toNat = x := by rw [u8bits]; omega
  have e2 : ((y : Int) % 2 ^ IntKind.bits .u8).toNat = y := by rw [u8bits]; omega
  rw [e1, e2]
  have := Nat.and_le_left (n := x) (m := y)
  exact u8w (by omega) (by omega)

def hasB (bs : List Nat) (n : Nat) (k : Int) : Bool := decide (0 ≤ k) && (decide (k < n) && bitB bs k.toNat)

theorem bm_Has (a : Option Addr) (c : Nat) (bs : List Nat) (n : Nat) (k : Int) (L : List HP) (h0 : bs.length ≤ 1000) (hn : n ≤ 8 * bs.length) (ok : OkB bs) (r : RdS 1 a bs.length (bs.map u8) L) :
    TriE Try.prog 15 #[BV a c bs n, .int .i64 k] (fun v M => v = .bool (hasB bs n k) ∧ M = L) L := by
  refine Tri.of (N := 26) (args := [BV a c bs n, .int .i64 k]) Try.func15 rfl rfl rfl ?_
  refine go ?_
  intro b0
  refine go ?_
  refine WO.sv rfl ?_
  refine SV.geqC rfl rfl ?_ ?_
  · intro h1
    refine go ?_
    refine WO.sv rfl ?_
    refine SV.lssC rfl rfl ?_ ?_
    · intro h2
      obtain ⟨b, off, rfl⟩ := r.at (by omega)
      refine go ?_
      have hj : (k / 8).toNat < bs.length := by omega
      refine WO.sv rfl ?_
      refine SV.loadR (k / 8).toNat rfl (RdS.cons r) (by rw [Nat.mul_one]) (getu hj) ?_
      refine go ?_
      refine WO.sv rfl ?_
      refine SV.shr rfl rfl (by omega) (u8_shr (by omega) (by omega)) ?_
      have h3 := ok.get (k / 8).toNat
      refine go ?_
      refine WO.sv rfl ?_
      refine SV.band rfl rfl (u8_and _ 1 rfl rfl (Nat.lt_of_le_of_lt (Nat.div_le_self _ _) h3) (by decide)) ?_
      refine goD ?_
      refine ⟨rfl, [_], ⟨Res.tmp rfl, trivial⟩, L, ent, ?_, rfl⟩
      show Value.bool (decide (((bs.getD (k / 8).toNat 0 / 2 ^ (k % 8).toNat &&& 1 : Nat) : Int) = 1)) = _
      have e1 : (k / 8).toNat = k.toNat / 8 := by omega
      have e2 : (k % 8).toNat = k.toNat % 8 := by omega
      simp only [hasB, decide_eq_true h1, decide_eq_true h2, Bool.true_and, bitB, Nat.testBit_eq_decide_div_mod_eq, Nat.and_one_is_mod, e1, e2]
      congr 1
      exact decide_eq_decide.2 (by omega)
    · intro h2
      refine go ?_
      refine ⟨rfl, [_], ⟨Res.tmp rfl, trivial⟩, L, ent, ?_, rfl⟩
      simp only [retV, hasB, decide_eq_false (show ¬ k < (n : Int) by omega), Bool.false_and, Bool.and_false]
      rfl
  · intro h1
    refine go ?_
    refine ⟨rfl, [_], ⟨Res.tmp rfl, trivial⟩, L, ent, ?_, rfl⟩
    simp only [retV, hasB, decide_eq_false (show ¬ 0 ≤ k by omega), Bool.false_and]
    rfl

def pop (x : Nat) : Nat := ((List.range 8).filter fun i => x.testBit i).length
theorem pop_le (x : Nat) : pop x ≤ 8 := by unfold pop; have := List.length_filter_le (fun i => x.testBit i) (List.range 8); simpa using this
theorem f_ones (x : Nat) (L : List HP) (hx : x < 256) : TriE Try.prog 55 #[u8 x] (fun v M => v = .int .i64 (pop x) ∧ M = L) L := by
  refine Tri.of (N := 6) (args := [u8 x]) Try.func55 rfl rfl rfl ?_
  refine go ?_
  refine WO.sv rfl ?_
  refine SV.indexS (i := (x : Int)) (k := .u8) (c := (pop x).toUInt8) rfl rfl (by omega) ?_ ?_
  · rw [Int.toNat_natCast]
    revert hx
    revert x
    decide
  refine go ?_
  refine ⟨rfl, [_], ⟨Res.tmp rfl, trivial⟩, L, ent, ?_, rfl⟩
  have := pop_le x
  have e : (pop x).toUInt8.toNat = pop x := by simp [Nat.toUInt8]; omega
  show Value.int .i64 (IntKind.wrap .i64 ((pop x).toUInt8.toNat : Int)) = _
  rw [e, i64w (by omega) (by omega)]

def sumPop (bs : List Nat) : Nat := (bs.map pop).sum
theorem sumPop_le (bs : List Nat) : sumPop bs ≤ 8 * bs.length := by
  induction bs with
  | nil => simp [sumPop]
  | cons x l ih => have := pop_le x; simp only [sumPop, List.map_cons, List.sum_cons, List.length_cons] at ih ⊢; omega
theorem sumPop_take {bs : List Nat} {i : Nat} (h : i < bs.length) : sumPop (bs.take (i + 1)) = sumPop (bs.take i) + pop (bs.getD i 0) := by
  rw [List.take_succ_eq_append_getElem h]
  simp only [sumPop, List.map_append, List.sum_append, List.map_cons, List.map_nil, List.sum_cons, List.sum_nil, Nat.add_zero]
  simp [h]
theorem bm_Used (a : Option Addr) (c : Nat) (bs : List Nat) (n : Int) (L : List HP) (h0 : bs.length ≤ 1000) (ok : OkB bs) (r : RdS 1 a bs.length (bs.map u8) L) :
    TriE Try.prog 17 #[BV a c bs n] (fun v M => v = .int .i64 (sumPop bs) ∧ M = L) L := by
  refine Tri.of (N := 19) (args := [BV a c bs n]) Try.func17 rfl rfl rfl ?_
  refine go ?_
  intro b0
  refine go ?_
  refine W.loopS 261672 rfl (fun i : Nat => [(3, i64V (sumPop (bs.take i))), (9, i64V i)]) (fun _ => pts b0 (.cells [Value.slice a bs.length c, Value.int IntKind.i64 n].toArray 24) :: L) (fun i => i ≤ bs.length) (fun i => bs.length - i) 0 ⟨rfl, rfl, trivial⟩ (Nat.zero_le _) (fun _ _ x => x) ?_
  intro i bg hi
  have hp := sumPop_le (bs.take i)
  rw [List.length_take] at hp
  refine goD ?_
  refine W.if rfl ?_ ?_
  · intro h1
    obtain ⟨b, off, rfl⟩ := r.at (by omega)
    refine go ?_
    refine WO.sv rfl ?_
    refine SV.loadR i rfl rds (by simp) (getu (by omega)) ?_
    refine go ?_
    refine WO.callE (vs := [u8 (bs.getD i 0)]) Try.func55 rfl rfl rfl rfl (f_ones _ _ (ok.get i)) ?_
    rintro v M ⟨rfl, rfl⟩
    have hq := pop_le (bs.getD i 0)
    refine go ?_
    refine ⟨i + 1, ⟨?_, rfl, trivial⟩, rfl, by omega, by omega, fun _ _ x => x⟩
    show Value.int .i64 _ = _
    rw [i64V, sumPop_take (by omega)]; rfl
  · intro h1
    refine go ?_
    refine ⟨rfl, [_], ⟨Res.tmp rfl, trivial⟩, L, ent, ?_, rfl⟩
    show Value.int .i64 _ = _
    rw [List.take_of_length_le (by omega)]
end Go.SL
